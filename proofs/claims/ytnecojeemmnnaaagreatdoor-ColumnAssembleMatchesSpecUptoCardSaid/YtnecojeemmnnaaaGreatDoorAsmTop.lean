/- 'ColumnAssembleMatchesSpec' returns true for every input of bulk at most 1048576, and leaves its arguments as they were. -/
import Derived.Test.YtnecojeemmnnaaaGreatDoorRows
import Derived.Test.YtnecojeemmnnaaaGreatDoorCards
import Derived.Test.YtnecojeemmnnaaaGreatDoorTie
import Derived.JoinedOf
import Derived.Handed
import Derived.OpenShut
import Derived.Deep.DeepHandedRow
import Derived.Lib.LaidU8T
import Derived.PinnedBridge
import Derived.Lay
import Derived.LaidMore
import Derived.SevenTiedAt
import Derived.Stop.Joined
import Derived.Test.YtnecojeemmnnaaaGreatDoorLaB
set_option linter.unusedVariables false
set_option linter.unusedSimpArgs false
set_option linter.unnecessarySimpa false
namespace Go.Proofs.YtnecojeemmnnaaaGreatDoor
open Go Go.SX Go.SX.Cal Go.ChangeShapes Go.WideShapes Go.ChangeAt Go.RowKit
theorem tI{H:Type}:∀l:List (DataW H),Rows.uptoBulkAll l=(l.map Rows.uptoBulk).sum
 |[]=>by simp[Rows.uptoBulkAll]
 |d::l=>by simp[Rows.uptoBulkAll,tI l]
def KA:vP where
 f:=Rows.uptoBulk
 one d:=by
  cases d with
  |lit l=>cases l<;>simp[Rows.uptoBulk]
  |_=>simp[Rows.uptoBulk]
 str b:=by simp[Rows.uptoBulk]
 sl e s:=by simp only[Rows.uptoBulk,tI];omega
 ag ps:=by simp only[Rows.uptoBulk,tI];omega
theorem own:ownKnob Tryz.prog.godebug=none:=by kernel_rfl
theorem Ke:laidOutB Tryz.prog=true:=by kernel_rfl
set_option maxRecDepth 100000 in
theorem Kg:U8Extra Tryz.prog KR:=⟨by kernel_rfl,by kernel_rfl,by kernel_rfl,by kernel_rfl,by kernel_rfl,by kernel_rfl,by kernel_rfl⟩
theorem F2{W:World}(hL:laidMetH Tryz.prog Rows.columnAssembleMatchesSpecRow.laid W):∀(b:Nat) (l:List Value),C2 b=some l→b<W.heap.size∧Nl W b l:=by
 rw[MakeChecks.laidMetH_plain _ _ _ (by kernel_rfl)]at hL
 have h4:=Go.Lib.laidMet.reads hL (d:=Rows.laid_unicode_utf8_acceptRanges) (.head _)
 have h3:=Go.Lib.laidMet.reads hL (d:=Rows.laid_unicode_utf8_first) (.tail _ (.head _))
 rw[show Rows.laid_unicode_utf8_first=Lib.firstData from Pinned.utf8First_eq]at h3
 rw[show(Rows.laid_unicode_utf8_acceptRanges:DataW Unit)=Lib.acceptData by kernel_rfl]at h4
 obtain⟨a,b⟩:=KD (utf8Tabs_of_readsT (U8Types.of196 HE) Kg h3 h4)
 have lt:∀(g:Nat) (v:Value),W.cell? ⟨g,0,Option.none⟩=some v→g<W.heap.size:=by
  intro g v h
  by_cases hg:g<W.heap.size
  ·exact hg
  ·simp[World.cell?,Array.getElem?_eq_none (Nat.le_of_not_lt hg)]at h
 intro g l hg
 unfold C2 at hg
 split at hg
 ·rename_i e;subst e
  obtain rfl:=Option.some.inj hg
  exact⟨lt _ _ (a 0 _ rfl),a,fun h=>absurd rfl h,fun h=>absurd h (show¬(0:Nat)=3 by decide)⟩
 ·split at hg
  ·rename_i e;subst e
   obtain rfl:=Option.some.inj hg
   exact⟨lt _ _ (b 0 _ rfl),b,fun h=>absurd rfl h,fun h=>absurd h (show¬(0:Nat)=3 by decide)⟩
  ·cases hg
namespace ColumnAssembleMatchesSpec
set_option maxRecDepth 100000 in
theorem ID(H:Type)(enc:TypeId×Value→H)(W:World)(base:Nat)(args:Array Value)(ds gs:List (DataW H))(before:List MemPlace)
  (hval:∀(j:Nat) t v,Tryz.f4.params[j]? =some t→args[j]? =some v→Value.okWide Tryz.prog W .any base t v)
  (hW:DataW.Whole enc Tryz.prog Tryz.f4.params.toList Rows.columnAssembleMatchesSpecSpec.vars false W args.toList ds gs before)(hk:Rows.uptoSmall H (ds++gs)=true)(hL:laidMetH Tryz.prog Rows.columnAssembleMatchesSpecRow.laid W):
  Calls Tryz.prog 4 args W fun e W'=>∃v,e= .returned v∧Rows.columnAssembleMatchesSpecSpec.post enc Tryz.prog Tryz.f4 false true false false W args v W':=by
 have hW':=hW
 obtain⟨p,q,hA0,hV,rfl,hfz,hnd⟩:=hW
 have hp:Tryz.f4.params= #[22,36]:=by kernel_rfl
 have hA:DataW.TrodAll enc Tryz.prog W 0 (fun _=>true) true [22,36] args.toList ds p:=by rw[hp]at hA0;exact hA0
 have hval':∀(j:Nat) t v,(#[22,36]:Array TypeId)[j]? =some t→args[j]? =some v→Value.okWide Tryz.prog W .any base t v:=by rw[hp]at hval;exact hval
 obtain⟨v0,vs0,d0,ds0,p0,q0,hargs,rfl,rfl,h0,r0⟩:=trodAll_cons hA
 obtain⟨v1,vs1,d1,ds1,p1,q1,rfl,rfl,rfl,h1,r1⟩:=trodAll_cons r0
 obtain⟨rfl,rfl,rfl⟩:=trodAll_nil r1
 obtain rfl:args= #[v0,v1]:=by cases args;simp_all
 obtain⟨x0,o0,w0,z0⟩:=BS (B:=KA) (fun N=>HA (P:=Tryz.prog) (wfT:=fun _=>True) (szT:=gb) (wfF:=fun _=>True) (szF:=lx) (szL:=br) 24 75 3 9 4 22 (by kernel_rfl) (by kernel_rfl) (by kernel_rfl) (by kernel_rfl) (by kernel_rfl) (by kernel_rfl) (by kernel_rfl) (by kernel_rfl) ⟨by kernel_rfl,by kernel_rfl,by kernel_rfl,by kernel_rfl,by kernel_rfl⟩ (by kernel_rfl) ⟨by kernel_rfl,by kernel_rfl,by kernel_rfl,by kernel_rfl⟩ ⟨by kernel_rfl,by kernel_rfl,by kernel_rfl,by kernel_rfl⟩ ⟨by kernel_rfl,by kernel_rfl,by kernel_rfl⟩ ⟨by kernel_rfl,by kernel_rfl,by kernel_rfl⟩ (fun _ _ _ _ _ _=>trivial) LG (fun _ _ _ _ _ _=>trivial) MH (fun xs=>by rw[vZ];omega) N) (hval' 0 22 v0 rfl rfl) h0
 obtain⟨x1,o1,w1,z1⟩:=BS (B:=KA) (fun N=>Ge N) (hval' 1 36 v1 rfl rfl) h1
 obtain⟨rfl,rfl⟩:=trodVars_none hV
 have hsum:KA.f d0+KA.f d1≤1048576:=by
  have h:=of_decide_eq_true hk
  simp only[List.append_nil,List.cons_append,List.nil_append,Rows.uptoBulkAll]at h
  show Rows.uptoBulk d0+Rows.uptoBulk d1≤1048576
  omega
 have hc:=mc x0 x1 true (Ki (by omega) (by omega))
 refine(hc.call (vs:=[v0,v1]) rfl ?_ (F2 hL)).mono ?_
 ·intro j v a e1 e2
  match j,e1,e2 with
  |0,e1,e2=>simp only[List.getElem?_cons_zero,List.getElem?_cons_succ,cA]at e1 e2;subst e1;subst e2;exact Cc o0 (EJ (by kernel_rfl) (hval' 0 22 v0 rfl rfl))
  |1,e1,e2=>simp only[List.getElem?_cons_zero,List.getElem?_cons_succ,cA]at e1 e2;subst e1;subst e2;exact Cc o1 (EJ (by kernel_rfl) (hval' 1 36 v1 rfl rfl))
  |j+2,e1,e2=>simp at e1
 ·rintro e W' ⟨v,ι',rfl,hv,hk'⟩
  obtain rfl:=JZ hv
  exact⟨_,rfl,Gv hW' Ke (by kernel_rfl) hk' rfl 4 (by kernel_rfl) (by kernel_rfl) rfl⟩
set_option maxRecDepth 100000 in
theorem HK(os:Os):laidMetH Tryz.prog Rows.columnAssembleMatchesSpecUptoRow.laid ((World.laidAll Tryz.prog os Rows.columnAssembleMatchesSpecUptoRow.laid).forCall (fun _ _=>0) ⟨#[],#[.slice none 0 0,.slice none 0 0],[]⟩).memory:=by
 rw[MakeChecks.laidMetH_plain _ _ _ (by kernel_rfl)]
 exact laidMet_laidAll _ (by kernel_rfl) (by kernel_rfl)
set_option maxRecDepth 100000 in
theorem reads(os:Os){H:Type}(enc:TypeId×Value→H):∃places,DataW.whole enc Tryz.prog ((World.laidAll Tryz.prog os Rows.columnAssembleMatchesSpecUptoRow.laid).forCall (fun _ _=>0) ⟨#[],#[.slice none 0 0,.slice none 0 0],[]⟩).memory Tryz.f4.params.toList Rows.columnAssembleMatchesSpecSpec.vars false (#[.slice none 0 0,.slice none 0 0]:Array Value).toList 8=some ([.nil,.nil],[],places):=
 ⟨[],by kernel_rfl⟩
set_option maxRecDepth 100000 in
theorem MF(os:Os)(started:os.Started)(H:Type)(enc:TypeId×Value→H)(F:Stop.Interp):
  ReturnsInHanded {} Tryz.checked os 4 .any ((Rows.OpenSpec.upto Rows.columnAssembleMatchesSpecSpec).preRow enc Tryz.prog Tryz.f4 Rows.columnAssembleMatchesSpecUptoRow.domain false Rows.columnAssembleMatchesSpecUptoRow.laid) (((Rows.OpenSpec.upto Rows.columnAssembleMatchesSpecSpec).at F).post enc Tryz.prog Tryz.f4 false true false false):=by
 obtain⟨places,hx⟩:=reads os enc
 refine returnsInHanded_of_row (C:=Tryz.checked) (s:=Rows.OpenSpec.upto Rows.columnAssembleMatchesSpecSpec) own started (by kernel_rfl) Tryz.func4
  (witness_row_at (enc:=enc) (C:=Tryz.checked) false (World.laidAll Tryz.prog os Rows.columnAssembleMatchesSpecUptoRow.laid) #[.slice none 0 0,.slice none 0 0] (World.laidAll_os _ _ _) (by kernel_rfl) (by kernel_rfl) (by kernel_rfl)
   (OpenSpec.preRow_of_cond 8 hx (by kernel_rfl) (fun k hk=>by cases hk;kernel_rfl) (by kernel_rfl) (HK os))) ?_
 intro W base args ds gs before hval hW _ hcond _ hL _ _
 exact ID H enc W base args ds gs before hval hW (hcond _ rfl) hL
set_option maxRecDepth 100000 in
set_option maxHeartbeats 8000000 in
theorem MP:joinedFacts Tryz.prog 4 Tryz.f4 (Rows.OpenSpec.upto Rows.columnAssembleMatchesSpecSpec).bare Rows.columnAssembleMatchesSpecUptoRow=true:=by
 unfold joinedFacts
 simp only[fM]
 repeat' apply And.intro
 all_goals as_aux_lemma=>kernel_rfl
set_option maxRecDepth 100000 in
theorem NI:Rows.ColumnAssembleMatchesSpecUptoSaid:=
 OpenClaim.holds_of_cond 4 Tryz.f4 rfl rfl rfl rfl rfl rfl rfl ⟨rfl,rfl,rfl,rfl,rfl⟩ rfl rfl rfl rfl rfl (by kernel_rfl) Tryz.func4 MP
  (of_decide_eq_true (by kernel_rfl)) (by unfold Func.isWrapper;first|(rw[if_pos (by decide+kernel)];kernel_rfl) |(rw[if_neg (by decide+kernel)];exact⟨rfl,rfl⟩))
  (fun os started H enc _ F=>by rw[OpenClaim.pre_eq_preRow];exact MF os started H enc F)
set_option maxRecDepth 100000 in
theorem oo(f:FuncId)(fn:Func)(hf:Tryz.pinned.checked.prog.funcNamed Rows.columnAssembleMatchesSpecUptoRow.func=some f)(hfn:Tryz.pinned.checked.prog.funcs[f]? =some fn):
  false=Tryz.pinned.checked.prog.looks []∧∀(j:Nat) t,fn.params[j]? =some t→Tryz.pinned.checked.prog.wantsStandIn t=false:=by
 obtain rfl:f=4:=Option.some.inj ((show Tryz.prog.funcNamed Rows.columnAssembleMatchesSpecUptoRow.func=some 4 by kernel_rfl).symm.trans hf) |>.symm
 obtain rfl:fn=Tryz.f4:=(Option.some.inj (Tryz.func4.symm.trans hfn)).symm
 refine⟨by kernel_rfl,fun j t ht=> ?_⟩
 have hp:Tryz.f4.params= #[22,36]:=by kernel_rfl
 rw[hp]at ht
 have hm:=Array.mem_of_getElem? ht
 have all:([22,36]:List TypeId).all (fun t=> !Tryz.prog.wantsStandIn t)=true:=by kernel_rfl
 have:=List.all_eq_true.1 all t (by simpa using hm)
 exact(show Tryz.prog.wantsStandIn t=false by simpa using this)
set_option maxRecDepth 100000 in
theorem card:Rows.ColumnAssembleMatchesSpecUptoCardSaid:=
 Claim7.holds_tied_plain_at .later [] _ _ _ _ NI (fun _ h=>by cases h) (by kernel_rfl) (fun _ h=>by cases h) columnAssembleMatchesSpecUpto_row_tie rfl ⟨rfl,rfl⟩ (by kernel_rfl) rfl oo (by kernel_rfl)
end ColumnAssembleMatchesSpec
theorem columnAssembleMatchesSpec_card:Rows.ColumnAssembleMatchesSpecUptoCardSaid:=ColumnAssembleMatchesSpec.card
end Go.Proofs.YtnecojeemmnnaaaGreatDoor
