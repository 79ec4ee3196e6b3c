/- The contract of the law. -/
import Derived.Test.YtpiohnabdhpphaaGreatDoorRows
import Derived.Test.YtpiohnabdhpphaaGreatDoorCards
import Derived.Test.YtpiohnabdhpphaaGreatDoorTie
import Derived.JoinedOf
import Derived.Handed
import Derived.OpenShut
import Derived.Deep.DeepHandedRow
import Derived.Lib.LaidU8T
import Derived.PinnedBridge
import Derived.Lay
import Derived.LaidMore
import Derived.SevenTiedAt
import Derived.Stop.Joined
import Derived.Test.YtpiohnabdhpphaaGreatDoorLaC
set_option linter.unusedVariables false
set_option linter.unusedSimpArgs false
set_option linter.unnecessarySimpa false
namespace Go.Proofs.YtpiohnabdhpphaaGreatDoor
open Go Go.SX Go.SX.Cal Go.ChangeShapes Go.WideShapes Go.ChangeAt Go.RowKit
theorem EW{H:Type}:∀l:List (DataW H),Rows.uptoBulkAll l=(l.map Rows.uptoBulk).sum
 |[]=>by simp[Rows.uptoBulkAll]
 |d::l=>by simp[Rows.uptoBulkAll,EW l]
def Ld:zu where
 f:=Rows.uptoBulk
 one d:=by
  cases d with
  |lit l=>cases l<;>simp[Rows.uptoBulk]
  |_=>simp[Rows.uptoBulk]
 str b:=by simp[Rows.uptoBulk]
 sl e s:=by simp only[Rows.uptoBulk,EW];omega
 ag ps:=by simp only[Rows.uptoBulk,EW];omega
theorem own:ownKnob Tryz.prog.godebug=none:=by kernel_rfl
theorem XN:laidOutB Tryz.prog=true:=by kernel_rfl
set_option maxRecDepth 100000 in
theorem XS:U8Extra Tryz.prog Zx:=⟨by kernel_rfl,by kernel_rfl,by kernel_rfl,by kernel_rfl,by kernel_rfl,by kernel_rfl,by kernel_rfl⟩
theorem Tv{W:World}(hL:laidMetH Tryz.prog Rows.tablePruningLosesNothingRow.laid W):∀(b:Nat) (l:List Value),Px b=some l→b<W.heap.size∧GAt W b l:=by
 rw[MakeChecks.laidMetH_plain _ _ _ (by kernel_rfl)]at hL;have h4:=Go.Lib.laidMet.reads hL (d:=Rows.laid_unicode_utf8_acceptRanges) (.tail _ (.tail _ (.tail _ (.head _))));have h3:=Go.Lib.laidMet.reads hL (d:=Rows.laid_unicode_utf8_first) (.tail _ (.tail _ (.tail _ (.tail _ (.tail _ (.tail _ (.head _)))))));rw[show Rows.laid_unicode_utf8_first=Lib.firstData from Pinned.utf8First_eq]at h3;rw[show(Rows.laid_unicode_utf8_acceptRanges:DataW Unit)=Lib.acceptData by kernel_rfl]at h4;obtain⟨a,b⟩:=XP (utf8Tabs_of_readsT (U8Types.of196 WY) XS h3 h4);have lt:∀(g:Nat) (v:Value),W.cell? ⟨g,0,Option.none⟩=some v→g<W.heap.size:=by
  intro g v h;by_cases hg:g<W.heap.size
  ·exact hg
  ·simp[World.cell?,Array.getElem?_eq_none (Nat.le_of_not_lt hg)]at h
 intro g l hg;unfold Px at hg;split at hg
 ·rename_i e;subst e;obtain rfl:=Option.some.inj hg;exact⟨lt _ _ (a 0 _ rfl),a,fun h=>absurd rfl h,fun h=>absurd h (show¬(0:Nat)=3 by decide)⟩
 ·split at hg
  ·rename_i e;subst e;obtain rfl:=Option.some.inj hg;exact⟨lt _ _ (b 0 _ rfl),b,fun h=>absurd rfl h,fun h=>absurd h (show¬(0:Nat)=3 by decide)⟩
  ·cases hg
namespace TablePruningLosesNothing
set_option maxRecDepth 100000 in
theorem V3(H:Type)(enc:TypeId×Value→H)(W:World)(base:Nat)(args:Array Value)(ds gs:List (DataW H))(before:List MemPlace)
  (hval:∀(j:Nat) t v,Tryz.f4.params[j]? =some t→args[j]? =some v→Value.okWide Tryz.prog W .any base t v)
  (hW:DataW.Whole enc Tryz.prog Tryz.f4.params.toList Rows.tablePruningLosesNothingSpec.vars false W args.toList ds gs before)(hk:Rows.uptoSmall H (ds++gs)=true)(hL:laidMetH Tryz.prog Rows.tablePruningLosesNothingRow.laid W):
  Calls Tryz.prog 4 args W fun e W'=>∃v,e= .returned v∧Rows.tablePruningLosesNothingSpec.post enc Tryz.prog Tryz.f4 false true false false W args v W':=by
 have hW':=hW;obtain⟨p,q,hA0,hV,rfl,hfz,hnd⟩:=hW;have hp:Tryz.f4.params= #[28,3,32,46,33]:=by kernel_rfl
 have hA:DataW.TrodAll enc Tryz.prog W 0 (fun _=>true) true [28,3,32,46,33] args.toList ds p:=by rw[hp]at hA0;exact hA0
 have hval':∀(j:Nat) t v,(#[28,3,32,46,33]:Array TypeId)[j]? =some t→args[j]? =some v→Value.okWide Tryz.prog W .any base t v:=by rw[hp]at hval;exact hval
 obtain⟨v0,vs0,d0,ds0,p0,q0,hargs,rfl,rfl,h0,r0⟩:=trodAll_cons hA;obtain⟨v1,vs1,d1,ds1,p1,q1,rfl,rfl,rfl,h1,r1⟩:=trodAll_cons r0;obtain⟨v2,vs2,d2,ds2,p2,q2,rfl,rfl,rfl,h2,r2⟩:=trodAll_cons r1;obtain⟨v3,vs3,d3,ds3,p3,q3,rfl,rfl,rfl,h3,r3⟩:=trodAll_cons r2;obtain⟨v4,vs4,d4,ds4,p4,q4,rfl,rfl,rfl,h4,r4⟩:=trodAll_cons r3;obtain⟨rfl,rfl,rfl⟩:=trodAll_nil r4;obtain rfl:args= #[v0,v1,v2,v3,v4]:=by cases args;simp_all
 obtain⟨x0,o0,w0,z0⟩:=C5 (B:=Ld) (fun N=>aay N) (hval' 0 28 v0 rfl rfl) h0;obtain⟨x1,o1,w1,z1⟩:=C5 (B:=Ld) (fun N=>qs.int (show Tryz.prog.underlying 3=some (.int .i64) by kernel_rfl)) (hval' 1 3 v1 rfl rfl) h1;obtain⟨x2,o2,w2,z2⟩:=C5 (B:=Ld) (fun N=>aas N) (hval' 2 32 v2 rfl rfl) h2;obtain⟨x3,o3,w3,z3⟩:=C5 (B:=Ld) (fun N=>aad (szL:=OD) (szR:=yg) (P:=Tryz.prog) (wf:=fun _=>True) (sz:=bE) 46 99 3 9 29 (by kernel_rfl) (by kernel_rfl) (by kernel_rfl) (by kernel_rfl) (by kernel_rfl) (by kernel_rfl) ⟨by kernel_rfl,by kernel_rfl,by kernel_rfl,by kernel_rfl⟩ ⟨by kernel_rfl,by kernel_rfl,by kernel_rfl,by kernel_rfl,by kernel_rfl⟩ ⟨by kernel_rfl,by kernel_rfl,by kernel_rfl,by kernel_rfl,by kernel_rfl⟩ (fun _ _ _ _ _ _ _ _ _=>trivial) U0 (fun xs=>by unfold OD;rw[HP];omega) (fun xs=>by unfold yg;omega) N) (hval' 3 46 v3 rfl rfl) h3;obtain⟨x4,o4,w4,z4⟩:=C5 (B:=Ld) (fun N=>Ur N) (hval' 4 33 v4 rfl rfl) h4;obtain⟨rfl,rfl⟩:=trodVars_none hV;have hsum:Ld.f d0+Ld.f d1+Ld.f d2+Ld.f d3+Ld.f d4≤1048576:=by
  have h:=of_decide_eq_true hk;simp only[List.append_nil,List.cons_append,List.nil_append,Rows.uptoBulkAll]at h;show Rows.uptoBulk d0+Rows.uptoBulk d1+Rows.uptoBulk d2+Rows.uptoBulk d3+Rows.uptoBulk d4≤1048576;omega
 have hc:=wc x0 x1 x2 x3 x4 true (M3 (by omega) (by omega) (by omega) (by omega) x1);refine(hc.call (vs:=[v0,v1,v2,v3,v4]) rfl ?_ (Tv hL)).mono ?_
 ·intro j v a e1 e2
  match j,e1,e2 with
  |0,e1,e2=>simp only[List.getElem?_cons_zero,List.getElem?_cons_succ,eJ]at e1 e2;subst e1;subst e2;exact(Kz (Kn (by kernel_rfl) (hval' 0 28 v0 rfl rfl)) o0)
  |1,e1,e2=>simp only[List.getElem?_cons_zero,List.getElem?_cons_succ,eJ]at e1 e2;subst e1;subst e2;exact JF o1 (MW (by kernel_rfl) (hval' 1 3 v1 rfl rfl))
  |2,e1,e2=>simp only[List.getElem?_cons_zero,List.getElem?_cons_succ,eJ]at e1 e2;subst e1;subst e2;exact(Kz (Kn (by kernel_rfl) (hval' 2 32 v2 rfl rfl)) o2)
  |3,e1,e2=>simp only[List.getElem?_cons_zero,List.getElem?_cons_succ,eJ]at e1 e2;subst e1;subst e2;exact JF o3 (MW (by kernel_rfl) (hval' 3 46 v3 rfl rfl))
  |4,e1,e2=>simp only[List.getElem?_cons_zero,List.getElem?_cons_succ,eJ]at e1 e2;subst e1;subst e2;exact JF o4 (MW (by kernel_rfl) (hval' 4 33 v4 rfl rfl))
  |j+5,e1,e2=>simp at e1
 ·rintro e W' ⟨v,ι',rfl,hv,hk'⟩;obtain rfl:=X6 hv;exact⟨_,rfl,Th hW' XN (by kernel_rfl) hk' rfl 4 (by kernel_rfl) (by kernel_rfl) rfl⟩
end TablePruningLosesNothing
end Go.Proofs.YtpiohnabdhpphaaGreatDoor
