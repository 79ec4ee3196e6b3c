/- SX: maps from texts to values of one cell, by events: a new map, a look with or without the word, a new key, delete. SX: a pointer to an object of ours against nil, by events; new lists that a contract of the library tells. The program's data as Lean's, with their cells. SX: functions that the model stands in for, at any arguments; bytes.Compare. SX: functions whose contract is given over plain worlds; utf8.ValidString by the shelf's contract. Buckets: the types of this statement, and contracts of the library: bytes.Clone, maps.Keys, slices.Sorted. SX: the way from a given row to a contract of pure values: reading the arguments, and closing the row. SX: readings of structs by the program's own fields. SX: a struct of two integers, read. SX: a specification, read. SX: readings of values and types. Types out of rows. Lists of fields out of rows. Lists of values, of numbers, of bytes out of rows. Lists of lists of values out of rows. -/
import Derived.Laws.Pointers
import Derived.Laws.AppendOwn
import Derived.Lib.SlBytesConst
import Derived.Lib.Bytealg
import Derived.Shelf.Unicode.ValidAny
import Derived.OpenShut
import Derived.JoinedCond
import Derived.WideKeyArgs
import Derived.Test.YtliijalplckcnaaSxC
set_option linter.unusedVariables false
set_option linter.unusedSimpArgs false
set_option linter.unnecessarySimpa false
namespace Go.SX
open Go
set_option linter.unusedVariables false
set_option linter.unusedSimpArgs false

section
variable {P : Program} {n n0 : Nat} {loose an : List Nat} {β : Type} {r : β} {Q : QT} {s : SS} {T : Option β}
variable {α : Type} (E : α → PV)

theorem uEm (k : GG P n n0 loose an r Q T (opS n (.one (.mp (run P n an s).st.length)) ((run P n an s).st ++ [mB E []]) none (run P n an s)))
  (he : mkmQ (run P n an s) = true := by kernel_rfl) (hs : isSer (run P n an s) = true := by kernel_rfl) : GG P n n0 loose an r Q T s :=
 ⟨fun h => run_sound (an := an) (ser_op hs (fun ops o l Q' fr' hks hput hk => by
  obtain ⟨ks, hks⟩ := hks
  unfold mkmQ at he
  rw [hks] at he
  exact XO.mkl E fr' _ he hput rfl hk) (k.go h))⟩

def lokQ (P : Program) (s : SS) : Option (Nat × Value × TypeId × TypeId) := match s.ks with
 | .o ops l :: _ => lookHd2 P ops l s.fr
 | _ => none

def z1Ok (P : Program) (et : TypeId) (p : PV) : Bool := match (P.info? et).bind (·.zero) with
 | some v => zcB v p
 | none => false

theorem uEl (id : Nat) {m : List (ByteArray × α)} {k0 : ByteArray} (z : α) (kt et : TypeId) {f : α → Option β}
  (k : ∀ u, some ((mget kStr m k0).getD z) = some u → GG P n n0 loose an r Q (f u) (opS n (.tp [.one (.pv (E u)), .one (.pv (.s (.bool (mget kStr m k0).isSome)))]) (run P n an s).st none (run P n an s)))
  (he : lokQ P (run P n an s) = some (id, .string k0, kt, et) := by kernel_rfl) (ho : (run P n an s).st[id]? = some (mB E m) := by kernel_rfl)
  (hs : isSer (run P n an s) = true := by kernel_rfl) (hzo : z1Ok P et (E z) = true := by kernel_rfl) (hkt : P.underlying kt = some .string := by kernel_rfl) : GG P n n0 loose an r Q (bnd (some ((mget kStr m k0).getD z)) f) s :=
 ⟨fun h => run_sound (an := an) (ser_op hs (fun ops o l Q' fr' hks hput hk => by
  obtain ⟨ks, hks⟩ := hks
  unfold lokQ at he
  rw [hks] at he
  unfold z1Ok at hzo
  cases hz : (P.info? et).bind (·.zero) with
  | none => rw [hz] at hzo; cases hzo
  | some zv =>
   rw [hz] at hzo
   exact XO.lok E id m k0 z zv kt et fr' he hkt hz (fun μ w => zcB_rel hzo) ho hput hk) ((k _ rfl).go h))⟩

def upeQ (P : Program) (s : SS) : Option (Nat × Value × PV × TypeId) := match s.ks with
 | .o ops l :: _ => updHd2 P ops l s.fr
 | _ => none

theorem putF_j {n : Nat} {o : Oper} {fr fr' : Fr} (hd : o.dst = none) (h : putF n o.dst .j fr = some fr') : fr' = fr := by
 rw [hd] at h
 exact (Option.some.inj h).symm

theorem uEu (id : Nat) {m : List (ByteArray × α)} {k0 : ByteArray} {u : α} (kt : TypeId) (hno : mget kStr m k0 = none)
  (k : GG P n n0 loose an r Q T (opS n .j ((run P n an s).st.set id (mB E (m ++ [(k0, u)]))) none (run P n an s)))
  (he : upeQ P (run P n an s) = some (id, .string k0, E u, kt) := by kernel_rfl) (ho : (run P n an s).st[id]? = some (mB E m) := by kernel_rfl)
  (hs : isSer (run P n an s) = true := by kernel_rfl) (hkt : P.underlying kt = some .string := by kernel_rfl) : GG P n n0 loose an r Q T s :=
 ⟨fun h => run_sound (an := an) (ser_op hs (fun ops o l Q' fr' hks hput hk => by
  obtain ⟨ks, hks⟩ := hks
  unfold upeQ at he
  rw [hks] at he
  have hd : o.dst = none := by
   unfold updHd2 at he
   simp only at he
   split at he
   ·split at he
    ·assumption
    ·cases he
   ·cases he
  have e := putF_j hd hput
  subst e
  exact XO.mupl E id m k0 u kt _ he hkt hno ho rfl hk) (k.go h))⟩

theorem uEg (id : Nat) {m : List (ByteArray × α)} {k0 : ByteArray} {u : α} (kt : TypeId)
  (k : GG P n n0 loose an r Q T (opS n .j ((run P n an s).st.set id (mB E (m ++ [(k0, u)]))) none (run P n an s)))
  (he : upeQ P (run P n an s) = some (id, .string k0, E u, kt) := by kernel_rfl) (ho : (run P n an s).st[id]? = some (mB E m) := by kernel_rfl)
  (hs : isSer (run P n an s) = true := by kernel_rfl) (hkt : P.underlying kt = some .string := by kernel_rfl) : GG P n n0 loose an r Q (grd ((mget kStr m k0).isNone = true) T) s := by
 refine ⟨fun h => ?_⟩
 obtain ⟨hp, h⟩ := grd_some h
 exact (uEu E id kt (Option.isNone_iff_eq_none.1 hp) k he ho hs hkt).go h

def deeQ (P : Program) (s : SS) : Option (Nat × Value × TypeId) := match s.ks with
 | .o ops l :: _ => delHd P ops l s.fr
 | _ => none

theorem uEd (id : Nat) {m : List (ByteArray × α)} {k0 : ByteArray} (kt : TypeId)
  (k : GG P n n0 loose an r Q T (opS n .j ((run P n an s).st.set id (mB E (mdl m k0))) none (run P n an s)))
  (he : deeQ P (run P n an s) = some (id, .string k0, kt) := by kernel_rfl) (ho : (run P n an s).st[id]? = some (mB E m) := by kernel_rfl)
  (hs : isSer (run P n an s) = true := by kernel_rfl) (hkt : P.underlying kt = some .string := by kernel_rfl) : GG P n n0 loose an r Q T s :=
 ⟨fun h => run_sound (an := an) (ser_op hs (fun ops o l Q' fr' hks hput hk => by
  obtain ⟨ks, hks⟩ := hks
  unfold deeQ at he
  rw [hks] at he
  have hd : o.dst = none := by
   unfold delHd at he
   simp only at he
   split at he
   ·split at he
    ·assumption
    ·cases he
   ·cases he
  have e := putF_j hd hput
  subst e
  exact XO.mdel E id m k0 kt _ he hkt ho rfl hk) (k.go h))⟩
end

set_option linter.unusedVariables false
set_option linter.unusedSimpArgs false

section
variable {P : Program} {n n0 : Nat} {loose an : List Nat} {β : Type} {r : β} {Q : QT} {s : SS} {T : Option β}

def pqQ (P : Program) (s : SS) : Option Bool := match hdOp s with
 | some (o, f) => (match o.op with
  | .binOp op tt x y _ => (match P.underlying tt with
   | some (.pointer _) => (match rv f x with
    | .one (.pt ..) => (match rv f y with
     | .one (.pv (.s (.pointer none))) => (match op with
      | .eql => some false
      | .neq => some true
      | _ => none)
     | _ => none)
    | _ => none)
   | _ => none)
  | _ => none)
 | none => none

theorem uPq (b : Bool) (k : GG P n n0 loose an r Q T (pvS n (vb b) (run P n an s))) (he : pqQ P (run P n an s) = some b := by kernel_rfl) : GG P n n0 loose an r Q T s := by
 refine ⟨fun h => ?_⟩
 refine run_sound (an := an) ?_
 have k := k h
 unfold pqQ at he
 split at he
 case h_2 => cases he
 rename_i o f hd
 refine pv_sound hd ?_ k
 split at he
 case h_2 => cases he
 rename_i op tt x y px hop
 split at he
 case h_2 => cases he
 rename_i e hu
 split at he
 case h_2 => cases he
 rename_i id sz i off hx
 split at he
 case h_2 => cases he
 rename_i hy
 have hu' : P.underlying tt = some (.pointer (P.pointee tt)) := by simp [Program.pointee, hu]
 intro ι w a hR hF K Q hK
 have h1 := rv_rel hF x
 have h2 := rv_rel hF y
 rw [hx] at h1
 rw [hy] at h2
 have e2 := scalar_of h2
 obtain ⟨ad, e1⟩ : ∃ ad, a.eval x = .pointer (some ad) := by
  have h1 := cv_of h1
  generalize a.eval x = vx at h1
  cases h1 with
  | pt id sz i off b hid hb => exact ⟨_, rfl⟩
 have hrun : (execOp a.eval o).run P w = .ok (.value (.bool b)) w := by
  split at he
  ·cases he
   simp [execOp, hop, e1, e2, eqGuard, binOp, run_equal_pointer_nil w tt (some ad) hu']
  ·cases he
   simp [execOp, hop, e1, e2, eqGuard, binOp, run_equal_pointer_nil w tt (some ad) hu']
  ·cases he
 simp only [Oper.wp, hrun, Oper.upon]
 exact hK (.bool b) w ι (.one _ _ (.pv _ _ (.s _ rfl))) hR .refl
end

theorem ro_row {ι : IM} {w w' : World} {st : St} {v : Value} {n : Nat} {xs : List Value} {e : TypeId} {els : List (List PV)} (hR : Rel ι w st) (hs : w.heap.size ≤ w'.heap.size) (ho : w'.ownsRow w.heap.size e 1 v n xs) (hl : els.length = n)
  (hc : ∀ (i : Nat) x, els[i]? = some x → ∃ p u, x = [p] ∧ xs[i]? = some u ∧ ∀ μ, PRel μ w' u p) : PRel (Mut ι st) w' v (.ro els) := by
 rcases ho.2 with ⟨rfl, h0⟩ | ⟨g, cap, cur, rfl, hg, hb, hn, _, _, ht⟩
 ·have : els = [] := List.length_eq_zero_iff.1 (by omega)
  subst this
  exact .nl
 ·have hlt : g < w'.heap.size := lt_of_some hb
  have hone : ∀ x ∈ els, x.length = 1 := fun x hx => by
   obtain ⟨i, hi, rfl⟩ := List.getElem_of_mem hx
   obtain ⟨p, u, e, _⟩ := hc i _ (List.getElem?_eq_getElem hi)
   rw [e]; rfl
  subst hl
  refine .ro ⟨g, 0, none⟩ cap 1 els (fun i _ => xs.getD i default) hn hone (fun _ => ⟨hlt, fun hm => ?_⟩) ?_ ?_
  ·have : g < w.heap.size := hR.mut_lt hm
   omega
  ·intro i x j c h1 h2
   obtain ⟨p, u, rfl, h3, _⟩ := hc i x h1
   have hj : j = 0 := by
    cases j with
    | zero => rfl
    | succ j => simp at h2
   subst hj
   have hi : i < els.length := (List.getElem?_eq_some_iff.1 h1).1
   have h4 : cur.toList[i]? = some u := by
    rw [← ht, List.getElem?_take] at h3
    split at h3
    ·exact h3
    ·cases h3
   have h5 : xs.getD i default = u := by simp [List.getD, h3]
   rw [h5]
   have e : (⟨g, 0, none⟩ : Addr).add (i * 1 + 0) = ⟨g, i, none⟩ := by
    unfold Addr.add
    split
    ·rename_i h0
     have : i = 0 := by omega
     subst this; rfl
    ·simp
   rw [e]
   simp only [World.cell?, hb]
   simpa using h4
  ·intro i x j c h1 h2
   obtain ⟨p, u, rfl, h3, h4⟩ := hc i x h1
   have hj : j = 0 := by
    cases j with
    | zero => rfl
    | succ j => simp at h2
   subst hj
   have h5 : xs.getD i default = u := by simp [List.getD, h3]
   rw [h5]
   simp at h2
   subst h2
   exact h4 _
end Go.SX

namespace Go.SX
open Go
set_option linter.unusedVariables false
set_option linter.unusedSimpArgs false
section
variable {P : Program} {n n0 : Nat} {loose an : List Nat} {β : Type} {r : β} {Q : QT} {s : SS} {T : Option β} {fr : Fr} {st : St} {ops : Array Oper}

theorem XO.bc1 {o1 o2 : Oper} {rest : List Oper} (g1 : guardOk ops o1 fr = some true) {t te : TypeId} {d1 : Nat} {c : Int} (hop1 : o1.op = .buildSlice t 1 #[(0, .const (.int .u8 c))]) (hd1 : o1.dst = some d1) (hlt : Nat.ble (d1 + 1) n = true)
  (g2 : guardOk ops o2 ((d1, .j) :: fr) = some true) (hop2 : o2.op = .convert t t (.tmp d1)) {i : TypeInfo} (hu : P.underlying t = some (.slice te)) (hi : P.info? te = some i) (hz : i.zero = some (.int .u8 0)) (his : i.size = 1) (hte : P.underlying te = some (.int .u8))
  {fr' : Fr} (hput : putF n o2.dst (vl (eK .u8) [c]) ((d1, .j) :: fr) = some fr') (hk : XO P n n0 loose ops rest Q fr' st) : XO P n n0 loose ops (o1 :: o2 :: rest) Q fr st := by
 intro ι w a hR hF
 have hw1 := guard_sound g1 hF
 have hn : tsz P te = some 1 := by unfold tsz; rw [hi]; simp [his]
 have hrun1 : (execOp a.eval o1).run P w = .ok (.value (.slice (some ⟨w.heap.size, 0, none⟩) 1 1)) (w.alloc (.cells #[.int .u8 c] te)) := by
  have hlim : ¬ 1 * 1 > 2 ^ 24 := by omega
  have h0 : ¬ 1 * 1 = 0 := by omega
  have hfill : Instr.fill (fun i => some (i * 1, 1)) ((Array.range (1 * 1)).map ((Value.int .u8 0).cells[· % (Value.int .u8 0).cells.size]!)) (((#[(0, .const (.int .u8 c))] : Array (Nat × Operand)).map fun (i, x) => (i, a.eval x)).toList) = some #[.int .u8 c] := by
   have hnv : (Value.int .u8 0).cells = #[.int .u8 0] := rfl
   have hcells : (a.eval (.const (.int .u8 c))).cells = #[.int .u8 c] := rfl
   rw [hnv]
   simp [Instr.fill, hcells]
   apply Array.ext'
   simp [List.range_succ]
  have hrun : (Instr.buildSlice t 1 ((#[(0, .const (.int .u8 c))] : Array (Nat × Operand)).map fun (i, x) => (i, a.eval x))).run P w = .ok (.slice (some ⟨w.heap.size, 0, none⟩) 1 1) (w.alloc (.cells #[.int .u8 c] te)) := by
   simp only [Instr.buildSlice, Sem.run_bind, run_underlying hu, Result.andThen_ok, run_sizeOf hn, if_neg hlim, if_neg h0, Sem.run_pure, run_zero hi hz, hfill, newRow, run_newObj_alloc]
  simp only [execOp, hop1, Sem.run_bind, hrun, Result.andThen_ok, Sem.run_pure]
 have hF1 : FRel n ι w st (a.put (some d1) (.slice (some ⟨w.heap.size, 0, none⟩) 1 1)) ((d1, .j) :: fr) := hF.put (Nat.le_of_ble_eq_true hlt) (.j _)
 have hw2 := guard_sound g2 hF1
 have hval : (a.put (some d1) (.slice (some ⟨w.heap.size, 0, none⟩) 1 1)).eval (.tmp d1) = .slice (some ⟨w.heap.size, 0, none⟩) 1 1 := by
  have := Nat.le_of_ble_eq_true hlt
  simp [Act.put, Act.eval, hF.size]
  intro h; omega
 have hrun2 : (execOp (a.put (some d1) (.slice (some ⟨w.heap.size, 0, none⟩) 1 1)).eval o2).run P (w.alloc (.cells #[.int .u8 c] te)) = .ok (.value (.slice (some ⟨w.heap.size, 0, none⟩) 1 1)) (w.alloc (.cells #[.int .u8 c] te (1, 2))) := by
  simp only [execOp, hop2, hval, Sem.run_bind, Lib.run_convert_bytes_const w t te #[.int .u8 c] 1 1 hu hte, Result.andThen_ok, Sem.run_pure]
  rfl
 have hx : Ext w (w.alloc (.cells #[.int .u8 c] te (1, 2))) := Ext.alloc w _
 have hR2 := hR.ext hx
 have hk2 := hx.keeps ι st
 have hb : (w.alloc (.cells #[.int .u8 c] te (1, 2))).heap[w.heap.size]? = some (.cells #[.int .u8 c] te (1, 2)) := by
  show (w.heap.push _)[w.heap.size]? = _
  simp
 have hv : AVRel ι (w.alloc (.cells #[.int .u8 c] te (1, 2))) st (.slice (some ⟨w.heap.size, 0, none⟩) 1 1) (vl (eK .u8) [c]) := by
  refine .one _ _ (.pv _ _ (PRel.ro ⟨w.heap.size, 0, none⟩ 1 1 [[.s (.int .u8 c)]] (fun _ _ => .int .u8 c) (Nat.le_refl _) (by simp) (fun _ => ⟨lt_of_some hb, fun hm => ?_⟩) ?_ ?_))
  ·have h1 : w.heap.size < w.heap.size := hR.mut_lt hm
   omega
  ·intro i e j p h1 h2
   have hi0 : i = 0 := by
    cases i with
    | zero => rfl
    | succ i => simp at h1
   subst hi0
   simp at h1
   subst h1
   have hj0 : j = 0 := by
    cases j with
    | zero => rfl
    | succ j => simp at h2
   subst hj0
   show World.cell? _ ⟨w.heap.size, 0, none⟩ = _
   simp only [World.cell?, hb]
   rfl
  ·intro i e j p h1 h2
   have hi0 : i = 0 := by
    cases i with
    | zero => rfl
    | succ i => simp at h1
   subst hi0
   simp at h1
   subst h1
   have hj0 : j = 0 := by
    cases j with
    | zero => rfl
    | succ j => simp at h2
   subst hj0
   simp at h2
   subst h2
   exact .s _ rfl
 have hF2 := putF_rel hput (hF1.mono' hk2) hv
 refine wpList_step fun K hK => ?_
 rw [if_pos hw1]
 simp only [Oper.wp, hrun1, Oper.upon]
 rw [hd1]
 refine hK _ _ (wpList_step fun K2 hK2 => ?_)
 rw [if_pos hw2]
 simp only [Oper.wp, hrun2, Oper.upon]
 exact hK2 _ _ (wpList_post (fun e a w h => h.trans (hk2.weaken (fun _ _ => trivial))) (hk ι _ _ hR2 hF2))

def bcQ (P : Program) (n : Nat) (s : SS) : Option Int := match s.ks with
 | .o ops (o1 :: o2 :: _) :: _ => (match gOk ops s.kn o1 s.fr with
  | some true => (match o1.dst with
   | some d1 => (match gOk ops s.kn o2 ((d1, .j) :: s.fr) with
    | some true => (match o1.op with
     | .buildSlice t 1 parts => (match parts.toList with
      | [(0, .const (.int .u8 c))] => (match o2.op with
       | .convert t1 t2 (.tmp d) => (match P.underlying t with
        | some (.slice te) => (match P.info? te with
         | some i => (match i.zero with
          | some (.int .u8 0) => (match P.underlying te with
           | some (.int .u8) => bif ((Nat.beq t1 t && Nat.beq t2 t) && (Nat.beq d d1 && Nat.ble (d1 + 1) n)) && Nat.beq i.size 1 then some c else none
           | _ => none)
          | _ => none)
         | none => none)
        | _ => none)
       | _ => none)
      | _ => none)
     | _ => none)
    | _ => none)
   | none => none)
  | _ => none)
 | _ => none
def bcS (n : Nat) (c : Int) (s : SS) : SS := match s with
 | ⟨.o ops (o1 :: o2 :: l) :: k, fr, st, kn⟩ => (match o1.dst with
  | some d1 => putK n o2.dst (vl (eK .u8) [c]) ((d1, .j) :: fr) (fun fr' => rmvK d1 kn fun kn => knK false o2.dst kn fun kn' => ⟨.o ops l :: k, fr', st, kn'⟩) s
  | none => s)
 | s => s
theorem uBc1 (d : Nat) (c : Int) (k : GG P n n0 loose an r Q T (bcS n c (runU P n an d s))) (he : bcQ P n (runU P n an d s) = some c := by kernel_rfl) : GG P n n0 loose an r Q T s := by
 refine ⟨fun h => runU_sound (an := an) (d := d) ?_⟩
 have k := k h
 generalize runU P n an d s = s' at *
 obtain ⟨ks, fr, st, kn⟩ := s'
 unfold bcQ at he
 split at he
 case h_2 => cases he
 rename_i ops o1 o2 l k' hk
 simp only at hk
 subst hk
 split at he
 case h_2 => cases he
 rename_i g1
 split at he
 case h_2 => cases he
 rename_i d1 hd1
 split at he
 case h_2 => cases he
 rename_i g2
 split at he
 case h_2 => cases he
 rename_i t parts hop1
 split at he
 case h_2 => cases he
 rename_i c0 hparts
 split at he
 case h_2 => cases he
 rename_i t1 t2 d2 hop2
 split at he
 case h_2 => cases he
 rename_i te hu
 split at he
 case h_2 => cases he
 rename_i i hi
 split at he
 case h_2 => cases he
 rename_i hz
 split at he
 case h_2 => cases he
 rename_i hte
 cases hb : ((Nat.beq t1 t && Nat.beq t2 t) && (Nat.beq d2 d1 && Nat.ble (d1 + 1) n)) && Nat.beq i.size 1 with
 | false => rw [hb] at he; cases he
 | true =>
  rw [hb] at he
  simp only [cond_true, Option.some.injEq] at he
  subst he
  simp only [Bool.and_eq_true] at hb
  obtain ⟨⟨⟨b1, b2⟩, b3, b4⟩, b5⟩ := hb
  have b1 := Nat.eq_of_beq_eq_true b1
  have b2 := Nat.eq_of_beq_eq_true b2
  have b3 := Nat.eq_of_beq_eq_true b3
  have b5 := Nat.eq_of_beq_eq_true b5
  subst b1
  subst b3
  rw [b2] at hop2
  have hp : parts = #[(0, .const (.int .u8 c0))] := Array.ext' hparts
  rw [hp] at hop1
  simp only [bcS, hd1] at k
  rcases putK_or (n := n) o2.dst (vl (eK .u8) [c0]) ((d2, .j) :: fr) (fun fr' => rmvK d2 kn fun kn => knK false o2.dst kn fun kn' => (⟨.o ops l :: k', fr', st, kn'⟩ : SS)) ⟨.o ops (o1 :: o2 :: l) :: k', fr, st, kn⟩ with ⟨fr', hp2, e⟩ | e
  ·rw [e] at k
   obtain ⟨kn1, e1⟩ := rmvK_ex (d := d2) kn (fun kn => knK false o2.dst kn fun kn' => (⟨.o ops l :: k', fr', st, kn'⟩ : SS))
   rw [e1] at k
   obtain ⟨kn2, e2⟩ := knK_ex false o2.dst kn1 fun kn' => (⟨.o ops l :: k', fr', st, kn'⟩ : SS)
   rw [e2] at k
   exact XO.bc1 (gOk_ok g1) hop1 hd1 b4 (gOk_ok g2) hop2 hu hi hz b5 hte hp2 k
  ·rw [e] at k; exact k
end
end Go.SX

namespace Go.SX
open Go
set_option linter.unusedVariables false
set_option linter.unusedSimpArgs false
section
variable {P : Program} {n n0 : Nat} {loose an : List Nat} {α β : Type} {r : β} {Q : QT} {s : SS} {x : Option β}
theorem uApN (E : Enc α) (id : Nat) (xs : List α) {ys : List α} {N L : Nat} (k : GG P n n0 loose an r Q x (opS n (.one (.sl (nwI (run P n an s)) E.sz 0 (ys ++ xs).length)) (((run P n an s).st.set id .dead).set (nwI (run P n an s)) (.arr E.sz (E.els (ys ++ xs)))) (nwM (run P n an s)) (run P n an s))) (hL : L = ys.length := by rfl) (hN : N = xs.length := by rfl)
  (he : evH P an [] (run P n an s) = some ⟨.one (.sl (nwI (run P n an s)) E.sz 0 (L + (E.els xs).length)), ((run P n an s).st.set id .dead).set (nwI (run P n an s)) (.arr E.sz (E.els ys ++ E.els xs)), [elemsOk E.sz (E.els xs), L = (E.els ys).length, L + (E.els xs).length ≤ 4294967296], [], nwM (run P n an s)⟩ := by kernel_rfl)
  (hm : mvOk n0 loose (nwM (run P n an s)) = true := by kernel_rfl) : GG P n n0 loose an r Q (grd (ys.length + N ≤ 4294967296) x) s := by
 subst hL; subst hN
 refine ⟨fun h => ?_⟩
 obtain ⟨hp, h⟩ := grd_some h
 exact uOp he ⟨E.ok _, (E.len _).symm, by rw [E.len]; exact hp, trivial⟩ hm (by rw [E.len, List.length_append]) (by rw [E.app2]) k h
end
end Go.SX

namespace Go.SX
open Go
section
variable {P : Program} {n n0 : Nat} {loose an : List Nat} {α β : Type} {r : β} {Q : QT} {s : SS} {T : Option β}
theorem uCvu (d : Nat) (c : Cv) (k : GG P n n0 loose an r Q T (cvS n0 loose c (runU P n an d s))) (ht : topOk (runU P n an d s).ks = true := by kernel_rfl) : GG P n n0 loose an r Q T s := by
 refine ⟨fun h => runU_sound (an := an) (d := d) ?_⟩
 have k := k h
 obtain ⟨e, hs⟩ := cvS_or (n := n) (n0 := n0) (loose := loose) c (runU P n an d s)
 unfold XK at k
 rw [e] at k
 exact QK.sub ht hs k
end

structure GCivil where
 year : Int
 month : Int
 day : Int
 hour : Int
 minute : Int
 second : Int
 deriving DecidableEq

structure GTurn where
 month : Int
 week : Int
 weekday : Int
 minute : Int
 deriving DecidableEq

structure GZone where
 name : ByteArray
 offset : Int
 summer : Int
 start : GTurn
 stop : GTurn
 deriving DecidableEq

structure GWide where
 neg : Bool
 size : Int × Int × Int × Int
 deriving DecidableEq

structure GChecker where
 leaves : Int
 deriving DecidableEq

structure GTransform where
 kind : Int
 param : Int
 deriving DecidableEq

structure GCursor where
 b : List Int
 bad : Bool
 deriving DecidableEq

structure GScan where
 b : List Int
 bad : Bool
 deriving DecidableEq

structure GReader where
 s : ByteArray
 bad : Bool
 deriving DecidableEq

structure RWide where
 below : Bool
 d : List Int
 deriving DecidableEq

structure FieldP (α : Type) where
 id : Int
 name : ByteArray
 need : Bool
 type : α

structure GType where
 kind : Int
 scale : Int
 fields : List (FieldP GType)

abbrev GField := FieldP GType

structure GLeaf where
 path : List Int
 type : GType
 df : Int
 rep : Int

structure GPath where
 leaf : GLeaf
 fields : List GField
 pos : List Int

structure GPart where
 reps : List Int
 defs : List Int
 deriving DecidableEq

structure GValue where
 kind : Int
 n : Int
 scale : Int
 s : ByteArray
 items : List GValue

structure GColumn where
 reps : List Int
 defs : List Int
 values : List GValue

structure GShredder where
 p : GPath
 c : GColumn

mutual
def GType.cells : GType → List PV
 | ⟨k, s, fs⟩ => [pi k, pi s, .ro (GType.fcells fs)]
def GType.fcells : List (FieldP GType) → List (List PV)
 | [] => []
 | f :: l => GType.fcell f :: GType.fcells l
def GType.fcell : FieldP GType → List PV
 | ⟨i, n, q, t⟩ => pi i :: .s (.string n) :: .s (.bool q) :: GType.cells t
end

mutual
def GValue.cells : GValue → List PV
 | ⟨k, n, sc, s, it⟩ => [pi k, pi n, pi sc, .s (.string s), .ro (GValue.lcells it)]
def GValue.lcells : List GValue → List (List PV)
 | [] => []
 | v :: l => GValue.cells v :: GValue.lcells l
end

theorem GType.fcells_eq : ∀ l : List (FieldP GType), GType.fcells l = l.map GType.fcell
 | [] => rfl
 | f :: l => by rw [GType.fcells, GType.fcells_eq l]; rfl

theorem GValue.lcells_eq : ∀ l : List GValue, GValue.lcells l = l.map GValue.cells
 | [] => rfl
 | f :: l => by rw [GValue.lcells, GValue.lcells_eq l]; rfl

abbrev fieldC (f : GField) : List PV := [pi f.id, .s (.string f.name), .s (.bool f.need), pi f.type.kind, pi f.type.scale, .ro (GType.fcells f.type.fields)]
abbrev typeC (t : GType) : List PV := [pi t.kind, pi t.scale, .ro (GType.fcells t.fields)]
abbrev valueC (v : GValue) : List PV := [pi v.kind, pi v.n, pi v.scale, .s (.string v.s), .ro (GValue.lcells v.items)]
theorem fieldC_eq : GType.fcell = fieldC := funext fun ⟨_, _, _, ⟨_, _, _⟩⟩ => rfl
theorem typeC_eq : GType.cells = typeC := funext fun ⟨_, _, _⟩ => rfl
theorem valueC_eq : GValue.cells = valueC := funext fun ⟨_, _, _, _, _⟩ => rfl
def eField : Enc GField := ⟨6, fieldC, GType.fcells, fun l => by rw [GType.fcells_eq, fieldC_eq], fun _ => rfl⟩
def eType : Enc GType := .of 3 typeC (fun _ => rfl)
def eValue : Enc GValue := ⟨5, valueC, GValue.lcells, fun l => by rw [GValue.lcells_eq, valueC_eq], fun _ => rfl⟩
def eTurn : Enc GTurn := .of 4 (fun x => [pi x.month, pi x.week, pi x.weekday, pi x.minute]) (fun _ => rfl)
def eZone : Enc GZone := .of 11 (fun x => [.s (.string x.name), pi x.offset, pi x.summer, pi x.start.month, pi x.start.week, pi x.start.weekday, pi x.start.minute, pi x.stop.month, pi x.stop.week, pi x.stop.weekday, pi x.stop.minute]) (fun _ => rfl)
def eCivil : Enc GCivil := .of 6 (fun x => [pi x.year, pi x.month, pi x.day, pi x.hour, pi x.minute, pi x.second]) (fun _ => rfl)

def eTransform : Enc GTransform := .of 2 (fun x => [pi x.kind, pi x.param]) (fun _ => rfl)
def eChecker : Enc GChecker := .of 1 (fun x => [pi x.leaves]) (fun _ => rfl)

abbrev leafC (x : GLeaf) : List PV := [.ro (eI.els x.path), pi x.type.kind, pi x.type.scale, .ro (eField.els x.type.fields), pi x.df, pi x.rep]
abbrev colC (x : GColumn) : List PV := [.ro (eI.els x.reps), .ro (eI.els x.defs), .ro (eValue.els x.values)]
abbrev pathC (x : GPath) : List PV := [.ro (eI.els x.leaf.path), pi x.leaf.type.kind, pi x.leaf.type.scale, .ro (eField.els x.leaf.type.fields), pi x.leaf.df, pi x.leaf.rep, .ro (eField.els x.fields), .ro (eI.els x.pos)]
def eLeaf : Enc GLeaf := .of 6 leafC (fun _ => rfl)
def ePath : Enc GPath := .of 8 pathC (fun _ => rfl)
def eColumn : Enc GColumn := .of 3 colC (fun _ => rfl)
def ePart : Enc GPart := .of 2 (fun x => [.ro (eI.els x.reps), .ro (eI.els x.defs)]) (fun _ => rfl)
def eShredder : Enc GShredder := .of 11 (fun x => [.ro (eI.els x.p.leaf.path), pi x.p.leaf.type.kind, pi x.p.leaf.type.scale, .ro (eField.els x.p.leaf.type.fields), pi x.p.leaf.df, pi x.p.leaf.rep, .ro (eField.els x.p.fields), .ro (eI.els x.p.pos), .ro (eI.els x.c.reps), .ro (eI.els x.c.defs), .ro (eValue.els x.c.values)]) (fun _ => rfl)

structure LStep where
 char : Int
 one : Bool
 many : Bool
 deriving DecidableEq, Inhabited

def eStep : Enc LStep := .of 3 (fun x => [.s (.int .i32 x.char), .s (.bool x.one), .s (.bool x.many)]) (fun _ => rfl)

structure GSpecField where
 source : Int
 transform : GTransform
 deriving DecidableEq

structure GSpec where
 fields : List GSpecField
 deriving DecidableEq

structure GStats where
 id : Int
 nulls : Int
 min : GValue
 max : GValue

structure GDeleteAt where
 file : ByteArray
 rows : List Int
 deriving DecidableEq

structure GDeleteBy where
 schema : Int
 ids : List Int
 keys : List (List GValue)
 seq : Int

structure GDataFile where
 name : ByteArray
 schema : Int
 spec : Int
 part : List GValue
 rows : Int
 seq : Int
 stats : List GStats

structure GRef where
 name : ByteArray
 branch : Bool
 snapshot : Int
 deriving DecidableEq

structure GProp where
 name : ByteArray
 value : ByteArray
 deriving DecidableEq

structure GSnapshot where
 id : Int
 parent : Int
 seq : Int
 schema : Int
 time : Int
 kind : Int
 files : List GDataFile
 dat : List GDeleteAt
 dby : List GDeleteBy

structure GMeta where
 schemas : List (List GField)
 specs : List GSpec
 nextField : Int
 nextSeq : Int
 nextSnap : Int
 purges : Int
 snapshots : List GSnapshot
 refs : List GRef
 props : List GProp

structure GDiff where
 gone : List ByteArray
 new : List ByteArray
 touched : List ByteArray

abbrev spfC (x : GSpecField) : List PV := [pi x.source, pi x.transform.kind, pi x.transform.param]
def eSpecField : Enc GSpecField := .of 3 spfC (fun _ => rfl)
def eSpec : Enc GSpec := .of 1 (fun x => [.ro (eSpecField.els x.fields)]) (fun _ => rfl)
abbrev statsC (x : GStats) : List PV := [pi x.id, pi x.nulls, pi x.min.kind, pi x.min.n, pi x.min.scale, .s (.string x.min.s), .ro (eValue.els x.min.items), pi x.max.kind, pi x.max.n, pi x.max.scale, .s (.string x.max.s), .ro (eValue.els x.max.items)]
def eStats : Enc GStats := .of 12 statsC (fun _ => rfl)
def eDeleteAt : Enc GDeleteAt := .of 2 (fun x => [.s (.string x.file), .ro (eI.els x.rows)]) (fun _ => rfl)
def eDeleteBy : Enc GDeleteBy := .of 4 (fun x => [pi x.schema, .ro (eI.els x.ids), .ro ((eL eValue).els x.keys), pi x.seq]) (fun _ => rfl)
abbrev fileC (x : GDataFile) : List PV := [.s (.string x.name), pi x.schema, pi x.spec, .ro (eValue.els x.part), pi x.rows, pi x.seq, .ro (eStats.els x.stats)]
def eDataFile : Enc GDataFile := .of 7 fileC (fun _ => rfl)
def eRef : Enc GRef := .of 3 (fun x => [.s (.string x.name), .s (.bool x.branch), pi x.snapshot]) (fun _ => rfl)
def eProp : Enc GProp := .of 2 (fun x => [.s (.string x.name), .s (.string x.value)]) (fun _ => rfl)
abbrev snapC (x : GSnapshot) : List PV := [pi x.id, pi x.parent, pi x.seq, pi x.schema, pi x.time, pi x.kind, .ro (eDataFile.els x.files), .ro (eDeleteAt.els x.dat), .ro (eDeleteBy.els x.dby)]
def eSnapshot : Enc GSnapshot := .of 9 snapC (fun _ => rfl)
def eDiff : Enc GDiff := .of 3 (fun x => [.ro (eS.els x.gone), .ro (eS.els x.new), .ro (eS.els x.touched)]) (fun _ => rfl)

set_option linter.unusedVariables false
set_option linter.unusedSimpArgs false

def cmpB (a b : List Int) : Int := Lib.compareBytes (strOfNums a).data.toList (strOfNums b).data.toList

def ExtA (P : Program) (g : Nat) (asv : List AV) (r : AV) : Prop :=
 ∀ (ι : IM) (w : World) (st : St) (vs : List Value), Rel ι w st → ARel ι w st vs asv → ∃ v, (callFunc g vs.toArray).run P w = .ok (.value v) w ∧ AVRel ι w st v r

section
variable {P : Program} {n n0 : Nat} {loose : List Nat} {Q : QT} {fr : Fr} {st : St} {ops : Array Oper}

def exaAt (o : Oper) (fr : Fr) : Option (Nat × List AV) :=
 match o.op with
 | .call ⟨.value f, args, _⟩ =>
  match rv fr f with
  | .one (.pv (.fn g [])) => some (g, args.toList.map (rv fr))
  | _ => none
 | _ => none

theorem exa_sound {o : Oper} {g : Nat} {asv : List AV} {r : AV} (h : exaAt o fr = some (g, asv)) (hx : ExtA P g asv r) {ι : IM} {w : World} {a : Act} (hR : Rel ι w st) (hF : FRel n ι w st a fr) :
  ∃ v, (execOp a.eval o).run P w = .ok (.value v) w ∧ AVRel ι w st v r := by
 unfold exaAt at h
 cases hop : o.op <;> simp only [hop] at h <;> try (cases h; done)
 rename_i cl
 obtain ⟨callee, args, tys⟩ := cl
 cases callee <;> simp only at h <;> try (cases h; done)
 rename_i f
 have hf := rv_rel hF f
 split at h
 ·rename_i g' hq
  simp only [Option.some.injEq, Prod.mk.injEq] at h
  obtain ⟨rfl, rfl⟩ := h
  rw [hq] at hf
  have hp := pure_of (cv_of hf)
  obtain ⟨v, e4, e5⟩ := hx ι w st (args.toList.map a.eval) hR ⟨by simp, fun j v av h1 h2 => by
   rw [List.getElem?_map, Option.map_eq_some_iff] at h1 h2
   obtain ⟨x, hx, rfl⟩ := h1
   obtain ⟨y, hy, rfl⟩ := h2
   rw [hx] at hy; cases hy
   exact rv_rel hF x⟩
  generalize hu : a.eval f = u at *
  cases hp with
  | fn _ _ ws hl hv =>
   have : ws = [] := List.length_eq_zero_iff.1 (by simpa using hl)
   subst this
   refine ⟨v, ?_, e5⟩
   have e3 : args.map a.eval ++ (#[] : Array Value) = (args.toList.map a.eval).toArray := by
    apply Array.ext'
    simp
   simp [execOp, hop, resolve, hu, Deferred.ofValue, invoke]
   rw [← e3, Array.append_empty] at e4
   exact e4
 ·cases h

def exaHd (ops : Array Oper) (l : List Oper) (fr : Fr) : Option (Nat × List AV) :=
 match l with
 | o :: _ => match guardOk ops o fr with
  | some true => exaAt o fr
  | _ => none
 | [] => none

theorem XO.exa {l : List Oper} (g : Nat) (asv : List AV) (r : AV) (fr' : Fr) (hc : exaHd ops l fr = some (g, asv)) (h : ExtA P g asv r) (hput : putHd n l r fr = some fr')
  (hk : XO P n n0 loose ops (l.drop 1) Q fr' st) : XO P n n0 loose ops l Q fr st := by
 cases l with
 | nil => simp [exaHd] at hc
 | cons o rest =>
  simp only [exaHd] at hc
  split at hc
  ·rename_i hg
   intro ι w a hR hF
   obtain ⟨v, hrun, hv⟩ := exa_sound hc h hR hF
   have hw := guard_sound hg hF
   refine wpList_step fun K hK => ?_
   rw [if_pos hw]
   simp only [Oper.wp, hrun, Oper.upon]
   exact hK _ _ (hk ι w _ hR (putF_rel hput hF hv))
  ·simp at hc

end

/-! ### bytes -/

theorem loadBytes_list {P : Program} (w : World) : ∀ (ns : List Int) (a : Addr) (acc : ByteArray), (∀ (j : Nat) u, (ns.map (Value.int .u8))[j]? = some u → w.cell? (a.add j) = some u) →
  (Extern.Bytes.loadBytes a ns.length acc).run P w = .ok (ns.foldl (fun r n => r.push (UInt8.ofNat n.toNat)) acc) w
 | [], a, acc, h => rfl
 | x :: ns, a, acc, h => by
  have h0 := h 0 _ rfl
  have ih := loadBytes_list (P := P) w ns (a.add 1) (acc.push (UInt8.ofNat x.toNat)) (fun j u hu => by
   have := h (j + 1) u (by simpa using hu)
   rw [add_add, Nat.add_comm 1 j]
   exact this)
  have ea : a.add 0 = a := by unfold Addr.add; rw [if_pos rfl]
  rw [ea] at h0
  rw [List.length_cons, Extern.Bytes.loadBytes]
  simp only [Sem.run_bind, run_load, h0, Result.andThen_ok]
  rw [List.foldl_cons]
  exact ih

theorem bytesOf_ro {P : Program} {ι : IM} {w : World} {st : St} {v : Value} {xs : List Int} (hR : Rel ι w st) (hv : AVRel ι w st v (vl (eK .u8) xs)) : (Extern.Bytes.bytesOf v).run P w = .ok (strOfNums xs) w := by
 have hbo := bytesOk_eK xs
 obtain ⟨us, hr⟩ := rd_sound (P := P) (sz := 1) (els := (eK .u8).els xs) rfl hR (cv_of hv) (fun e he => by
  rw [hbo] at he
  simp only [List.mem_map] at he
  obtain ⟨n, _, rfl⟩ := he
  rfl)
 have hl := hr.len
 rw [Nat.mul_one] at hl
 unfold bytesOk at hbo
 rw [numsOf_eK] at hbo
 have hel : ((eK .u8).els xs).length = xs.length := by rw [hbo]; simp
 have hus : us = xs.map (Value.int .u8) := by
  refine List.ext_getElem? (fun j => ?_)
  by_cases hj : j < xs.length
  ·have e1 : ((eK .u8).els xs)[j]? = some [.s (.int .u8 (xs[j]))] := by
    rw [hbo, List.getElem?_map, List.getElem?_eq_getElem hj]; rfl
   obtain ⟨u, g1, g2⟩ := hr.each j _ 0 _ e1 rfl
   rw [Nat.mul_one, Nat.add_zero] at g1
   rw [g1, List.getElem?_map, List.getElem?_eq_getElem hj]
   cases g2; rfl
  ·rw [List.getElem?_eq_none (by omega), List.getElem?_eq_none (by simp; omega)]
 rcases hr.shape with ⟨e1, e2⟩ | ⟨ad, cap, e1, e2, e3⟩
 ·have : xs = [] := List.length_eq_zero_iff.1 (by rw [← hel, e2]; rfl)
  subst this
  rw [e1]; rfl
 ·rw [e1, hel]
  rw [hus] at e3
  rw [Extern.Bytes.bytesOf, loadBytes_list w xs ad _ e3, foldl_push_bytes]
  simp [strOfNums, ByteArray.empty, ByteArray.emptyWithCapacity]
  rfl

theorem ext_bytesCompare {P : Program} {g : Nat} {fn : Func} (hf : P.funcs[g]? = some fn) (hname : (fn.name == "runtime.NumGoroutine") = false) (hb : fn.body.isNone = true) (hn : Extern.findNext fn = none) (he : Extern.find fn = some Extern.BytealgCompare.compare)
  (a b : List Int) : ExtA P g [vl (eK .u8) a, vl (eK .u8) b] (vi (cmpB a b)) := by
 intro ι w st vs hR hA
 obtain ⟨hl, hA⟩ := hA
 match vs, hl with
 | [x, y], _ =>
  have hx := hA 0 x _ rfl rfl
  have hy := hA 1 y _ rfl rfl
  refine ⟨.int .i64 (cmpB a b), ?_, .one _ _ (.pv _ _ (.s _ rfl))⟩
  rw [run_callFunc_extern hf hname hb hn he]
  show (Sem.run P (do pure (goInt (Extern.BytealgCompare.cmp (← Extern.Bytes.bytesOf x) (← Extern.Bytes.bytesOf y)))) w).andThen _ = _
  simp only [Sem.run_bind, bytesOf_ro hR hx, bytesOf_ro hR hy, Sem.run_pure, Result.andThen_ok, Lib.cmp_eq]
  rfl

/-! ### the event -/
section
variable {P : Program} {n n0 : Nat} {loose an : List Nat} {Q : QT} {β : Type} {T : Option β} {r : β} {s : SS}
theorem Yd.exa {st : St} {o : Oper} {f : Fr} {g : Nat} {asv : List AV} {av : AV} (hc : exaAt o f = some (g, asv)) (h : ExtA P g asv av) : Yd P n st o f av := by
 intro ι w a hR hF K Q hK
 obtain ⟨v, hrun, hv⟩ := exa_sound hc h hR hF
 simp only [Oper.wp, hrun, Oper.upon]
 exact hK v w ι hv hR .refl
def eaQ (s : SS) : Option (Nat × List AV) := match hdOp s with
 | some (o, f) => exaAt o f
 | none => none
theorem uBc (a b : List Int) (g : Nat) (fn : Func) (k : GG P n n0 loose an r Q T (pvS n (vi (cmpB a b)) (run P n an s))) (he : eaQ (run P n an s) = some (g, [vl (eK .u8) a, vl (eK .u8) b]) := by kernel_rfl) (hf : P.funcs[g]? = some fn := by kernel_rfl)
  (hx : ((!(fn.name == "runtime.NumGoroutine") && fn.body.isNone) && (Extern.findNext fn).isNone) = true := by kernel_rfl) (hx' : Extern.find fn = some Extern.BytealgCompare.compare := by kernel_rfl) : GG P n n0 loose an r Q T s := by
 simp only [Bool.and_eq_true, Bool.not_eq_true', Option.isNone_iff_eq_none] at hx
 refine ⟨fun h' => ?_⟩
 unfold eaQ at he
 split at he
 ·rename_i o f hd
  exact run_sound (an := an) (pv_sound hd (Yd.exa he (ext_bytesCompare hf hx.1.1 (by rw [hx.1.2]; rfl) hx.2 hx' a b)) (k h'))
 ·cases he
end

end Go.SX
namespace Go.SX
open Go Go.Shelf Go.Lib Go.Proofs Go.RowKit
set_option linter.unusedVariables false

theorem scalars_eq {ι : IM} {w : World} {st : St} : ∀ {us vs : List Value}, vs.length = us.length → (∀ (j : Nat) v a, vs[j]? = some v → (us.map fun u => AV.one (.pv (.s u)))[j]? = some a → AVRel ι w st v a) → vs = us
 | [], [], _, _ => rfl
 | [], _ :: _, h, _ => by simp at h
 | _ :: _, [], h, _ => by simp at h
 | u :: us, v :: vs, h, hA => by
  have h0 := scalar_of (hA 0 v _ rfl rfl)
  subst h0
  rw [scalars_eq (us := us) (vs := vs) (by simpa using h) (fun j x a h1 h2 => hA (j + 1) x a (by simpa using h1) (by simpa using h2))]

theorem PC.below {P : Program} {f : Nat} {us : List Value} {v : Value} (hv : plain v = true)
  (h : ∀ w : World, (∀ (b : Nat) (l : List Value), glob b = some l → GAt w b l) → Calls P f us.toArray w fun e w' => e = .returned v ∧ Below w.heap.size w w') :
  PC P f (us.map fun u => .one (.pv (.s u))) (.one (.pv (.s v))) := by
 intro ι w vs hR hA
 obtain rfl := scalars_eq (by simpa using hA.1) hA.2
 refine (h w (fun b l hb => (hR.gl b l hb).2.2)).mono ?_
 rintro e w' ⟨rfl, hb⟩
 have hx : Ext w w' := ⟨hb.os, hb.tape, hb.output, hb.size, fun b hlt => hb.block b hlt⟩
 exact ⟨v, _, [], ι, rfl, ⟨rfl, rfl⟩, hR.ext hx, .one _ _ (.pv _ _ (.s _ hv)), (hx.keeps ι []).weaken (fun _ _ => trivial)⟩

theorem tabs_of {g3 g4 : Nat} {w : World} (h3 : ∀ (i : Nat) x, firstL[i]? = some x → w.cell? ⟨g3, i, none⟩ = some x) (h4 : ∀ (i : Nat) x, accL[i]? = some x → w.cell? ⟨g4, i, none⟩ = some x) : Utf8Tabs g3 g4 w := by
 refine ⟨fun c hc => h3 c _ ?_, fun i hi => ⟨h4 _ _ ?_, h4 _ _ ?_⟩⟩
 ·simp [firstL, hc]
 ·simp [accL, show 2 * i < 32 by omega]
 ·simp [accL, show 2 * i + 1 < 32 by omega, show (2 * i + 1) / 2 = i by omega]

theorem of_tabs {g3 g4 : Nat} {w : World} (h : Utf8Tabs g3 g4 w) : (∀ (i : Nat) x, firstL[i]? = some x → w.cell? ⟨g3, i, none⟩ = some x) ∧ (∀ (i : Nat) x, accL[i]? = some x → w.cell? ⟨g4, i, none⟩ = some x) := by
 refine ⟨fun i x hx => ?_, fun i x hx => ?_⟩
 ·by_cases hi : i < 256
  ·simp [firstL, hi] at hx; subst hx; exact h.1 i hi
  ·simp [firstL, hi] at hx
 ·by_cases hi : i < 32
  ·simp only [accL, List.getElem?_map, List.getElem?_range hi, Option.map_some, Option.some.injEq] at hx
   by_cases e : i % 2 = 0
   ·rw [if_pos e] at hx
    have := (h.2 (i / 2) (by omega)).1
    rw [show 2 * (i / 2) = i by omega, hx] at this
    exact this
   ·rw [if_neg e] at hx
    have := (h.2 (i / 2) (by omega)).2
    rw [show 2 * (i / 2) + 1 = i by omega, hx] at this
    exact this
  ·simp [accL, hi] at hx

theorem pc_validString {P : Program} {ρ : Ren} (L : Lays.n196 P ρ) (h3 : glob (ρ.g 3) = some firstL) (h4 : glob (ρ.g 4) = some accL) (s : ByteArray) (hs : s.size ≤ 9223372036854775807) :
  PC P (ρ.f 196) [.one (.pv (.s (.string s)))] (.one (.pv (.s (.bool (validD s.data.toList))))) :=
 PC.below (us := [.string s]) rfl fun w hw => Go.Proofs.Any.utf8_ValidString L s w hs (tabs_of (hw _ _ h3).1 (hw _ _ h4).1)

end Go.SX
namespace Go.SX
open Go

structure GBucketOp where
 kind : Int
 name : ByteArray
 old : ByteArray
 data : List Int

structure GEntry where
 name : ByteArray
 object : ByteArray
 version : Int
 meta_ : GMeta

structure GObject where
 name : ByteArray
 kind : Int
 data : List Int
 fields : List GField
 rows : List (List GValue)
 tables : List GEntry
 changes : Int

structure GRBucket where
 objects : List GObject
 root : ByteArray

def eBucketOp : Enc GBucketOp := .of 4 (fun x => [pi x.kind, .s (.string x.name), .s (.string x.old), .ro ((eK .u8).els x.data)]) (fun _ => rfl)
def eEntry : Enc GEntry := .of 12 (fun x => [.s (.string x.name), .s (.string x.object), pi x.version, .ro ((eL eField).els x.meta_.schemas), .ro (eSpec.els x.meta_.specs), pi x.meta_.nextField, pi x.meta_.nextSeq, pi x.meta_.nextSnap, pi x.meta_.purges, .ro (eSnapshot.els x.meta_.snapshots), .ro (eRef.els x.meta_.refs), .ro (eProp.els x.meta_.props)]) (fun _ => rfl)
abbrev objectC (x : GObject) : List PV := [.s (.string x.name), pi x.kind, .ro ((eK .u8).els x.data), .ro (eField.els x.fields), .ro ((eL eValue).els x.rows), .ro (eEntry.els x.tables), pi x.changes]
def eObject : Enc GObject := .of 7 objectC (fun _ => rfl)
def eRBucket : Enc GRBucket := .of 2 (fun x => [.ro (eObject.els x.objects), .s (.string x.root)]) (fun _ => rfl)
set_option linter.unusedVariables false
set_option linter.unusedSimpArgs false
set_option linter.unnecessarySimpa false

structure Bulk where
 f : {H : Type} → DataW H → Nat
 one : ∀ {H : Type} (d : DataW H), 1 ≤ f d
 str : ∀ {H : Type} (b : List UInt8), b.length + 1 ≤ f (DataW.lit (H := H) (.string b))
 sl : ∀ {H : Type} (e s : List (DataW H)), (e.map f).sum + 1 ≤ f (.slice e s)
 ag : ∀ {H : Type} (ps : List (DataW H)), (ps.map f).sum + 1 ≤ f (.agg ps)

abbrev noMut : Nat → Prop := fun _ => False

def RdOk (w : World) (cs : List Value) (ps : List PV) : Prop :=
 cs.length = ps.length ∧ ∀ (j : Nat) v p, cs[j]? = some v → ps[j]? = some p → PRel noMut w v p

theorem RdOk.one {w : World} {v : Value} {p : PV} (h : PRel noMut w v p) : RdOk w [v] [p] := by
 refine ⟨rfl, fun j v' p' h1 h2 => ?_⟩
 cases j with
 | zero => simp at h1 h2; subst h1; subst h2; exact h
 | succ j => simp at h1

theorem RdOk.nil {w : World} : RdOk w [] [] := ⟨rfl, fun j v p h => by simp at h⟩

theorem RdOk.app {w : World} {cs : List Value} {p q : List PV} {n : Nat} (h : RdOk w (cs.take n) p) (k : RdOk w (cs.drop n) q) (hn : p.length = n) : RdOk w cs (p ++ q) := by
 have e : cs = cs.take n ++ cs.drop n := (List.take_append_drop n cs).symm
 refine ⟨?_, fun j v x h1 h2 => ?_⟩
 ·have h1 := h.1; have h2 := k.1
  rw [List.length_append, ← h1, ← h2, ← List.length_append, ← e]
 ·by_cases hj : j < n
  ·rw [List.getElem?_append_left (by omega)] at h2
   refine h.2 j v x ?_ h2
   rw [List.getElem?_take, if_pos hj]; exact h1
  ·rw [List.getElem?_append_right (by omega)] at h2
   refine k.2 (j - n) v x ?_ (by rw [← hn]; exact h2)
   rw [List.getElem?_drop, show n + (j - n) = j by omega]; exact h1

section
variable (B : Bulk) (P : Program)

def RdB (N : Nat) (t : TypeId) {α : Type} (cells : α → List PV) (wf : α → Prop) (size : α → Nat) : Prop :=
 ∀ ⦃H : Type⦄ ⦃enc : TypeId × Value → H⦄ ⦃w : World⦄ ⦃base : Nat⦄ ⦃spare : Nat → Bool⦄ ⦃held : Bool⦄ ⦃fuel : Nat⦄ ⦃cs : List Value⦄ ⦃d : DataW H⦄ ⦃ps : List MemPlace⦄,
  DataW.trod enc P w base spare held fuel t cs = some (d, ps) → B.f d ≤ N → ∃ x, RdOk w cs (cells x) ∧ wf x ∧ size x ≤ B.f d

variable {B P}

theorem RdB.int {N : Nat} {t : TypeId} {k : IntKind} (ht : P.underlying t = some (.int k)) : RdB B P N t (fun n : Int => [.s (.int k n)]) (fun n => k.min ≤ n ∧ n ≤ k.max) (fun _ => 1) := by
 intro H enc w base spare held fuel cs d ps h hN
 obtain ⟨n, rfl, hx, hw⟩ := DataW.trod_int ht h
 refine ⟨n, .one (.s _ rfl), ?_, B.one d⟩
 simpa [Lit.wf] using hw

theorem RdB.bool {N : Nat} {t : TypeId} (ht : P.underlying t = some .bool) : RdB B P N t (fun b : Bool => [.s (.bool b)]) (fun _ => True) (fun _ => 1) := by
 intro H enc w base spare held fuel cs d ps h hN
 obtain ⟨b, rfl, hx⟩ := DataW.trod_bool ht h
 exact ⟨b, .one (.s _ rfl), trivial, B.one d⟩

theorem RdB.str {N : Nat} {t : TypeId} (ht : P.underlying t = some .string) : RdB B P N t (fun s : ByteArray => [.s (.string s)]) (fun _ => True) (fun s => s.size + 1) := by
 intro H enc w base spare held fuel cs d ps h hN
 obtain ⟨s, rfl, hx, hs⟩ := DataW.trod_string ht h
 simp only [Prod.mk.injEq] at hx
 obtain ⟨rfl, rfl⟩ := hx
 refine ⟨s, .one (.s _ rfl), trivial, ?_⟩
 have := B.str (H := H) s.data.toList
 simpa using this

theorem cell_lt {w : World} {a : Addr} {v : Value} (h : w.cell? a = some v) : a.block < w.heap.size := by
 unfold World.cell? at h
 split at h
 ·rename_i h1; exact (Array.getElem?_eq_some_iff.1 h1).1
 ·cases h

theorem sum_ge {α : Type} {f : α → Nat} {l : List α} {x : α} (h : x ∈ l) : f x ≤ (l.map f).sum := by
 induction l with
 | nil => cases h
 | cons y l ih =>
  simp only [List.map_cons, List.sum_cons]
  rcases List.mem_cons.1 h with rfl | h
  ·omega
  ·have := ih h; omega

theorem choose_list {α β : Type} {q : Nat → α → β → Prop} : ∀ {l : List α} , (∀ (i : Nat) a, l[i]? = some a → ∃ b, q i a b) → ∃ bs : List β, bs.length = l.length ∧ ∀ (i : Nat) a b, l[i]? = some a → bs[i]? = some b → q i a b := by
 intro l
 induction l generalizing q with
 | nil => intro _; exact ⟨[], rfl, fun i a b h => by simp at h⟩
 | cons x l ih =>
  intro h
  obtain ⟨b0, h0⟩ := h 0 x rfl
  obtain ⟨bs, hl, hb⟩ := ih (q := fun i => q (i + 1)) (fun i a hi => h (i + 1) a (by simpa using hi))
  refine ⟨b0 :: bs, by simp [hl], fun i a b h1 h2 => ?_⟩
  cases i with
  | zero => simp at h1 h2; subst h1; subst h2; exact h0
  | succ i => exact hb i a b (by simpa using h1) (by simpa using h2)

theorem sum_le_of {α β : Type} {f : α → Nat} {g : β → Nat} : ∀ {l : List α} {m : List β}, m.length = l.length → (∀ (i : Nat) a b, l[i]? = some a → m[i]? = some b → g b ≤ f a) → (m.map g).sum ≤ (l.map f).sum
 | [], [], _, _ => by simp
 | [], _ :: _, h, _ => by simp at h
 | _ :: _, [], h, _ => by simp at h
 | a :: l, b :: m, h, hk => by
  have h0 := hk 0 a b rfl rfl
  have := sum_le_of (f := f) (g := g) (l := l) (m := m) (by simpa using h) (fun i x y h1 h2 => hk (i + 1) x y (by simpa using h1) (by simpa using h2))
  simp only [List.map_cons, List.sum_cons]
  omega

theorem RdB.slice {N : Nat} {t e : TypeId} {α : Type} {cells : α → List PV} {wf : α → Prop} {size : α → Nat} (ht : P.underlying t = some (.slice e)) (hc : ∀ x, (cells x).length = P.cellsOf e)
  (hpos : 0 < P.cellsOf e) (h : ∀ N', N' < N → RdB B P N' e cells wf size) :
  RdB B P N t (fun xs : List α => [.ro (xs.map cells)]) (fun xs => ∀ x ∈ xs, wf x) (fun xs => (xs.map size).sum + 1) := by
 intro H enc w base spare held fuel cs d ps hd hN
 rcases DataW.trod_slice ht hd with ⟨rfl, hx⟩ | ⟨a, len, cap, elems, rest, n, _, rfl, hx, hb, hl, hm, hlen, hel, _, _⟩
 ·exact ⟨[], .one .nl, by simp, by simpa using B.one d⟩
 simp only [Prod.mk.injEq] at hx
 obtain ⟨rfl, rfl⟩ := hx
 have hsum := B.sl (elems.map (·.1)) (rest.map (·.1))
 have hel' : ∀ (i : Nat) z, elems[i]? = some z → ∃ x : α, (∃ cs', w.cells? base (a.add (i * P.cellsOf e)) (P.cellsOf e) = some cs' ∧ RdOk w cs' (cells x)) ∧ wf x ∧ size x ≤ B.f z.1 := by
  intro i z hz
  have hi : i < len := by rw [← hlen]; exact (List.getElem?_eq_some_iff.1 hz).1
  have hk := hel i hi
  rw [hz] at hk
  obtain ⟨cs', h1, h2⟩ := Option.bind_eq_some_iff.1 hk
  have hle : B.f z.1 ≤ ((elems.map (·.1)).map B.f).sum := sum_ge (f := B.f) (List.mem_map.2 ⟨z, List.mem_of_getElem? hz, rfl⟩)
  obtain ⟨x, k1, k2, k3⟩ := h (B.f z.1) (by omega) (d := z.1) (ps := z.2) h2 (Nat.le_refl _)
  exact ⟨x, ⟨cs', h1, k1⟩, k2, k3⟩
 obtain ⟨xs, hxl, hxs⟩ := choose_list hel'
 have hxlen : xs.length = len := by omega
 have key : ∀ (i : Nat) x, xs[i]? = some x → ∃ z, elems[i]? = some z ∧ (∃ cs', w.cells? base (a.add (i * P.cellsOf e)) (P.cellsOf e) = some cs' ∧ RdOk w cs' (cells x)) ∧ wf x ∧ size x ≤ B.f z.1 := by
  intro i x hx
  have hi : i < elems.length := by rw [← hxl]; exact (List.getElem?_eq_some_iff.1 hx).1
  exact ⟨_, List.getElem?_eq_getElem hi, hxs i _ x (List.getElem?_eq_getElem hi) hx⟩
 refine ⟨xs, .one ?_, ?_, ?_⟩
 ·have hcell : ∀ (i : Nat) (ee : List PV) (j : Nat) c, (xs.map cells)[i]? = some ee → ee[j]? = some c → ∃ v, w.cell? (a.add (i * P.cellsOf e + j)) = some v ∧ PRel noMut w v c := by
   intro i ee j c h1 h2
   rw [List.getElem?_map, Option.map_eq_some_iff] at h1
   obtain ⟨x, hx, rfl⟩ := h1
   obtain ⟨z, _, ⟨cs', hcs, hrd⟩, _, _⟩ := key i x hx
   obtain ⟨_, hcl, hcc⟩ := World.cells?_some hcs
   have hj : j < P.cellsOf e := by rw [← hc x]; exact (List.getElem?_eq_some_iff.1 h2).1
   have := hcc j hj
   rw [add_add] at this
   have hget : cs'[j]? = some cs'[j] := List.getElem?_eq_getElem (by omega)
   exact ⟨cs'[j], this.trans hget, hrd.2 j _ c hget h2⟩
  have := PRel.ro (μ := noMut) (w := w) a cap (P.cellsOf e) (xs.map cells) (fun i j => (w.cell? (a.add (i * P.cellsOf e + j))).getD undef) (by simpa [hxlen] using hl)
   (fun ee he => by obtain ⟨x, _, rfl⟩ := List.mem_map.1 he; exact hc x)
   (fun hne => by
    refine ⟨?_, fun h => h⟩
    cases xs with
    | nil => simp at hne
    | cons x0 r0 =>
     have h0 : 0 < (cells x0).length := by rw [hc]; exact hpos
     obtain ⟨v, hv, _⟩ := hcell 0 (cells x0) 0 _ rfl (List.getElem?_eq_getElem h0)
     have := cell_lt hv
     rwa [add_block] at this)
   (fun i ee j c h1 h2 => by obtain ⟨v, hv, _⟩ := hcell i ee j c h1 h2; simp [hv])
   (fun i ee j c h1 h2 => by obtain ⟨v, hv, hr⟩ := hcell i ee j c h1 h2; simpa [hv] using hr)
  rw [List.length_map, hxlen] at this
  exact this
 ·intro x hx
  obtain ⟨i, hi, rfl⟩ := List.getElem_of_mem hx
  obtain ⟨_, _, _, k, _⟩ := key i _ (List.getElem?_eq_getElem hi)
  exact k
 ·have : (xs.map size).sum ≤ ((elems.map (·.1)).map B.f).sum := by
   rw [List.map_map]
   exact sum_le_of (f := B.f ∘ Prod.fst) (g := size) hxl (fun i z x h1 h2 => (hxs i z x h1 h2).2.2)
  show (xs.map size).sum + 1 ≤ _
  omega

def FldsAt (P : Program) : Nat → List Field → Bool
 | _, [] => true
 | off, f :: l => Nat.beq f.offset off && FldsAt P (off + P.cellsOf f.type) l

def RdF (B : Bulk) (P : Program) (N : Nat) (off : Nat) (fs : List Field) {α : Type} (cells : α → List PV) (wf : α → Prop) (size : α → Nat) : Prop :=
 ∀ ⦃H : Type⦄ ⦃enc : TypeId × Value → H⦄ ⦃w : World⦄ ⦃base : Nat⦄ ⦃spare : Nat → Bool⦄ ⦃held : Bool⦄ ⦃n : Nat⦄ ⦃cs : List Value⦄ ⦃xs : List (DataW H × List MemPlace)⦄,
  xs.length = fs.length → (∀ (i : Nat) f, fs[i]? = some f → DataW.trod enc P w base spare held n f.type ((cs.drop f.offset).take (P.cellsOf f.type)) = xs[i]?) → ((xs.map (·.1)).map B.f).sum ≤ N →
  cs.length = off + (fs.map fun f => P.cellsOf f.type).sum →
  ∃ x, RdOk w (cs.drop off) (cells x) ∧ wf x ∧ size x ≤ ((xs.map (·.1)).map B.f).sum

theorem RdF.nil {N off : Nat} : RdF B P N off [] (fun _ : Unit => []) (fun _ => True) (fun _ => 0) := by
 intro H enc w base spare held n cs xs hl h hN hc
 refine ⟨(), ?_, trivial, Nat.zero_le _⟩
 have : cs.drop off = [] := by simp at hc ⊢; omega
 rw [this]
 exact .nil

theorem RdF.cons {N off : Nat} {f : Field} {fs : List Field} {α β : Type} {c1 : α → List PV} {w1 : α → Prop} {s1 : α → Nat} {c2 : β → List PV} {w2 : β → Prop} {s2 : β → Nat} (ho : f.offset = off) (hc : ∀ x, (c1 x).length = P.cellsOf f.type)
  (h : RdB B P N f.type c1 w1 s1) (k : RdF B P N (off + P.cellsOf f.type) fs c2 w2 s2) : RdF B P N off (f :: fs) (fun p : α × β => c1 p.1 ++ c2 p.2) (fun p => w1 p.1 ∧ w2 p.2) (fun p => s1 p.1 + s2 p.2) := by
 intro H enc w base spare held n cs xs hl hx hN hlen
 match xs, hl with
 | z :: zs, hl =>
  simp only [List.map_cons, List.sum_cons] at hN hlen ⊢
  have h0 := hx 0 f rfl
  obtain ⟨x, a1, a2, a3⟩ := h (d := z.1) (ps := z.2) h0 (by omega)
  obtain ⟨y, b1, b2, b3⟩ := k (xs := zs) (cs := cs) (by simpa using hl) (fun i g hg => hx (i + 1) g (by simpa using hg)) (by omega) (by omega)
  refine ⟨(x, y), ?_, ⟨a2, b2⟩, by simp only; omega⟩
  rw [ho] at a1
  refine RdOk.app (n := P.cellsOf f.type) a1 ?_ (hc x)
  rw [List.drop_drop]
  exact b1

theorem RdB.struct {N : Nat} {t : TypeId} {fs : Array Field} {α β : Type} {c : β → List PV} {wf : β → Prop} {s : β → Nat} {cells : α → List PV} {wf' : α → Prop} {size : α → Nat} (ht : P.underlying t = some (.struct fs)) (hsz : P.cellsOf t = 0 + (fs.toList.map fun f => P.cellsOf f.type).sum)
  (h : ∀ N', N' < N → RdF B P N' 0 fs.toList c wf s) (mk : β → α) (h1 : ∀ y, cells (mk y) = c y) (h2 : ∀ y, wf y → wf' (mk y)) (h3 : ∀ y, size (mk y) ≤ s y + 1) : RdB B P N t cells wf' size := by
 intro H enc w base spare held fuel cs d ps hd hN
 obtain ⟨xs, n, _, hx, hlen, hxl, hf⟩ := DataW.trod_struct ht hd
 simp only [Prod.mk.injEq] at hx
 obtain ⟨rfl, rfl⟩ := hx
 have hag := B.ag (xs.map (·.1))
 obtain ⟨y, a1, a2, a3⟩ := h _ (show ((xs.map (·.1)).map B.f).sum < N by omega) (xs := xs) (cs := cs) (by simpa using hxl) (fun i f hi => hf i f (by simpa using hi)) (Nat.le_refl _) (hlen.trans hsz)
 refine ⟨mk y, ?_, h2 y a2, ?_⟩
 ·rw [h1]; simpa using a1
 ·have := h3 y; omega

theorem RdB.conv {N : Nat} {t : TypeId} {α : Type} {c c' : α → List PV} {wf wf' : α → Prop} {s s' : α → Nat} (h : RdB B P N t c wf s) (h1 : ∀ x, c' x = c x) (h2 : ∀ x, wf x → wf' x) (h3 : ∀ x, s' x ≤ s x) : RdB B P N t c' wf' s' := by
 intro H enc w base spare held fuel cs d ps hd hN
 obtain ⟨x, a1, a2, a3⟩ := h hd hN
 exact ⟨x, by rw [h1]; exact a1, h2 x a2, Nat.le_trans (h3 x) a3⟩

end

/-! ### arguments -/

theorem PRel.toVRel {w : World} {v : Value} {p : PV} (h : PRel noMut w v p) : VRel ⟨fun _ => none, fun _ => False⟩ w [] v (.pv p) :=
 .pv v p (h.mono (Nat.le_refl _) (fun b _ _ => ⟨rfl, fun hm => by
  rcases hm with hm | ⟨id, o, h1, _, _⟩
  ·exact hm
  ·simp at h1⟩))

theorem arg_one {w : World} {v : Value} {p : PV} (h : RdOk w [v] [p]) : AVRel ⟨fun _ => none, fun _ => False⟩ w [] v (.one (.pv p)) := .one _ _ (h.2 0 v p rfl rfl).toVRel

theorem arg_ag {w : World} {cs : List Value} {ps : List PV} (h : RdOk w cs ps) : AVRel ⟨fun _ => none, fun _ => False⟩ w [] (.agg cs.toArray) (.ag (ps.map .pv)) := by
 refine .ag _ _ ⟨by simpa using h.1, fun j v c h1 h2 => ?_⟩
 rw [List.getElem?_map, Option.map_eq_some_iff] at h2
 obtain ⟨p, h2, rfl⟩ := h2
 exact (h.2 j v p h1 h2).toVRel

theorem arg_read {B : Bulk} {P : Program} {H : Type} {enc : TypeId × Value → H} {w : World} {base b0 : Nat} {spare : Nat → Bool} {held : Bool} {r : Reach} {t : TypeId} {v : Value} {d : DataW H} {ps : List MemPlace} {α : Type} {cells : α → List PV} {wf : α → Prop} {size : α → Nat}
  (h : ∀ N, RdB B P N t cells wf size) (hval : Value.okWide P w r b0 t v) (hd : DataW.Trod enc P w base spare held t v d ps) :
  ∃ x, RdOk w v.cells.toList (cells x) ∧ wf x ∧ size x ≤ B.f d := by
 obtain ⟨fuel, hd⟩ := hd
 exact h _ hd (Nat.le_refl _)

theorem ok_struct {P : Program} {w : World} {r : Reach} {b0 : Nat} {t : TypeId} {v : Value} {fs : Array Field} (ht : P.underlying t = some (.struct fs)) (hval : Value.okWide P w r b0 t v) : v = .agg v.cells := by
 simp only [Value.okWide, ht] at hval
 obtain ⟨cs, rfl, _⟩ := hval
 rfl

theorem arg_struct {w : World} {v : Value} {ps : List PV} (hv : v = .agg v.cells) (h : RdOk w v.cells.toList ps) : AVRel ⟨fun _ => none, fun _ => False⟩ w [] v (.ag (ps.map .pv)) := by
 have := arg_ag h
 rw [hv]
 simpa [Value.cells] using this

theorem arg_cell {w : World} {v : Value} {p : PV} (h : RdOk w v.cells.toList [p]) (hv : ∀ cs, v ≠ .agg cs) : AVRel ⟨fun _ => none, fun _ => False⟩ w [] v (.one (.pv p)) := by
 have e : v.cells = #[v] := by cases v <;> first | rfl | exact absurd rfl (hv _)
 rw [e] at h
 exact arg_one h

theorem ok_cell {P : Program} {w : World} {r : Reach} {b0 : Nat} {t : TypeId} {v : Value} (ht : (match P.underlying t with | some (.int _) => true | some .bool => true | some .string => true | some (.slice _) => true | _ => false) = true) (hval : Value.okWide P w r b0 t v) : ∀ cs, v ≠ .agg cs := by
 rintro cs rfl
 cases hu : P.underlying t with
 | none => simp [hu] at ht
 | some d =>
  cases d <;> simp [hu] at ht <;> simp [Value.okWide, hu, Cell.okWide, Cell.ok] at hval

/-! ### closing -/

structure Kept (w w' : World) : Prop where
 os : w'.os = w.os
 output : w'.output = w.output
 size : w.heap.size ≤ w'.heap.size
 blk : ∀ b : Nat, b < w.heap.size → w'.heap[b]? = w.heap[b]?

theorem PC.call {P : Program} {f : Nat} {args : List AV} {r : AV} (h : PC P f args r) {w : World} {vs : List Value} (hl : vs.length = args.length) (hA : ∀ (j : Nat) v a, vs[j]? = some v → args[j]? = some a → AVRel ⟨fun _ => none, fun _ => False⟩ w [] v a) (hg : ∀ (b : Nat) (l : List Value), glob b = some l → b < w.heap.size ∧ GAt w b l) :
  Calls P f vs.toArray w fun e w' => ∃ v ι', e = .returned v ∧ AVRel ι' w' [] v r ∧ Kept w w' := by
 refine (h ⟨fun _ => none, fun _ => False⟩ w vs ⟨fun id o h => by simp at h, fun b h => h.elim, fun b h => fun h' => h', fun id id' o o' b h => by simp at h, fun b o h => ⟨fun hm => hm.elim id (fun ⟨_, _, h1, _⟩ => by simp at h1), hg b o h⟩⟩ ⟨hl, hA⟩).mono ?_
 rintro e w' ⟨v, av, st', ι', rfl, ⟨rfl, rfl⟩, hR, hv, k⟩
 refine ⟨v, ι', rfl, hv, k.os, k.output, k.size, fun b hb => (k.blk b hb ?_).1⟩
 rintro ⟨id, o, h1, _⟩
 simp at h1

theorem Kept.keptBut {w w' : World} (k : Kept w w') (may : MemPlace → Prop) : w.keptBut w' may := by
 refine ⟨k.os, k.output, fun i hi => ?_⟩
 rw [k.blk i hi]
 have : w.heap[i]? = some w.heap[i] := Array.getElem?_eq_getElem hi
 rw [this]
 cases w.heap[i] with
 | cells c t fr => exact ⟨rfl, rfl, rfl, fun _ _ => rfl⟩
 | map es clock => exact .inr ⟨rfl, rfl⟩
 | _ => rfl

theorem Kept.frozen {w w' : World} (k : Kept w w') {b off : Nat} (hb : b < w.heap.size) : w'.frozen? ⟨b, off, none⟩ = w.frozen? ⟨b, off, none⟩ := by
 simp [World.frozen?, k.blk b hb]

open Go.ChangeShapes Go.WideElems Go.WideShapes in
theorem stays_all {H : Type} {enc : TypeId × Value → H} {P : Program} {W W' : World} (hl : laidOutB P = true) (k : Kept W W') {sp : Nat → Bool} : ∀ {ts : List TypeId} {vs : List Value} {ds : List (DataW H)} {ps : List MemPlace}, (ts.all fun t => P.readableRec t && Nat.ble (t + 1) P.types.size) = true →
  DataW.TrodAll enc P W 0 (fun _ => true) true ts vs ds ps → (∀ p ∈ ps, p.block < W.heap.size) → (∀ p ∈ ps, sp p.block = true) → DataW.TrodAll enc P W' 0 sp true ts vs ds ps
 | [], _, _, _, _, h, _, _ => by
  obtain ⟨rfl, rfl, rfl⟩ := trodAll_nil h
  exact rfl
 | t :: ts, _, _, _, hr, h, hp, hs => by
  obtain ⟨v, vs1, d, ds1, a, b, rfl, rfl, rfl, h1, h2⟩ := trodAll_cons h
  simp only [List.all_cons, Bool.and_eq_true] at hr
  refine ⟨a, b, Trod_stays hl hr.1.1 (Nat.le_of_ble_eq_true hr.1.2) h1 (fun p hpa => ?_) (fun p hpa => hs p (by simp [hpa])), stays_all hl k hr.2 h2 (fun p hpa => hp p (by simp [hpa])) (fun p hpa => hs p (by simp [hpa])), rfl⟩
  have := hp p (by simp [hpa])
  cases p with
  | cell b off => exact cell?_same (k.blk b this)
  | map b => exact k.blk b this

open Go.ChangeShapes Go.RowKit Go.WideShapes Go.ChangeAt in
theorem post_true {H : Type} {enc : TypeId × Value → H} {P : Program} {f : Func} {s : ChangeSpec} {apart fresh handsOn again : Bool} {W W' : World} {args : Array Value} {ds gs : List (DataW H)} {before : List MemPlace}
  (hW : DataW.Whole enc P f.params.toList s.vars apart W args.toList ds gs before) (hl : laidOutB P = true) (hr : (f.params.toList.all fun t => P.readableRec t && Nat.ble (t + 1) P.types.size) = true) (k : Kept W W')
  (hvars : s.vars = []) (t : TypeId) (ht : f.resultTypes = #[t]) (hb : P.underlying t = some .bool) (hsp : s.fn H ds = { results := [.lit (.bool true)], args := ds }) :
  s.post enc P f apart fresh handsOn again W args (.bool true) W' := by
 have hW' := hW
 have hlt : ∀ p ∈ before, p.block < W.heap.size := fun p hp => hW.lt p hp
 obtain ⟨p, q, hA, hV, rfl, hz, hn⟩ := hW'
 rw [hvars] at hV
 obtain ⟨rfl, rfl⟩ := trodVars_none hV
 have hres : ∀ (b : Nat) (sp : Nat → Bool) (hd : Bool), DataW.TrodAll enc P W' b sp hd f.resultTypes.toList ((Value.bool true).resultList f.resultTypes.size) [.lit (.bool true)] [] := by
  intro b sp hd
  rw [ht]
  exact trodAll_cons_mk (shut_bool hb _) trodAll_mk0
 simp only [List.append_nil] at *
 have hargs : ∀ sp : Nat → Bool, (∀ x ∈ p, sp x.block = true) → DataW.TrodAll enc P W' 0 sp true f.params.toList args.toList ds p := fun sp hs => stays_all hl k hr hA hlt hs
 have hold : ∀ x ∈ p, (fun b => decide (b < W.heap.size)) x.block = true := fun x hx => by simpa using hlt x hx
 refine ⟨ds, [], p, [], p, [], by simpa using hW, ?_, ?_, ?_, k.keptBut _, fun _ => ⟨?_, [.lit (.bool true)] ++ ds, [], p, ⟨p, [], ?_, ?_, by simp, ?_, hn⟩, ?_⟩⟩
 ·simp only [List.append_nil, hsp]; exact hres _ _ _
 ·simp only [List.append_nil, hsp]; exact hargs _ hold
 ·simp only [List.append_nil, hsp, hvars]; rfl
 ·exact ok_one ht rfl (okWide_bool_mk hb _)
 ·have := trodAll_append (hargs (fun _ => true) (fun _ _ => rfl)) (hres 0 (fun _ => true) true)
  simpa using this
 ·rw [hvars]; rfl
 ·intro b off hp
  rw [k.frozen (b := b) (off := off) (hlt _ hp)]
  exact hz b off hp
 ·intro x hx _; exact hx

theorem bool_of {ι : IM} {w : World} {v : Value} {b : Bool} (h : AVRel ι w [] v (.one (.pv (.s (.bool b))))) : v = .bool b := by
 cases h with
 | one _ _ h =>
  cases h with
  | pv _ _ h => cases h with | s => rfl

set_option linter.unusedVariables false

def fieldsOf (P : Program) (t : TypeId) : List Field := match P.underlying t with
 | some (.struct fs) => fs.toList
 | _ => []

def isStruct (P : Program) (t : TypeId) : Bool := match P.underlying t with
 | some (.struct _) => true
 | _ => false

def fld (P : Program) (t : TypeId) (i : Nat) : Field := (fieldsOf P t)[i]?.getD default

section
variable {B : Bulk} {P : Program}

theorem RdB.structF {N : Nat} {t : TypeId} {L : List Field} {α β : Type} {c : β → List PV} {wf : β → Prop} {s : β → Nat} {cells : α → List PV} {wf' : α → Prop} {size : α → Nat} (hu : isStruct P t = true) (hL : fieldsOf P t = L) (hsz : P.cellsOf t = 0 + (L.map fun f => P.cellsOf f.type).sum)
  (h : ∀ N', N' < N → RdF B P N' 0 L c wf s) (mk : β → α) (h1 : ∀ y, cells (mk y) = c y) (h2 : ∀ y, wf y → wf' (mk y)) (h3 : ∀ y, size (mk y) ≤ s y + 1) : RdB B P N t cells wf' size := by
 unfold isStruct at hu
 unfold fieldsOf at hL
 cases hd : P.underlying t with
 | none => simp [hd] at hu
 | some d =>
  cases d <;> simp [hd] at hu
  rename_i fs
  simp only [hd] at hL
  subst hL
  exact RdB.struct hd hsz h mk h1 h2 h3

theorem ok_structF {w : World} {r : Reach} {b0 : Nat} {t : TypeId} {v : Value} (hu : isStruct P t = true) (hval : Value.okWide P w r b0 t v) : v = .agg v.cells := by
 unfold isStruct at hu
 cases hd : P.underlying t with
 | none => simp [hd] at hu
 | some d =>
  cases d <;> simp [hd] at hu
  exact ok_struct hd hval

end

theorem rdCivil {B : Bulk} {P : Program} (t i : TypeId) (hi : P.underlying i = some (.int .i64)) (hu : isStruct P t = true) (hL : fieldsOf P t = [fld P t 0, fld P t 1, fld P t 2, fld P t 3, fld P t 4, fld P t 5]) (hs : P.cellsOf t = 6) (h1 : P.cellsOf i = 1)
  (ht : (fld P t 0).type = i ∧ (fld P t 1).type = i ∧ (fld P t 2).type = i ∧ (fld P t 3).type = i ∧ (fld P t 4).type = i ∧ (fld P t 5).type = i)
  (ho : (fld P t 0).offset = 0 ∧ (fld P t 1).offset = 1 ∧ (fld P t 2).offset = 2 ∧ (fld P t 3).offset = 3 ∧ (fld P t 4).offset = 4 ∧ (fld P t 5).offset = 5) (N : Nat) :
  RdB B P N t (fun c : GCivil => [pi c.year, pi c.month, pi c.day, pi c.hour, pi c.minute, pi c.second]) (fun _ => True) (fun _ => 1) := by
 obtain ⟨t0, t1, t2, t3, t4, t5⟩ := ht
 obtain ⟨o0, o1, o2, o3, o4, o5⟩ := ho
 have I : ∀ (N : Nat) (f : Field), f.type = i → RdB B P N f.type (fun n : Int => [.s (.int .i64 n)]) (fun n => IntKind.min .i64 ≤ n ∧ n ≤ IntKind.max .i64) (fun _ => 1) := fun N f hf => RdB.int (by rw [hf]; exact hi)
 have C : ∀ (f : Field), f.type = i → ∀ x : Int, ([PV.s (.int .i64 x)] : List PV).length = P.cellsOf f.type := fun f hf x => by rw [hf, h1]; rfl
 refine RdB.structF (α := GCivil) (cells := fun c : GCivil => [pi c.year, pi c.month, pi c.day, pi c.hour, pi c.minute, pi c.second]) (wf' := fun _ => True) (size := fun _ => 1) hu hL (by simp [t0, t1, t2, t3, t4, t5, h1, hs]) (fun N' _ => RdF.cons o0 (C _ t0) (I N' _ t0) (RdF.cons (by rw [o1, t0, h1]) (C _ t1) (I N' _ t1) (RdF.cons (by rw [o2, t0, t1, h1]) (C _ t2) (I N' _ t2)
  (RdF.cons (by rw [o3, t0, t1, t2, h1]) (C _ t3) (I N' _ t3) (RdF.cons (by rw [o4, t0, t1, t2, t3, h1]) (C _ t4) (I N' _ t4) (RdF.cons (by rw [o5, t0, t1, t2, t3, t4, h1]) (C _ t5) (I N' _ t5) RdF.nil))))))
  (fun y => (⟨y.1, y.2.1, y.2.2.1, y.2.2.2.1, y.2.2.2.2.1, y.2.2.2.2.2.1⟩ : GCivil)) (fun y => rfl) (fun _ _ => trivial) (fun y => by simp)

set_option linter.unusedVariables false
set_option linter.unusedSimpArgs false

theorem rdTransform {B : Bulk} {P : Program} (t i : TypeId) (hi : P.underlying i = some (.int .i64)) (hu : isStruct P t = true) (hL : fieldsOf P t = [fld P t 0, fld P t 1]) (hs : P.cellsOf t = 2) (h1 : P.cellsOf i = 1)
  (ht : (fld P t 0).type = i ∧ (fld P t 1).type = i) (ho : (fld P t 0).offset = 0 ∧ (fld P t 1).offset = 1) (N : Nat) :
  RdB B P N t (fun c : GTransform => [pi c.kind, pi c.param]) (fun _ => True) (fun _ => 1) := by
 obtain ⟨t0, t1⟩ := ht
 obtain ⟨o0, o1⟩ := ho
 have I : ∀ (N : Nat) (f : Field), f.type = i → RdB B P N f.type (fun n : Int => [.s (.int .i64 n)]) (fun n => IntKind.min .i64 ≤ n ∧ n ≤ IntKind.max .i64) (fun _ => 1) := fun N f hf => RdB.int (by rw [hf]; exact hi)
 have C : ∀ (f : Field), f.type = i → ∀ x : Int, ([PV.s (.int .i64 x)] : List PV).length = P.cellsOf f.type := fun f hf x => by rw [hf, h1]; rfl
 refine RdB.structF (α := GTransform) (cells := fun c : GTransform => [pi c.kind, pi c.param]) (wf' := fun _ => True) (size := fun _ => 1) hu hL (by simp [t0, t1, h1, hs]) (fun N' _ => RdF.cons o0 (C _ t0) (I N' _ t0) (RdF.cons (by rw [o1, t0, h1]) (C _ t1) (I N' _ t1) RdF.nil))
  (fun y => (⟨y.1, y.2.1⟩ : GTransform)) (fun y => rfl) (fun _ _ => trivial) (fun y => by simp)

set_option linter.unusedVariables false
set_option linter.unusedSimpArgs false

theorem rdSpecField {B : Bulk} {P : Program} (tf tt ti : TypeId) (hi : P.underlying ti = some (.int .i64)) (hu : isStruct P tf = true) (hu' : isStruct P tt = true) (hL : fieldsOf P tf = [fld P tf 0, fld P tf 1]) (hL' : fieldsOf P tt = [fld P tt 0, fld P tt 1]) (hz : P.cellsOf tf = 3 ∧ P.cellsOf tt = 2 ∧ P.cellsOf ti = 1)
  (ht : (fld P tf 0).type = ti ∧ (fld P tf 1).type = tt ∧ (fld P tt 0).type = ti ∧ (fld P tt 1).type = ti) (ho : (fld P tf 0).offset = 0 ∧ (fld P tf 1).offset = 1 ∧ (fld P tt 0).offset = 0 ∧ (fld P tt 1).offset = 1) (N : Nat) :
  RdB B P N tf spfC (fun _ => True) (fun _ => 1) := by
 obtain ⟨t0, t1, t2, t3⟩ := ht
 obtain ⟨o0, o1, o2, o3⟩ := ho
 obtain ⟨z0, z1, z2⟩ := hz
 have I : ∀ (N : Nat) (f : Field), f.type = ti → RdB B P N f.type (fun n : Int => [.s (.int .i64 n)]) (fun n => IntKind.min .i64 ≤ n ∧ n ≤ IntKind.max .i64) (fun _ => 1) := fun N f hf => RdB.int (by rw [hf]; exact hi)
 have C : ∀ (f : Field), f.type = ti → ∀ x : Int, ([PV.s (.int .i64 x)] : List PV).length = P.cellsOf f.type := fun f hf x => by rw [hf, z2]; rfl
 have T : ∀ N, RdB B P N (fld P tf 1).type (fun c : GTransform => [pi c.kind, pi c.param]) (fun _ => True) (fun _ => 1) := fun N => by
  rw [t1]; exact rdTransform tt ti hi hu' hL' z1 z2 ⟨t2, t3⟩ ⟨o2, o3⟩ N
 refine RdB.structF (α := GSpecField) (cells := spfC) (wf' := fun _ => True) (size := fun _ => 1) hu hL (by simp [t0, t1, z0, z1, z2]) (fun N' _ =>
  RdF.cons o0 (C _ t0) (I N' _ t0) (RdF.cons (c1 := fun c : GTransform => [pi c.kind, pi c.param]) (by rw [o1, t0, z2]) (fun x => by rw [t1, z1]; rfl) (T N') RdF.nil))
  (fun y => (⟨y.1, y.2.1⟩ : GSpecField)) (fun y => rfl) (fun _ _ => trivial) (fun y => by simp)

theorem rdSpec {B : Bulk} {P : Program} (t tl tf tt ti : TypeId) (hl : P.underlying tl = some (.slice tf)) (h0 : isStruct P t = true) (hL0 : fieldsOf P t = [fld P t 0]) (hz0 : P.cellsOf t = 1 ∧ P.cellsOf tl = 1) (ht0 : (fld P t 0).type = tl) (ho0 : (fld P t 0).offset = 0)
  (hi : P.underlying ti = some (.int .i64)) (hu : isStruct P tf = true) (hu' : isStruct P tt = true) (hL : fieldsOf P tf = [fld P tf 0, fld P tf 1]) (hL' : fieldsOf P tt = [fld P tt 0, fld P tt 1]) (hz : P.cellsOf tf = 3 ∧ P.cellsOf tt = 2 ∧ P.cellsOf ti = 1)
  (ht : (fld P tf 0).type = ti ∧ (fld P tf 1).type = tt ∧ (fld P tt 0).type = ti ∧ (fld P tt 1).type = ti) (ho : (fld P tf 0).offset = 0 ∧ (fld P tf 1).offset = 1 ∧ (fld P tt 0).offset = 0 ∧ (fld P tt 1).offset = 1) (N : Nat) :
  RdB B P N t (fun x : GSpec => [PV.ro (eSpecField.els x.fields)]) (fun _ => True) (fun x => x.fields.length) := by
 have hS : ∀ N, RdB B P N (fld P t 0).type (fun xs : List GSpecField => [PV.ro (xs.map spfC)]) (fun xs => ∀ x ∈ xs, True) (fun xs => (xs.map fun _ => 1).sum + 1) := fun N => by
  rw [ht0]; exact RdB.slice (e := tf) (cells := spfC) hl (fun x => by rw [hz.1]; rfl) (by rw [hz.1]; omega) (fun N' _ => rdSpecField tf tt ti hi hu hu' hL hL' hz ht ho N')
 refine RdB.structF (α := GSpec) (cells := fun x : GSpec => [PV.ro (eSpecField.els x.fields)]) (wf' := fun _ => True) (size := fun x => x.fields.length) h0 hL0 (by simp [ht0, hz0]) (fun N' _ =>
  RdF.cons (c1 := fun xs : List GSpecField => [PV.ro (xs.map spfC)]) ho0 (fun x => by rw [ht0, hz0.2]; rfl) (hS N') RdF.nil)
  (fun y => (⟨y.1⟩ : GSpec)) (fun y => ?_) (fun _ _ => trivial) (fun y => ?_)
 ·show [PV.ro (eSpecField.els y.1)] = [PV.ro (y.1.map spfC)] ++ []
  rw [eSpecField.hels]; rfl
 ·show y.1.length ≤ (y.1.map fun _ => 1).sum + 1 + 0 + 1
  have : ∀ l : List GSpecField, (l.map fun _ => 1).sum = l.length := fun l => by induction l with
   | nil => rfl
   | cons a l ih => simp only [List.map_cons, List.sum_cons, List.length_cons, ih]; omega
  rw [this]; omega

set_option linter.unusedVariables false

abbrev i64ok (n : Int) : Prop := IntKind.min .i64 ≤ n ∧ n ≤ IntKind.max .i64

theorem rdValue {B : Bulk} {P : Program} {wf : GValue → Prop} {sz : GValue → Nat} (tv ti ts tl : TypeId) (hi : P.underlying ti = some (.int .i64)) (hs : P.underlying ts = some .string) (hl : P.underlying tl = some (.slice tv)) (hu : isStruct P tv = true)
  (hL : fieldsOf P tv = [fld P tv 0, fld P tv 1, fld P tv 2, fld P tv 3, fld P tv 4]) (hz : P.cellsOf tv = 5 ∧ P.cellsOf ti = 1 ∧ P.cellsOf ts = 1 ∧ P.cellsOf tl = 1)
  (ht : (fld P tv 0).type = ti ∧ (fld P tv 1).type = ti ∧ (fld P tv 2).type = ti ∧ (fld P tv 3).type = ts ∧ (fld P tv 4).type = tl)
  (ho : (fld P tv 0).offset = 0 ∧ (fld P tv 1).offset = 1 ∧ (fld P tv 2).offset = 2 ∧ (fld P tv 3).offset = 3 ∧ (fld P tv 4).offset = 4)
  (hwf : ∀ k n sc s it, i64ok k → i64ok n → i64ok sc → (∀ x ∈ it, wf x) → wf ⟨k, n, sc, s, it⟩) (hsz : ∀ k n sc s it, sz ⟨k, n, sc, s, it⟩ ≤ s.size + (it.map sz).sum + 6) :
  ∀ N, RdB B P N tv GValue.cells wf sz := by
 obtain ⟨t0, t1, t2, t3, t4⟩ := ht
 obtain ⟨o0, o1, o2, o3, o4⟩ := ho
 obtain ⟨z0, z1, z2, z3⟩ := hz
 intro N
 induction N using Nat.strongRecOn with
 | _ N ih =>
  have I : ∀ (N : Nat) (f : Field), f.type = ti → RdB B P N f.type (fun n : Int => [PV.s (.int .i64 n)]) (fun n => IntKind.min .i64 ≤ n ∧ n ≤ IntKind.max .i64) (fun _ => 1) := fun N f hf => RdB.int (by rw [hf]; exact hi)
  have C : ∀ (f : Field), f.type = ti → ∀ x : Int, ([PV.s (.int .i64 x)] : List PV).length = P.cellsOf f.type := fun f hf x => by rw [hf, z1]; rfl
  refine RdB.structF (α := GValue) (cells := GValue.cells) (wf' := wf) (size := sz) hu hL (by simp [t0, t1, t2, t3, t4, z0, z1, z2, z3]) (fun N' hN' =>
   RdF.cons o0 (C _ t0) (I N' _ t0) (RdF.cons (by rw [o1, t0, z1]) (C _ t1) (I N' _ t1) (RdF.cons (by rw [o2, t0, t1, z1]) (C _ t2) (I N' _ t2)
    (RdF.cons (c1 := fun s : ByteArray => [PV.s (.string s)]) (by rw [o3, t0, t1, t2, z1]) (fun x => by rw [t3, z2]; rfl) (RdB.str (by rw [t3]; exact hs))
     (RdF.cons (c1 := fun xs : List GValue => [PV.ro (xs.map GValue.cells)]) (by rw [o4, t0, t1, t2, t3, z1, z2]) (fun x => by rw [t4, z3]; rfl)
      (RdB.slice (e := tv) (by rw [t4]; exact hl) (fun x => by rw [z0]; cases x; rfl) (by omega) (fun N'' hN'' => ih N'' (by omega))) RdF.nil)))))
   (fun y => (⟨y.1, y.2.1, y.2.2.1, y.2.2.2.1, y.2.2.2.2.1⟩ : GValue)) (fun y => ?_) (fun y h => hwf _ _ _ _ _ h.1 h.2.1 h.2.2.1 h.2.2.2.2.1) (fun y => ?_)
  ·simp only [GValue.cells, GValue.lcells_eq]
   rfl
  ·have := hsz y.1 y.2.1 y.2.2.1 y.2.2.2.1 y.2.2.2.2.1
   exact Nat.le_trans this (by show _ ≤ 1 + (1 + (1 + ((y.2.2.2.1).size + 1 + ((y.2.2.2.2.1.map sz).sum + 1 + 0)))) + 1; omega)

set_option linter.unusedVariables false
set_option linter.unusedSimpArgs false

theorem rdField {B : Bulk} {P : Program} {wfT : GType → Prop} {szT : GType → Nat} {wfF : GField → Prop} {szF : GField → Nat} (tt tf ti ts tb : TypeId) (hi : P.underlying ti = some (.int .i64)) (hs : P.underlying ts = some .string) (hb : P.underlying tb = some .bool) (hu : isStruct P tf = true)
  (hL : fieldsOf P tf = [fld P tf 0, fld P tf 1, fld P tf 2, fld P tf 3]) (hz : P.cellsOf tf = 6 ∧ P.cellsOf tt = 3 ∧ P.cellsOf ti = 1 ∧ P.cellsOf ts = 1 ∧ P.cellsOf tb = 1)
  (ht : (fld P tf 0).type = ti ∧ (fld P tf 1).type = ts ∧ (fld P tf 2).type = tb ∧ (fld P tf 3).type = tt)
  (ho : (fld P tf 0).offset = 0 ∧ (fld P tf 1).offset = 1 ∧ (fld P tf 2).offset = 2 ∧ (fld P tf 3).offset = 3)
  (hwf : ∀ i n q t, i64ok i → wfT t → wfF ⟨i, n, q, t⟩) (hsz : ∀ i n q t, szF ⟨i, n, q, t⟩ ≤ n.size + szT t + 4) {N : Nat} (ih : ∀ N', N' < N → RdB B P N' tt GType.cells wfT szT) :
  RdB B P N tf GType.fcell wfF szF := by
 obtain ⟨t0, t1, t2, t3⟩ := ht
 obtain ⟨o0, o1, o2, o3⟩ := ho
 obtain ⟨z0, z1, z2, z3, z4⟩ := hz
 refine RdB.structF (α := GField) (cells := GType.fcell) (wf' := wfF) (size := szF) hu hL (by simp [t0, t1, t2, t3, z0, z1, z2, z3, z4]) (fun N' hN' =>
  RdF.cons (c1 := fun n : Int => [PV.s (.int .i64 n)]) o0 (fun x => by rw [t0, z2]; rfl) (RdB.int (by rw [t0]; exact hi))
   (RdF.cons (c1 := fun s : ByteArray => [PV.s (.string s)]) (by rw [o1, t0, z2]) (fun x => by rw [t1, z3]; rfl) (RdB.str (by rw [t1]; exact hs))
    (RdF.cons (c1 := fun b : Bool => [PV.s (.bool b)]) (by rw [o2, t0, t1, z2, z3]) (fun x => by rw [t2, z4]; rfl) (RdB.bool (by rw [t2]; exact hb))
     (RdF.cons (c1 := GType.cells) (by rw [o3, t0, t1, t2, z2, z3, z4]) (fun x => by rw [t3, z1]; cases x; rfl) (by rw [t3]; exact ih N' hN') RdF.nil))))
  (fun y => (⟨y.1, y.2.1, y.2.2.1, y.2.2.2.1⟩ : GField)) (fun y => ?_) (fun y h => hwf _ _ _ _ h.1 h.2.2.2.1) (fun y => ?_)
 ·simp only [GType.fcell, List.append_nil]
  rfl
 ·have := hsz y.1 y.2.1 y.2.2.1 y.2.2.2.1
  exact Nat.le_trans this (by show _ ≤ 1 + ((y.2.1).size + 1 + (1 + (szT y.2.2.2.1 + 0))) + 1; omega)

theorem rdType {B : Bulk} {P : Program} {wfT : GType → Prop} {szT : GType → Nat} {wfF : GField → Prop} {szF : GField → Nat} (tt tf ti ts tb tl : TypeId) (hi : P.underlying ti = some (.int .i64)) (hs : P.underlying ts = some .string) (hb : P.underlying tb = some .bool)
  (hl : P.underlying tl = some (.slice tf)) (hu : isStruct P tf = true) (hu' : isStruct P tt = true)
  (hL : fieldsOf P tf = [fld P tf 0, fld P tf 1, fld P tf 2, fld P tf 3]) (hL' : fieldsOf P tt = [fld P tt 0, fld P tt 1, fld P tt 2]) (hz : P.cellsOf tf = 6 ∧ P.cellsOf tt = 3 ∧ P.cellsOf ti = 1 ∧ P.cellsOf ts = 1 ∧ P.cellsOf tb = 1) (hzl : P.cellsOf tl = 1)
  (ht : (fld P tf 0).type = ti ∧ (fld P tf 1).type = ts ∧ (fld P tf 2).type = tb ∧ (fld P tf 3).type = tt)
  (ho : (fld P tf 0).offset = 0 ∧ (fld P tf 1).offset = 1 ∧ (fld P tf 2).offset = 2 ∧ (fld P tf 3).offset = 3)
  (ht' : (fld P tt 0).type = ti ∧ (fld P tt 1).type = ti ∧ (fld P tt 2).type = tl)
  (ho' : (fld P tt 0).offset = 0 ∧ (fld P tt 1).offset = 1 ∧ (fld P tt 2).offset = 2)
  (hwf : ∀ i n q t, i64ok i → wfT t → wfF ⟨i, n, q, t⟩) (hsz : ∀ i n q t, szF ⟨i, n, q, t⟩ ≤ n.size + szT t + 4)
  (hwf' : ∀ k s fs, i64ok k → i64ok s → (∀ f ∈ fs, wfF f) → wfT ⟨k, s, fs⟩) (hsz' : ∀ k s fs, szT ⟨k, s, fs⟩ ≤ (fs.map szF).sum + 4) :
  ∀ N, RdB B P N tt GType.cells wfT szT := by
 intro N
 induction N using Nat.strongRecOn with
 | _ N ih =>
  have hF : ∀ N', N' ≤ N → RdB B P N' tf GType.fcell wfF szF := fun N' h => rdField tt tf ti ts tb hi hs hb hu hL hz ht ho hwf hsz (fun N'' h'' => ih N'' (by omega))
  obtain ⟨t0, t1, t2⟩ := ht'
  obtain ⟨o0, o1, o2⟩ := ho'
  obtain ⟨z0, z1, z2, z3, z4⟩ := hz
  refine RdB.structF (α := GType) (cells := GType.cells) (wf' := wfT) (size := szT) hu' hL' (by simp [t0, t1, t2, z1, z2, hzl]) (fun N' hN' =>
   RdF.cons (c1 := fun n : Int => [PV.s (.int .i64 n)]) o0 (fun x => by rw [t0, z2]; rfl) (RdB.int (by rw [t0]; exact hi))
    (RdF.cons (c1 := fun n : Int => [PV.s (.int .i64 n)]) (by rw [o1, t0, z2]) (fun x => by rw [t1, z2]; rfl) (RdB.int (by rw [t1]; exact hi))
     (RdF.cons (c1 := fun xs : List GField => [PV.ro (xs.map GType.fcell)]) (by rw [o2, t0, t1, z2]) (fun x => by rw [t2, hzl]; rfl)
      (RdB.slice (e := tf) (by rw [t2]; exact hl) (fun x => by rw [z0]; obtain ⟨_, _, _, ⟨_, _, _⟩⟩ := x; rfl) (by omega) (fun N'' hN'' => hF N'' (by omega))) RdF.nil)))
   (fun y => (⟨y.1, y.2.1, y.2.2.1⟩ : GType)) (fun y => ?_) (fun y h => hwf' _ _ _ h.1 h.2.1 h.2.2.1) (fun y => ?_)
  ·simp only [GType.cells, GType.fcells_eq]
   rfl
  ·have := hsz' y.1 y.2.1 y.2.2.1
   exact Nat.le_trans this (by show _ ≤ 1 + (1 + ((y.2.2.1.map szF).sum + 1 + 0)) + 1; omega)

theorem arg_type {w : World} {v : Value} {x : GType} (h : AVRel ⟨fun _ => none, fun _ => False⟩ w [] v (.ag ((GType.cells x).map .pv))) : AVRel ⟨fun _ => none, fun _ => False⟩ w [] v (.ag [ci x.kind, ci x.scale, cl eField x.fields]) := by
 cases x; exact h

set_option linter.unusedVariables false
set_option linter.unusedSimpArgs false

theorem rdFields {B : Bulk} {P : Program} {wfT : GType → Prop} {szT : GType → Nat} {wfF : GField → Prop} {szF : GField → Nat} {szL : List GField → Nat} (tt tf ti ts tb tl : TypeId) (hi : P.underlying ti = some (.int .i64)) (hs : P.underlying ts = some .string) (hb : P.underlying tb = some .bool)
  (hl : P.underlying tl = some (.slice tf)) (hu : isStruct P tf = true) (hu' : isStruct P tt = true)
  (hL : fieldsOf P tf = [fld P tf 0, fld P tf 1, fld P tf 2, fld P tf 3]) (hL' : fieldsOf P tt = [fld P tt 0, fld P tt 1, fld P tt 2]) (hz : P.cellsOf tf = 6 ∧ P.cellsOf tt = 3 ∧ P.cellsOf ti = 1 ∧ P.cellsOf ts = 1 ∧ P.cellsOf tb = 1) (hzl : P.cellsOf tl = 1)
  (ht : (fld P tf 0).type = ti ∧ (fld P tf 1).type = ts ∧ (fld P tf 2).type = tb ∧ (fld P tf 3).type = tt)
  (ho : (fld P tf 0).offset = 0 ∧ (fld P tf 1).offset = 1 ∧ (fld P tf 2).offset = 2 ∧ (fld P tf 3).offset = 3)
  (ht' : (fld P tt 0).type = ti ∧ (fld P tt 1).type = ti ∧ (fld P tt 2).type = tl)
  (ho' : (fld P tt 0).offset = 0 ∧ (fld P tt 1).offset = 1 ∧ (fld P tt 2).offset = 2)
  (hwf : ∀ i n q t, i64ok i → wfT t → wfF ⟨i, n, q, t⟩) (hsz : ∀ i n q t, szF ⟨i, n, q, t⟩ ≤ n.size + szT t + 4)
  (hwf' : ∀ k s fs, i64ok k → i64ok s → (∀ f ∈ fs, wfF f) → wfT ⟨k, s, fs⟩) (hsz' : ∀ k s fs, szT ⟨k, s, fs⟩ ≤ (fs.map szF).sum + 4) (hszl : ∀ xs, szL xs ≤ (xs.map szF).sum + 1) (N : Nat) :
  RdB B P N tl (fun xs : List GField => [PV.ro (eField.els xs)]) (fun xs => ∀ x ∈ xs, wfF x) szL := by
 have hT := rdType (B := B) (P := P) tt tf ti ts tb tl hi hs hb hl hu hu' hL hL' hz hzl ht ho ht' ho' hwf hsz hwf' hsz'
 have hF : ∀ N, RdB B P N tf GType.fcell wfF szF := fun N => rdField tt tf ti ts tb hi hs hb hu hL hz ht ho hwf hsz (fun N' _ => hT N')
 refine RdB.conv (RdB.slice (e := tf) (cells := GType.fcell) hl (fun x => by rw [hz.1]; obtain ⟨_, _, _, ⟨_, _, _⟩⟩ := x; rfl) (by rw [hz.1]; omega) (fun N' _ => hF N')) (fun x => ?_) (fun x h => h) hszl
 show [PV.ro (GType.fcells x)] = _
 rw [GType.fcells_eq]

set_option linter.unusedVariables false

theorem rdValues {B : Bulk} {P : Program} {wf : GValue → Prop} {sz : GValue → Nat} {szL : List GValue → Nat} (tv ti ts tl : TypeId) (hi : P.underlying ti = some (.int .i64)) (hs : P.underlying ts = some .string) (hl : P.underlying tl = some (.slice tv)) (hu : isStruct P tv = true)
  (hL : fieldsOf P tv = [fld P tv 0, fld P tv 1, fld P tv 2, fld P tv 3, fld P tv 4]) (hz : P.cellsOf tv = 5 ∧ P.cellsOf ti = 1 ∧ P.cellsOf ts = 1 ∧ P.cellsOf tl = 1)
  (ht : (fld P tv 0).type = ti ∧ (fld P tv 1).type = ti ∧ (fld P tv 2).type = ti ∧ (fld P tv 3).type = ts ∧ (fld P tv 4).type = tl)
  (ho : (fld P tv 0).offset = 0 ∧ (fld P tv 1).offset = 1 ∧ (fld P tv 2).offset = 2 ∧ (fld P tv 3).offset = 3 ∧ (fld P tv 4).offset = 4)
  (hwf : ∀ k n sc s it, i64ok k → i64ok n → i64ok sc → (∀ x ∈ it, wf x) → wf ⟨k, n, sc, s, it⟩) (hsz : ∀ k n sc s it, sz ⟨k, n, sc, s, it⟩ ≤ s.size + (it.map sz).sum + 6) (hszl : ∀ xs, szL xs ≤ (xs.map sz).sum + 1) (N : Nat) :
  RdB B P N tl (fun xs : List GValue => [PV.ro (eValue.els xs)]) (fun xs => ∀ x ∈ xs, wf x) szL := by
 have hV := rdValue (B := B) (P := P) tv ti ts tl hi hs hl hu hL hz ht ho hwf hsz
 refine RdB.conv (RdB.slice (e := tv) (cells := GValue.cells) hl (fun x => by rw [hz.1]; cases x; rfl) (by rw [hz.1]; omega) (fun N' _ => hV N')) (fun x => ?_) (fun x h => h) hszl
 show [PV.ro (GValue.lcells x)] = _
 rw [GValue.lcells_eq]

theorem sum_ones : ∀ xs : List Int, (xs.map (fun _ => (1 : Nat))).sum = xs.length
 | [] => rfl
 | x :: l => by rw [List.map_cons, List.sum_cons, sum_ones l, List.length_cons]; omega

theorem rdInts {B : Bulk} {P : Program} (tl ti : TypeId) (hl : P.underlying tl = some (.slice ti)) (hi : P.underlying ti = some (.int .i64)) (hz : P.cellsOf ti = 1) (N : Nat) :
  RdB B P N tl (fun xs : List Int => [PV.ro (eI.els xs)]) (fun xs => ∀ x ∈ xs, i64ok x) (fun xs => xs.length) := by
 refine RdB.conv (RdB.slice (e := ti) (cells := fun n : Int => [PV.s (.int .i64 n)]) hl (fun x => by rw [hz]; rfl) (by rw [hz]; omega) (fun N' _ => RdB.int hi)) (fun x => rfl) (fun x h => h) (fun xs => ?_)
 rw [sum_ones]; omega

theorem rdBytes {B : Bulk} {P : Program} (tl ti : TypeId) (hl : P.underlying tl = some (.slice ti)) (hi : P.underlying ti = some (.int .u8)) (hz : P.cellsOf ti = 1) (N : Nat) :
  RdB B P N tl (fun xs : List Int => [PV.ro ((eK .u8).els xs)]) (fun xs => ∀ x ∈ xs, IntKind.min .u8 ≤ x ∧ x ≤ IntKind.max .u8) (fun xs => xs.length) := by
 refine RdB.conv (RdB.slice (e := ti) (cells := fun n : Int => [PV.s (.int .u8 n)]) hl (fun x => by rw [hz]; rfl) (by rw [hz]; omega) (fun N' _ => RdB.int hi)) (fun x => rfl) (fun x h => h) (fun xs => ?_)
 rw [sum_ones]; omega

set_option linter.unusedVariables false

theorem rdRows {B : Bulk} {P : Program} {wf : GValue → Prop} {sz : GValue → Nat} {szL : List GValue → Nat} {szR : List (List GValue) → Nat} (tr tv ti ts tl : TypeId) (hr : P.underlying tr = some (.slice tl)) (hi : P.underlying ti = some (.int .i64)) (hs : P.underlying ts = some .string) (hl : P.underlying tl = some (.slice tv)) (hu : isStruct P tv = true)
  (hL : fieldsOf P tv = [fld P tv 0, fld P tv 1, fld P tv 2, fld P tv 3, fld P tv 4]) (hz : P.cellsOf tv = 5 ∧ P.cellsOf ti = 1 ∧ P.cellsOf ts = 1 ∧ P.cellsOf tl = 1)
  (ht : (fld P tv 0).type = ti ∧ (fld P tv 1).type = ti ∧ (fld P tv 2).type = ti ∧ (fld P tv 3).type = ts ∧ (fld P tv 4).type = tl)
  (ho : (fld P tv 0).offset = 0 ∧ (fld P tv 1).offset = 1 ∧ (fld P tv 2).offset = 2 ∧ (fld P tv 3).offset = 3 ∧ (fld P tv 4).offset = 4)
  (hwf : ∀ k n sc s it, i64ok k → i64ok n → i64ok sc → (∀ x ∈ it, wf x) → wf ⟨k, n, sc, s, it⟩) (hsz : ∀ k n sc s it, sz ⟨k, n, sc, s, it⟩ ≤ s.size + (it.map sz).sum + 6) (hszl : ∀ xs, szL xs ≤ (xs.map sz).sum + 1) (hszr : ∀ xs, szR xs ≤ (xs.map szL).sum + 1) (N : Nat) :
  RdB B P N tr (fun xs : List (List GValue) => [PV.ro ((eL eValue).els xs)]) (fun xs => ∀ r ∈ xs, ∀ x ∈ r, wf x) szR := by
 have hV := rdValues (B := B) (P := P) (szL := szL) tv ti ts tl hi hs hl hu hL hz ht ho hwf hsz hszl
 refine RdB.conv (RdB.slice (e := tl) (cells := fun r : List GValue => [PV.ro (eValue.els r)]) hr (fun x => by rw [hz.2.2.2]; rfl) (by rw [hz.2.2.2]; omega) (fun N' _ => hV N')) (fun x => ?_) (fun x h => h) hszr
 rfl

end Go.SX
