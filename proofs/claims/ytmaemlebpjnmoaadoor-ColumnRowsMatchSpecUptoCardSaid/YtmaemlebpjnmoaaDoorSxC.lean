/- SX: two numbers change places. SX: the rules of printed proofs in short form; frames are computed, not printed. The program's data as Lean's, with their cells. SX: functions whose contract is given over plain worlds; utf8.ValidString by the shelf's contract. SX: functions that the model stands in for, at any arguments; bytes.Compare. SX: the way from a given row to a contract of pure values: reading the arguments, and closing the row. SX: readings of structs by the program's own fields. SX: readings of values and types. Types out of rows. Lists of fields out of rows. Lists of values, of numbers, of bytes out of rows. Lists of lists of values out of rows. -/
import Derived.Shelf.Unicode.ValidAny
import Derived.Lib.Bytealg
import Derived.OpenShut
import Derived.JoinedCond
import Derived.WideKeyArgs
import Derived.Test.YtmaemlebpjnmoaaDoorSxB
namespace Go.SX
open Go
set_option linter.unusedVariables false
set_option linter.unusedSimpArgs false

def swp (a b : Nat) (i : Nat) : Nat := bif Nat.beq i a then b else bif Nat.beq i b then a else i

theorem Nat.beq_eq_false {i a : Nat} (h : i ≠ a) : Nat.beq i a = false := by
 cases hb : Nat.beq i a with
 | false => rfl
 | true => exact absurd (Nat.eq_of_beq_eq_true hb) h

theorem swp_a {a b : Nat} : swp a b a = b := by simp [swp]
theorem swp_b {a b : Nat} : swp a b b = a := by
 unfold swp
 cases h : Nat.beq b a with
 | true => have := Nat.eq_of_beq_eq_true h; simp [this]
 | false => simp
theorem swp_o {a b i : Nat} (h1 : i ≠ a) (h2 : i ≠ b) : swp a b i = i := by
 unfold swp
 rw [Nat.beq_eq_false h1, Nat.beq_eq_false h2]; rfl
theorem swp_swp {a b : Nat} (i : Nat) : swp a b (swp a b i) = i := by
 by_cases h1 : i = a
 ·subst h1; rw [swp_a, swp_b]
 by_cases h2 : i = b
 ·subst h2; rw [swp_b, swp_a]
 rw [swp_o h1 h2, swp_o h1 h2]
theorem swp_lt {a b n i : Nat} (ha : a < n) (hb : b < n) (hi : i < n) : swp a b i < n := by
 by_cases h1 : i = a
 ·subst h1; rw [swp_a]; exact hb
 by_cases h2 : i = b
 ·subst h2; rw [swp_b]; exact ha
 rw [swp_o h1 h2]; exact hi

def swpSt (a b : Nat) (st : St) : St := (List.range st.length).map fun i => rnB (swp a b) ((st[swp a b i]?).getD .dead)

def swpFr (a b : Nat) (fr : Fr) : Fr := fr.map fun x => (x.1, rnA (swp a b) x.2)

section
variable {n n0 : Nat} {loose : List Nat} {fr : Fr} {st : St}

theorem swpSt_len (a b : Nat) : (swpSt a b st).length = st.length := by simp [swpSt]

theorem swpSt_get {a b i : Nat} (ha : a < st.length) (hb : b < st.length) {o : Body} : (swpSt a b st)[i]? = some o ↔ ∃ o', st[swp a b i]? = some o' ∧ o = rnB (swp a b) o' := by
 unfold swpSt
 by_cases hi : i < st.length
 ·have h2 := swp_lt ha hb hi
  rw [List.getElem?_map, List.getElem?_range hi, Option.map_some, List.getElem?_eq_getElem h2, Option.getD_some]
  constructor
  ·intro h; exact ⟨_, rfl, (Option.some.inj h).symm⟩
  ·rintro ⟨o', h, rfl⟩; cases h; rfl
 ·have h2 : ¬ swp a b i < st.length := fun h => hi (by have := swp_lt ha hb h; rwa [swp_swp] at this)
  rw [List.getElem?_eq_none (by simp; omega), List.getElem?_eq_none (by omega)]
  simp

theorem swp_lk (a b : Nat) : ∀ (fr : Fr) (t : Nat), lk (swpFr a b fr) t = rnA (swp a b) (lk fr t)
 | [], _ => rfl
 | (d, av) :: fr, t => by
  simp only [swpFr, List.map_cons, lk]
  cases Nat.beq d t with
  | true => rfl
  | false => exact swp_lk a b fr t

theorem Sub.swap (a b : Nat) (fr' : Fr) (st' : St) (hlt : (Nat.ble (a + 1) st.length && Nat.ble (b + 1) st.length) = true) (hf : (fixB n0 loose a || fixB n0 loose b) = false) (hfr : swpFr a b fr = fr') (hst : swpSt a b st = st') :
  Sub n n0 loose fr st fr' st' := by
 subst hfr; subst hst
 simp only [Bool.and_eq_true] at hlt
 have ha := Nat.le_of_ble_eq_true hlt.1
 have hb := Nat.le_of_ble_eq_true hlt.2
 simp only [Bool.or_eq_false_iff] at hf
 intro ι w act hR hF
 let ι' : IM := ⟨fun i => ι (swp a b i), ι.amb⟩
 have own : ∀ x, Own ι' (swpSt a b st) x → Own ι st x := by
  rintro x ⟨i, o, h1, h2, h3⟩
  obtain ⟨o', e1, rfl⟩ := (swpSt_get ha hb).1 h1
  exact ⟨_, o', e1, rnB_alive.1 h2, h3⟩
 have hmut : ∀ x, Mut ι' (swpSt a b st) x → Mut ι st x := fun x h => h.imp id (own x)
 have hl : ∀ i, i < st.length → swp a b i < (swpSt a b st).length ∧ ι' (swp a b i) = ι i := fun i hi => ⟨by rw [swpSt_len]; exact swp_lt ha hb hi, by show ι (swp a b (swp a b i)) = ι i; rw [swp_swp]⟩
 have k : Keeps (fixP n0 loose) ι w st ι' w (swpSt a b st) :=
  ⟨rfl, rfl, rfl, Nat.le_refl _, rfl, fun x _ hm => ⟨rfl, fun hm' => hm (own x hm')⟩, fun id hfix hid => ⟨by rw [swpSt_len]; exact hid, by
   have hfix' : fixB n0 loose id = true := hfix
   show ι (swp a b id) = ι id
   rw [swp_o (by rintro rfl; rw [hf.1] at hfix'; cases hfix') (by rintro rfl; rw [hf.2] at hfix'; cases hfix')]⟩, fun x c ty fz h => ⟨c, h, rfl⟩⟩
 refine ⟨ι', ⟨fun i o hi => ?_, hR.amb, fun x hx => hR.dis x (own x hx), fun i j o o' x h1 h2 a1 a2 e1 e2 => ?_, hR.glk k⟩, ⟨hF.defers, hF.size, fun t => ?_⟩, k⟩
 ·obtain ⟨o', e1, rfl⟩ := (swpSt_get ha hb).1 hi
  have := hR.obj _ o' e1
  cases o' with
  | dead => trivial
  | box cells =>
   obtain ⟨b', vs, ty, e, hb', hl'⟩ := this
   exact ⟨b', vs, ty, e, hb', hl'.ren hmut hl⟩
  | raw ob =>
   obtain ⟨b', e, hb'⟩ := this
   exact ⟨b', e, hb'⟩
  | arr sz els =>
   rcases this with ⟨e, he⟩ | ⟨b', c, ty, e, hb', g1, g2, g3⟩
   ·exact .inl ⟨e, he⟩
   ·refine .inr ⟨b', c, ty, e, hb', g1, g2, fun i' e' j cv a1 a2 => ?_⟩
    obtain ⟨v, hv, hr⟩ := g3 i' e' j cv a1 a2
    exact ⟨v, hv, hr.mono (Nat.le_refl _) (fun b _ hb => ⟨rfl, fun h' => hb (hmut b h')⟩)⟩
 ·obtain ⟨p, p1, rfl⟩ := (swpSt_get ha hb).1 h1
  obtain ⟨q, q1, rfl⟩ := (swpSt_get ha hb).1 h2
  have := hR.inj _ _ p q x p1 q1 (rnB_alive.1 a1) (rnB_alive.1 a2) e1 e2
  rw [← swp_swp (a := a) (b := b) i, ← swp_swp (a := a) (b := b) j, this]
 ·rw [swp_lk]
  exact (hF.slot t).ren hmut hl

end
end Go.SX
namespace Go.SX
open Go
section
variable {n n0 : Nat} {loose : List Nat} {fr : Fr} {st : St}

theorem rebox1 {ι : IM} {w : World} (r : Rel ι w st) {id j : Nat} {cells : List CV} {c c' : CV} (hid : st[id]? = some (.box cells)) (hj : cells[j]? = some c)
  (h : ∀ b vs ty v, ι id = some b → w.heap[b]? = some (.cells (List.toArray vs) ty (0, 0)) → vs[j]? = some v → VRel ι w st v c') :
  Rel ι w (st.set id (.box (cells.set j c'))) ∧ Keeps all ι w st ι w (st.set id (.box (cells.set j c'))) := by
 obtain ⟨b, vs, ty, e1, e2, e3⟩ := r.obj id _ hid
 have ha : Body.alive (.box cells) := by simp [Body.alive]
 have k := keeps_set (body' := .box (cells.set j c')) hid ha e1 (Wrote.refl w b)
 refine ⟨r.set hid ha e1 (Wrote.refl w b) ⟨b, vs, ty, e1, e2, ?_⟩, k⟩
 refine LRel.mono' k ⟨by simp [e3.1], fun i v d h1 h2 => ?_⟩
 by_cases e : i = j
 ·subst e
  have hlt := (List.getElem?_eq_some_iff.1 hj).1
  rw [List.getElem?_set_self hlt] at h2
  cases h2
  exact h b vs ty v e1 e2 h1
 ·rw [List.getElem?_set_ne (Ne.symm e)] at h2
  exact e3.2 i v d h1 h2

theorem Sub.killb {α : Type} (E : Enc α) (xs : List α) {fr' : Fr} (bx j id : Nat) (cells : List CV) (len : Nat) (hn : n0 ≤ id) (hb : st[bx]? = some (.box cells)) (hj : cells[j]? = some (.sl id E.sz 0 len)) (hid : st[id]? = some (.arr E.sz (E.els xs))) (hl : len = xs.length)
  (st2 : St) (hs2 : (st ++ [Body.dead]).set bx (.box (cells.set j (.sl st.length E.sz 0 len))) = st2) (hi : stIds (fun i => !Nat.beq i id) (st2.set id .dead) = true) (hf : FAF st2 (fun i => !Nat.beq i id) fr fr')
  (st' : St) (hs' : (st2.set id .dead).set bx (.box (cells.set j (.pv (.ro (E.els xs))))) = st') : Sub n n0 loose fr st fr' st' := by
 subst hs2
 subst hs'
 intro ι w a hR hF
 obtain ⟨r1, k1⟩ := dead_add (st := st) hR (ι id)
 have hlt := (List.getElem?_eq_some_iff.1 hb).1
 have hidlt := (List.getElem?_eq_some_iff.1 hid).1
 have hjl := (List.getElem?_eq_some_iff.1 hj).1
 have hne0 : id ≠ bx := by rintro rfl; rw [hb] at hid; cases hid
 have hne : ∀ v, VRel (ι.add st.length (ι id)) w (st ++ [.dead]) v (.sl id E.sz 0 len) → VRel (ι.add st.length (ι id)) w (st ++ [.dead]) v (.sl st.length E.sz 0 len) := by
  intro v hv
  have hnew : (ι.add st.length (ι id)) st.length = ι id := by simp [IM.add]
  have hold : ∀ b, (ι.add st.length (ι id)) id = b → ι id = b := by
   intro b h
   by_cases e : id = st.length
   ·simp [IM.add, e] at h; rw [e]; exact h
   ·simpa [IM.add, e] using h
  cases hv with
  | sl _ _ _ _ b cap hid hb hcap hc => exact .sl st.length E.sz 0 len b cap (by simp) (hnew.trans (hold _ hb)) hcap hc
  | sn _ _ hid hb => exact .sn st.length E.sz (by simp) (hnew.trans (hold _ hb))
 obtain ⟨r2, k2⟩ := rebox r1 (id := bx) (j := j) (cells := cells) (by rw [List.getElem?_append_left hlt]; exact hb) hj hne
 have k := k1.trans k2
 obtain ⟨b0, vs0, ty0, q1, q2, q3⟩ := hR.obj bx _ hb
 generalize hst2 : (st ++ [Body.dead]).set bx (.box (cells.set j (.sl st.length E.sz 0 len))) = st2 at *
 generalize hι : ι.add st.length (ι id) = ι1 at *
 have hs : SubSt (fun i => !Nat.beq i id) st2 (st2.set id .dead) := by
  refine ⟨fun i o h => ?_, fun i hq hi => by simpa using hi⟩
  rw [List.getElem?_set] at h
  split at h
  ·split at h
   ·cases h; exact .inl rfl
   ·cases h
  ·rename_i hne
   refine .inr ⟨?_, h⟩
   cases hb : Nat.beq i id with
   | false => rfl
   | true => exact absurd (Nat.eq_of_beq_eq_true hb).symm hne
 obtain ⟨r3, k3⟩ := r2.shrink hs hi
 have hid2 : st2[id]? = some (.arr E.sz (E.els xs)) := by
  rw [← hst2, List.getElem?_set_ne (Ne.symm hne0), List.getElem?_append_left hidlt]; exact hid
 have hbx2 : st2[bx]? = some (.box (cells.set j (.sl st.length E.sz 0 len))) := by
  rw [← hst2]; exact List.getElem?_set_self (by simp; omega)
 have hbx3 : (st2.set id .dead)[bx]? = some (.box (cells.set j (.sl st.length E.sz 0 len))) := by
  rw [List.getElem?_set_ne hne0]; exact hbx2
 have hι0 : ι1 bx = ι bx := (k.map bx trivial hlt).2
 obtain ⟨r4, k4⟩ := rebox1 r3 (id := bx) (j := j) (c := .sl st.length E.sz 0 len) (c' := .pv (.ro (E.els xs))) hbx3 (List.getElem?_set_self hjl) (fun b vs ty v e1 e2 e3 => by
  rw [hι0, q1] at e1; cases e1
  rw [q2] at e2
  have evs : vs0 = vs := by
   have := congrArg (fun o : Option Obj => match o with | some (.cells c _ _) => c.toList | _ => []) e2
   simpa using this
  subst evs
  have hv : VRel ι w st v (.sl id E.sz 0 len) := q3.2 j v _ e3 hj
  have hv2 : AVRel ι1 w st2 v (.one (.sl id E.sz 0 len)) := .one _ _ (hv.mono' k)
  exact cv_of (hv2.fz r2 hs hi (.one (cf_sl E xs hid2 (by simp) hl))))
 rw [List.set_set] at r4 k4
 refine ⟨ι1, r4, ⟨hF.defers, hF.size, fun t => ?_⟩, ?_⟩
 ·exact (((hF.mono' k).slot t).fz r2 hs hi (hf.get t)).mono' k4
 ·refine (k.weaken (fun _ _ => trivial)).trans ((k3.weaken (fun i h => ?_)).trans (k4.weaken (fun _ _ => trivial)))
  have h1 : fixB n0 loose i = true := h
  simp only [fixB, Bool.and_eq_true] at h1
  have := Nat.le_of_ble_eq_true h1.1
  have hne : ¬ i = id := by omega
  show (!Nat.beq i id) = true
  cases hb : Nat.beq i id with
  | false => rfl
  | true => exact absurd (Nat.eq_of_beq_eq_true hb) hne

end
end Go.SX
namespace Go.SX
open Go
section
variable {n n0 : Nat} {loose : List Nat} {fr : Fr} {st : St}

def maskSt (L : List Nat) : Nat → St → St
 | _, [] => []
 | i, b :: l => (bif inL L i then b else .dead) :: maskSt L (i + 1) l

theorem maskSt_get (L : List Nat) : ∀ (l : St) (i j : Nat), (maskSt L i l)[j]? = (l[j]?).map fun b => bif inL L (i + j) then b else .dead
 | [], _, _ => by simp [maskSt]
 | b :: l, i, 0 => by simp [maskSt]
 | b :: l, i, j + 1 => by simp only [maskSt, List.getElem?_cons_succ]; rw [maskSt_get L l (i + 1) j, show i + 1 + j = i + (j + 1) by omega]

theorem Sub.only {fr' : Fr} {st' : St} (L : List Nat) (m : Nat) (hL : ((List.range n0).all (inL L) && L.all (fun x => Nat.ble (x + 1) m)) = true) (hf : keepF (inL L) fr = fr') (hst : maskSt L 0 (st.take m) = st') (hi : stIds (inL L) st' = true) :
  Sub n n0 loose fr st fr' st' := by
 subst hf
 subst hst
 simp only [Bool.and_eq_true, List.all_eq_true] at hL
 intro ι w a hR hF
 have hs : SubSt (inL L) st (maskSt L 0 (st.take m)) := by
  refine ⟨fun id o h => ?_, fun id hq hid => ?_⟩
  ·rw [maskSt_get, Option.map_eq_some_iff] at h
   obtain ⟨b, h1, rfl⟩ := h
   rw [Nat.zero_add]
   cases hq : inL L id with
   | false => exact .inl rfl
   | true =>
    rw [List.getElem?_take] at h1
    split at h1
    ·exact .inr ⟨rfl, h1⟩
    ·cases h1
  ·have h1 := Nat.le_of_ble_eq_true (hL.2 id (inL_iff.1 hq))
   have h2 : (maskSt L 0 (st.take m))[id]? ≠ none := by
    rw [maskSt_get, List.getElem?_take, if_pos (show id < m from h1), List.getElem?_eq_getElem hid]; simp
   exact Nat.lt_of_not_le fun h => h2 (List.getElem?_eq_none h)
 obtain ⟨r1, k1⟩ := hR.shrink hs hi
 refine ⟨ι, r1, hF.keep k1 (q := inL L) (fun _ h _ => h), k1.weaken (fun id h => ?_)⟩
 have h1 : fixB n0 loose id = true := h
 simp only [fixB, Bool.and_eq_true] at h1
 exact hL.1 id (List.mem_range.2 (Nat.le_of_ble_eq_true h1.1))

end
end Go.SX
namespace Go.SX
open Go
set_option linter.unusedVariables false
section
variable {P : Program} {n n0 : Nat} {loose : List Nat} {Q : QT} {fr : Fr} {st : St} {c : Code} {ops : Array Oper} {fn : Func} {p : List Nat}

def condX : Code → Operand
 | .cond x _ _ => x
 | _ => .const (.bool false)

theorem zq (h : ∀ K : Fr → St → Prop, (∀ f s, XW P n n0 loose (cd fn (p ++ [1])) Q f s → K f s) → XW P n n0 loose (cd fn (p ++ [0])) (thenQ K Q) fr st)
 (he : cd fn p = .seq (cd fn (p ++ [0])) (cd fn (p ++ [1])) := by kernel_rfl) : XW P n n0 loose (cd fn p) Q fr st := XW.seq he h

theorem zc (t : Bool) (ht : t = true → XW P n n0 loose (cd fn (p ++ [0])) Q fr st) (hf : t = false → XW P n n0 loose (cd fn (p ++ [1])) Q fr st)
  (he : cd fn p = .cond (condX (cd fn p)) (cd fn (p ++ [0])) (cd fn (p ++ [1])) := by kernel_rfl) (hx : rv fr (condX (cd fn p)) = .one (.pv (.s (.bool t))) := by kernel_rfl) : XW P n n0 loose (cd fn p) Q fr st :=
 XW.cond he hx ht hf

theorem zb (id : Nat) (h : XW P n n0 loose (cd fn (p ++ [0])) (blockQ id Q) fr st) (he : cd fn p = .block id (cd fn (p ++ [0])) := by kernel_rfl) : XW P n n0 loose (cd fn p) Q fr st := XW.block he h

theorem zs (h : Q .normal fr st) (he : c = .skip := by kernel_rfl) : XW P n n0 loose c Q fr st := XW.skip he h
theorem ze (h : Q .ret fr st) (he : c = .ret := by kernel_rfl) : XW P n n0 loose c Q fr st := XW.ret he h
theorem zx (id : Nat) (h : Q (.exit id) fr st) (he : c = .exit id := by kernel_rfl) : XW P n n0 loose c Q fr st := XW.exit he h
theorem zr (h : XO P n n0 loose (regOps c) (regOps c).toList Q fr st) (he : regKind c = some false := by kernel_rfl) : XW P n n0 loose c Q fr st := XW.reg he h
theorem zd {l : List Oper} (h : Q .normal fr st) (he : l = [] := by kernel_rfl) : XO P n n0 loose ops l Q fr st := XO.done he h

def chkP (o : Option (Exit × Fr × St × List Prop)) : Option (List Prop) := match o with
 | some (.normal, _, _, ob) => some ob
 | _ => none
def rF (o : Option (Exit × Fr × St × List Prop)) : Fr := match o with
 | some (_, f, _, _) => f
 | none => []
def rS (o : Option (Exit × Fr × St × List Prop)) : St := match o with
 | some (_, _, s, _) => s
 | none => []

theorem zo {l : List Oper} (an : List Nat) (k : Nat) (ts : List Nat) (hs : HS) (ob : List Prop) (hob : AllP ob)
  (hk : XO P n n0 loose ops (l.drop k) Q (rF (runP ts (evOps P n n0 loose an ops (l.take k) fr st hs))) (rS (runP ts (evOps P n n0 loose an ops (l.take k) fr st hs))))
  (h : chkP (runP ts (evOps P n n0 loose an ops (l.take k) fr st hs)) = some ob := by kernel_rfl) : XO P n n0 loose ops l Q fr st := by
 generalize hr : runP ts (evOps P n n0 loose an ops (l.take k) fr st hs) = r at *
 match r, h with
 | some (.normal, f, s, ob'), h =>
  obtain rfl := Option.some.inj h
  exact XO.go an k ts hs f s ob' hr hob hk

theorem zg {l : List Oper} (an : List Nat) (k : Nat) (ts : List Nat)
 (hk : XO P n n0 loose ops (l.drop k) Q (rF (runP ts (evOps P n n0 loose an ops (l.take k) fr st []))) (rS (runP ts (evOps P n n0 loose an ops (l.take k) fr st []))))
 (h : chkP (runP ts (evOps P n n0 loose an ops (l.take k) fr st [])) = some [] := by kernel_rfl) : XO P n n0 loose ops l Q fr st := zo an k ts [] [] trivial hk h

theorem zp {l : List Oper} (an : List Nat) (k : Nat) (ts : List Nat) (hs : HS) (fr' : Fr) (st' : St) (ob : List Prop) (hob : AllP ob)
 (hk : XO P n n0 loose ops (l.drop k) Q fr' st') (h : runP ts (evOps P n n0 loose an ops (l.take k) fr st hs) = some (.normal, fr', st', ob) := by kernel_rfl) : XO P n n0 loose ops l Q fr st := XO.go an k ts hs fr' st' ob h hob hk

theorem zt {l : List Oper} (t : Nat) {B b : Bool} (hB : B = b) (h : XO P n n0 loose ops l Q ((t, vb b) :: fr) st) (hl : lk fr t = vb B := by kernel_rfl) : XO P n n0 loose ops l Q fr st := XO.setb t b hl hB h

def pF (o : Option Fr) : Fr := o.getD []

theorem za {l : List Oper} {g : Nat} {avs : List AV} {r : AV} (h : PC P g avs r) (hk : XO P n n0 loose ops (l.drop 1) Q (pF (putHd n l r fr)) st) (hc : callHd P n ops l fr = some (g, avs) := by kernel_rfl) (hp : pureAs avs = true := by kernel_rfl) (hr : pureA r = true := by kernel_rfl)
  (hput : (putHd n l r fr).isSome = true := by kernel_rfl) : XO P n n0 loose ops l Q fr st := by
 obtain ⟨f, hf⟩ := Option.isSome_iff_exists.1 hput
 rw [hf] at hk
 exact XO.callp hc h hp hr hf hk

theorem zya {l : List Oper} {fr2 : Fr} {g : Nat} {avs : List AV} {r : AV} (h : PC P g avs r) (hk : DX P n st ops (l.drop 1) (putHdD l r fr) fr2) (hc : callHdD P n ops l fr = some (g, avs) := by kernel_rfl) (hp : pureAs avs = true := by kernel_rfl) (hr : pureA r = true := by kernel_rfl) : DX P n st ops l fr fr2 :=
 DX.callp hc h hp hr rfl hk

def dF (o : Option (Fr × List Prop)) : Fr := match o with
 | some (f, _) => f
 | none => []
def dO (o : Option (Fr × List Prop)) : Option (List Prop) := o.map (·.2)

theorem zyo {l : List Oper} {fr2 : Fr} (k : Nat) (hs : HS) (ob : List Prop) (hob : AllP ob) (hk : DX P n st ops (l.drop k) (dF (runD (evDs P n st ops (l.take k) fr hs))) fr2)
  (h : dO (runD (evDs P n st ops (l.take k) fr hs)) = some ob := by kernel_rfl) : DX P n st ops l fr fr2 := by
 generalize hr : runD (evDs P n st ops (l.take k) fr hs) = r at *
 match r, h with
 | some (f, ob'), h =>
  obtain rfl := Option.some.inj h
  exact DX.go k hs f ob' hr hob hk

theorem zyg {l : List Oper} {fr2 : Fr} (k : Nat) (hk : DX P n st ops (l.drop k) (dF (runD (evDs P n st ops (l.take k) fr []))) fr2)
 (h : dO (runD (evDs P n st ops (l.take k) fr [])) = some [] := by kernel_rfl) : DX P n st ops l fr fr2 := zyo k [] [] trivial hk h

theorem zyd {l : List Oper} {fr2 : Fr} (he : l = [] := by kernel_rfl) (hf : fr = fr2 := by kernel_rfl) : DX P n st ops l fr fr2 := by subst hf; exact DX.done he

theorem zw (m : Nat) (fr' : Fr) (hs : DX P n st (regOps c) ((regOps c).toList.take m) fr fr') (hk : XO P n n0 loose (regOps c) ((regOps c).toList.drop m) Q fr' st) (he : regKind c = some true := by kernel_rfl)
 (hm : ((drawOk (regOps c) && sufOk (regOps c) m) && P.follows .mixedOrders) = true := by kernel_rfl) : XW P n n0 loose c Q fr st := XW.drwS m fr' he hm hs hk

theorem zf {r : AV} {e : Exit} (avs : List AV) (ha : AF st (fun _ => false) (resAV avs) r) (h : resAll P fr st fn.results.toList [] = some (avs, []) := by kernel_rfl) (he : e = .normal ∨ e = .ret := by first | exact .inr rfl | exact .inl rfl) : FinP P fn r e fr st :=
 FinP.fin he [] avs [] h trivial ha

theorem zk {fr' : Fr} (ts : List Nat) (h : pickF ts fr = fr' := by kernel_rfl) : Sub n n0 loose fr st fr' st := Sub.pick ts h

def lob : HS → List Prop
 | [] => []
 | x :: l => (([x] : List (List PV))[0]? = some x) :: lob l
theorem lob_ok : ∀ hs : HS, AllP (lob hs)
 | [] => trivial
 | x :: l => ⟨rfl, lob_ok l⟩

theorem zu {l : List Oper} (an : List Nat) (k : Nat) (ts : List Nat) (hs : HS)
 (hk : XO P n n0 loose ops (l.drop k) Q (rF (runP ts (evOps P n n0 loose an ops (l.take k) fr st hs))) (rS (runP ts (evOps P n n0 loose an ops (l.take k) fr st hs))))
 (h : chkP (runP ts (evOps P n n0 loose an ops (l.take k) fr st hs)) = some (lob hs) := by kernel_rfl) : XO P n n0 loose ops l Q fr st := zo an k ts hs _ (lob_ok hs) hk h

theorem zv {l : List Oper} (an : List Nat) (k : Nat) (ts : List Nat) (hs : HS) (fr' : Fr) (st' : St)
 (hk : XO P n n0 loose ops (l.drop k) Q fr' st') (h : runP ts (evOps P n n0 loose an ops (l.take k) fr st hs) = some (.normal, fr', st', lob hs) := by kernel_rfl) : XO P n n0 loose ops l Q fr st := XO.go an k ts hs fr' st' _ h (lob_ok hs) hk

theorem zyu {l : List Oper} {fr2 : Fr} (k : Nat) (hs : HS) (hk : DX P n st ops (l.drop k) (dF (runD (evDs P n st ops (l.take k) fr hs))) fr2)
 (h : dO (runD (evDs P n st ops (l.take k) fr hs)) = some (lob hs) := by kernel_rfl) : DX P n st ops l fr fr2 := zyo k hs _ (lob_ok hs) hk h

theorem zyv {l : List Oper} {fr2 : Fr} (k : Nat) (hs : HS) (fr' : Fr) (hk : DX P n st ops (l.drop k) fr' fr2) (h : runD (evDs P n st ops (l.take k) fr hs) = some (fr', lob hs) := by kernel_rfl) : DX P n st ops l fr fr2 := DX.go k hs fr' _ h (lob_ok hs) hk
theorem zyp {l : List Oper} {fr2 : Fr} (k : Nat) (hs : HS) (fr' : Fr) (ob : List Prop) (hob : AllP ob) (hk : DX P n st ops (l.drop k) fr' fr2) (h : runD (evDs P n st ops (l.take k) fr hs) = some (fr', ob) := by kernel_rfl) : DX P n st ops l fr fr2 := DX.go k hs fr' ob h hob hk

theorem zW {β : Type} {b : Bool} {x y : Option β} {r : β} (h : ift b x y = some r) : (b = true ∧ x = some r) ∨ (b = false ∧ y = some r) := by
 cases b
 ·exact .inr ⟨rfl, h⟩
 ·exact .inl ⟨rfl, h⟩

theorem zC {β : Type} {t : Bool} {x y : Option β} {r : β} (hh : ift t x y = some r) (ht : t = true → x = some r → XW P n n0 loose (cd fn (p ++ [0])) Q fr st) (hf : t = false → y = some r → XW P n n0 loose (cd fn (p ++ [1])) Q fr st)
  (he : cd fn p = .cond (condX (cd fn p)) (cd fn (p ++ [0])) (cd fn (p ++ [1])) := by kernel_rfl) (hx : rv fr (condX (cd fn p)) = .one (.pv (.s (.bool t))) := by kernel_rfl) : XW P n n0 loose (cd fn p) Q fr st :=
 XW.cond he hx (fun q => ht q (by subst q; exact hh)) (fun q => hf q (by subst q; exact hh))

theorem zB {α β : Type} {o : Option α} {f : α → Option β} {r : β} (h : bnd o f = some r) : ∃ a, o = some a ∧ f a = some r := bnd_some h
theorem zG {β : Type} {q : Prop} [Decidable q] {x : Option β} {r : β} (h : grd q x = some r) : q ∧ x = some r := grd_some h

theorem zF {f : Nat} {args : List AV} {r : AV} (n : Nat) (fn : Func) (h : XW P n 0 [] (cd fn []) (FinP P fn r) (argsFr args 0) []) (hf : P.funcs[f]? = some fn := by kernel_rfl) (hb : fn.body = some (cd fn []) := by kernel_rfl) (hn : fn.ntmps = n := by kernel_rfl)
 (hl : Nat.ble args.length n = true := by rfl) : PC P f args r := PC.of hf hb hn (Nat.le_of_ble_eq_true hl) h

theorem zl {l : List Oper} (g : Nat) (avs : List AV) (r : AV) (fr1 : Fr) (h : PC P g avs r) (hk : XO P n n0 loose ops (l.drop 1) Q fr1 st) (hc : callHd P n ops l fr = some (g, avs) := by kernel_rfl) (hp : pureAs avs = true := by rfl) (hr : pureA r = true := by rfl)
 (hput : putHd n l r fr = some fr1 := by kernel_rfl) : XO P n n0 loose ops l Q fr st := XO.callp hc h hp hr hput hk

theorem zgv {X : List Nat} {l : List Oper} {tw : List (List Nat × List Nat)} {fr2 : Fr} {st2 : St} (k : Nat) (hs : HS) (fr' : Fr) (hk : GX P n ops X (l.drop k) (tw.drop k) fr' st fr2 st2) (h : runQ (evQs P n ops X st k l fr hs) = some (fr', tw.take k, lob hs) := by kernel_rfl) : GX P n ops X l tw fr st fr2 st2 :=
 GY.go k hs fr' _ h (lob_ok hs) hk

theorem Enc.ne {α : Type} (E : Enc α) {xs : List α} (h : xs ≠ []) : E.els xs ≠ [] := by
 rw [E.hels]
 intro e
 exact h (List.map_eq_nil_iff.1 e)

end
abbrev vq (n : Nat) : AV := .one (.pt n 0 0 0)
abbrev vR (x : List PV) : AV := .one (.pv (.rp [x] 0 0))
theorem zj {α : Type} {a b : α} (h : some a = some b) : a = b := Option.some.inj h

end Go.SX
namespace Go.SX
open Go

structure GChecker where
 leaves : Int
 deriving DecidableEq

structure RWide where
 below : Bool
 d : List Int
 deriving DecidableEq

structure FieldP (α : Type) where
 id : Int
 name : ByteArray
 need : Bool
 type : α

structure GType where
 kind : Int
 scale : Int
 fields : List (FieldP GType)

abbrev GField := FieldP GType

structure GLeaf where
 path : List Int
 type : GType
 df : Int
 rep : Int

structure GPath where
 leaf : GLeaf
 fields : List GField
 pos : List Int

structure GValue where
 kind : Int
 n : Int
 scale : Int
 s : ByteArray
 items : List GValue

structure GColumn where
 reps : List Int
 defs : List Int
 values : List GValue

structure GShredder where
 p : GPath
 c : GColumn

mutual
def GType.cells : GType → List PV
 | ⟨k, s, fs⟩ => [pi k, pi s, .ro (GType.fcells fs)]
def GType.fcells : List (FieldP GType) → List (List PV)
 | [] => []
 | f :: l => GType.fcell f :: GType.fcells l
def GType.fcell : FieldP GType → List PV
 | ⟨i, n, q, t⟩ => pi i :: .s (.string n) :: .s (.bool q) :: GType.cells t
end

mutual
def GValue.cells : GValue → List PV
 | ⟨k, n, sc, s, it⟩ => [pi k, pi n, pi sc, .s (.string s), .ro (GValue.lcells it)]
def GValue.lcells : List GValue → List (List PV)
 | [] => []
 | v :: l => GValue.cells v :: GValue.lcells l
end

theorem GType.fcells_eq : ∀ l : List (FieldP GType), GType.fcells l = l.map GType.fcell
 | [] => rfl
 | f :: l => by rw [GType.fcells, GType.fcells_eq l]; rfl

theorem GValue.lcells_eq : ∀ l : List GValue, GValue.lcells l = l.map GValue.cells
 | [] => rfl
 | f :: l => by rw [GValue.lcells, GValue.lcells_eq l]; rfl

def eField : Enc GField := ⟨6, GType.fcell, GType.fcells, GType.fcells_eq, fun ⟨_, _, _, ⟨_, _, _⟩⟩ => rfl⟩
def eValue : Enc GValue := ⟨5, GValue.cells, GValue.lcells, GValue.lcells_eq, fun ⟨_, _, _, _, _⟩ => rfl⟩
abbrev leafC (x : GLeaf) : List PV := [.ro (eI.els x.path), pi x.type.kind, pi x.type.scale, .ro (eField.els x.type.fields), pi x.df, pi x.rep]
abbrev colC (x : GColumn) : List PV := [.ro (eI.els x.reps), .ro (eI.els x.defs), .ro (eValue.els x.values)]
abbrev pathC (x : GPath) : List PV := [.ro (eI.els x.leaf.path), pi x.leaf.type.kind, pi x.leaf.type.scale, .ro (eField.els x.leaf.type.fields), pi x.leaf.df, pi x.leaf.rep, .ro (eField.els x.fields), .ro (eI.els x.pos)]
def eLeaf : Enc GLeaf := .of 6 leafC (fun _ => rfl)
def ePath : Enc GPath := .of 8 pathC (fun _ => rfl)
def eColumn : Enc GColumn := .of 3 colC (fun _ => rfl)
end Go.SX
namespace Go.SX
open Go Go.Shelf Go.Lib Go.Proofs Go.RowKit
set_option linter.unusedVariables false

theorem scalars_eq {ι : IM} {w : World} {st : St} : ∀ {us vs : List Value}, vs.length = us.length → (∀ (j : Nat) v a, vs[j]? = some v → (us.map fun u => AV.one (.pv (.s u)))[j]? = some a → AVRel ι w st v a) → vs = us
 | [], [], _, _ => rfl
 | [], _ :: _, h, _ => by simp at h
 | _ :: _, [], h, _ => by simp at h
 | u :: us, v :: vs, h, hA => by
  have h0 := scalar_of (hA 0 v _ rfl rfl)
  subst h0
  rw [scalars_eq (us := us) (vs := vs) (by simpa using h) (fun j x a h1 h2 => hA (j + 1) x a (by simpa using h1) (by simpa using h2))]

theorem PC.below {P : Program} {f : Nat} {us : List Value} {v : Value} (hv : plain v = true)
  (h : ∀ w : World, (∀ (b : Nat) (l : List Value), glob b = some l → ∀ (i : Nat) x, l[i]? = some x → w.cell? ⟨b, i, none⟩ = some x) → Calls P f us.toArray w fun e w' => e = .returned v ∧ Below w.heap.size w w') :
  PC P f (us.map fun u => .one (.pv (.s u))) (.one (.pv (.s v))) := by
 intro ι w vs hR hA
 obtain rfl := scalars_eq (by simpa using hA.1) hA.2
 refine (h w (fun b l hb => (hR.gl b l hb).2.2)).mono ?_
 rintro e w' ⟨rfl, hb⟩
 have hx : Ext w w' := ⟨hb.os, hb.tape, hb.output, hb.size, fun b hlt => hb.block b hlt⟩
 exact ⟨v, _, [], ι, rfl, ⟨rfl, rfl⟩, hR.ext hx, .one _ _ (.pv _ _ (.s _ hv)), (hx.keeps ι []).weaken (fun _ _ => trivial)⟩

theorem tabs_of {g3 g4 : Nat} {w : World} (h3 : ∀ (i : Nat) x, firstL[i]? = some x → w.cell? ⟨g3, i, none⟩ = some x) (h4 : ∀ (i : Nat) x, accL[i]? = some x → w.cell? ⟨g4, i, none⟩ = some x) : Utf8Tabs g3 g4 w := by
 refine ⟨fun c hc => h3 c _ ?_, fun i hi => ⟨h4 _ _ ?_, h4 _ _ ?_⟩⟩
 ·simp [firstL, hc]
 ·simp [accL, show 2 * i < 32 by omega]
 ·simp [accL, show 2 * i + 1 < 32 by omega, show (2 * i + 1) / 2 = i by omega]

theorem of_tabs {g3 g4 : Nat} {w : World} (h : Utf8Tabs g3 g4 w) : (∀ (i : Nat) x, firstL[i]? = some x → w.cell? ⟨g3, i, none⟩ = some x) ∧ (∀ (i : Nat) x, accL[i]? = some x → w.cell? ⟨g4, i, none⟩ = some x) := by
 refine ⟨fun i x hx => ?_, fun i x hx => ?_⟩
 ·by_cases hi : i < 256
  ·simp [firstL, hi] at hx; subst hx; exact h.1 i hi
  ·simp [firstL, hi] at hx
 ·by_cases hi : i < 32
  ·simp only [accL, List.getElem?_map, List.getElem?_range hi, Option.map_some, Option.some.injEq] at hx
   by_cases e : i % 2 = 0
   ·rw [if_pos e] at hx
    have := (h.2 (i / 2) (by omega)).1
    rw [show 2 * (i / 2) = i by omega, hx] at this
    exact this
   ·rw [if_neg e] at hx
    have := (h.2 (i / 2) (by omega)).2
    rw [show 2 * (i / 2) + 1 = i by omega, hx] at this
    exact this
  ·simp [accL, hi] at hx

theorem pc_validString {P : Program} {ρ : Ren} (L : Lays.n196 P ρ) (h3 : glob (ρ.g 3) = some firstL) (h4 : glob (ρ.g 4) = some accL) (s : ByteArray) (hs : s.size ≤ 9223372036854775807) :
  PC P (ρ.f 196) [.one (.pv (.s (.string s)))] (.one (.pv (.s (.bool (validD s.data.toList))))) :=
 PC.below (us := [.string s]) rfl fun w hw => Go.Proofs.Any.utf8_ValidString L s w hs (tabs_of (hw _ _ h3) (hw _ _ h4))

end Go.SX
namespace Go.SX
open Go
set_option linter.unusedVariables false
set_option linter.unusedSimpArgs false

section
variable {P : Program} {n n0 : Nat} {loose : List Nat} {Q : QT} {fr : Fr} {st : St} {ops : Array Oper}

end

/-! ### bytes -/

end Go.SX
namespace Go.SX
open Go
set_option linter.unusedVariables false
set_option linter.unusedSimpArgs false
set_option linter.unnecessarySimpa false

structure Bulk where
 f : {H : Type} → DataW H → Nat
 one : ∀ {H : Type} (d : DataW H), 1 ≤ f d
 str : ∀ {H : Type} (b : List UInt8), b.length + 1 ≤ f (DataW.lit (H := H) (.string b))
 sl : ∀ {H : Type} (e s : List (DataW H)), (e.map f).sum + 1 ≤ f (.slice e s)
 ag : ∀ {H : Type} (ps : List (DataW H)), (ps.map f).sum + 1 ≤ f (.agg ps)

abbrev noMut : Nat → Prop := fun _ => False

def RdOk (w : World) (cs : List Value) (ps : List PV) : Prop :=
 cs.length = ps.length ∧ ∀ (j : Nat) v p, cs[j]? = some v → ps[j]? = some p → PRel noMut w v p

theorem RdOk.one {w : World} {v : Value} {p : PV} (h : PRel noMut w v p) : RdOk w [v] [p] := by
 refine ⟨rfl, fun j v' p' h1 h2 => ?_⟩
 cases j with
 | zero => simp at h1 h2; subst h1; subst h2; exact h
 | succ j => simp at h1

theorem RdOk.nil {w : World} : RdOk w [] [] := ⟨rfl, fun j v p h => by simp at h⟩

theorem RdOk.app {w : World} {cs : List Value} {p q : List PV} {n : Nat} (h : RdOk w (cs.take n) p) (k : RdOk w (cs.drop n) q) (hn : p.length = n) : RdOk w cs (p ++ q) := by
 have e : cs = cs.take n ++ cs.drop n := (List.take_append_drop n cs).symm
 refine ⟨?_, fun j v x h1 h2 => ?_⟩
 ·have h1 := h.1; have h2 := k.1
  rw [List.length_append, ← h1, ← h2, ← List.length_append, ← e]
 ·by_cases hj : j < n
  ·rw [List.getElem?_append_left (by omega)] at h2
   refine h.2 j v x ?_ h2
   rw [List.getElem?_take, if_pos hj]; exact h1
  ·rw [List.getElem?_append_right (by omega)] at h2
   refine k.2 (j - n) v x ?_ (by rw [← hn]; exact h2)
   rw [List.getElem?_drop, show n + (j - n) = j by omega]; exact h1

section
variable (B : Bulk) (P : Program)

def RdB (N : Nat) (t : TypeId) {α : Type} (cells : α → List PV) (wf : α → Prop) (size : α → Nat) : Prop :=
 ∀ ⦃H : Type⦄ ⦃enc : TypeId × Value → H⦄ ⦃w : World⦄ ⦃base : Nat⦄ ⦃spare : Nat → Bool⦄ ⦃held : Bool⦄ ⦃fuel : Nat⦄ ⦃cs : List Value⦄ ⦃d : DataW H⦄ ⦃ps : List MemPlace⦄,
  DataW.trod enc P w base spare held fuel t cs = some (d, ps) → B.f d ≤ N → ∃ x, RdOk w cs (cells x) ∧ wf x ∧ size x ≤ B.f d

variable {B P}

theorem RdB.int {N : Nat} {t : TypeId} {k : IntKind} (ht : P.underlying t = some (.int k)) : RdB B P N t (fun n : Int => [.s (.int k n)]) (fun n => k.min ≤ n ∧ n ≤ k.max) (fun _ => 1) := by
 intro H enc w base spare held fuel cs d ps h hN
 obtain ⟨n, rfl, hx, hw⟩ := DataW.trod_int ht h
 refine ⟨n, .one (.s _ rfl), ?_, B.one d⟩
 simpa [Lit.wf] using hw

theorem RdB.bool {N : Nat} {t : TypeId} (ht : P.underlying t = some .bool) : RdB B P N t (fun b : Bool => [.s (.bool b)]) (fun _ => True) (fun _ => 1) := by
 intro H enc w base spare held fuel cs d ps h hN
 obtain ⟨b, rfl, hx⟩ := DataW.trod_bool ht h
 exact ⟨b, .one (.s _ rfl), trivial, B.one d⟩

theorem RdB.str {N : Nat} {t : TypeId} (ht : P.underlying t = some .string) : RdB B P N t (fun s : ByteArray => [.s (.string s)]) (fun _ => True) (fun s => s.size + 1) := by
 intro H enc w base spare held fuel cs d ps h hN
 obtain ⟨s, rfl, hx, hs⟩ := DataW.trod_string ht h
 simp only [Prod.mk.injEq] at hx
 obtain ⟨rfl, rfl⟩ := hx
 refine ⟨s, .one (.s _ rfl), trivial, ?_⟩
 have := B.str (H := H) s.data.toList
 simpa using this

theorem cell_lt {w : World} {a : Addr} {v : Value} (h : w.cell? a = some v) : a.block < w.heap.size := by
 unfold World.cell? at h
 split at h
 ·rename_i h1; exact (Array.getElem?_eq_some_iff.1 h1).1
 ·cases h

theorem sum_ge {α : Type} {f : α → Nat} {l : List α} {x : α} (h : x ∈ l) : f x ≤ (l.map f).sum := by
 induction l with
 | nil => cases h
 | cons y l ih =>
  simp only [List.map_cons, List.sum_cons]
  rcases List.mem_cons.1 h with rfl | h
  ·omega
  ·have := ih h; omega

theorem choose_list {α β : Type} {q : Nat → α → β → Prop} : ∀ {l : List α} , (∀ (i : Nat) a, l[i]? = some a → ∃ b, q i a b) → ∃ bs : List β, bs.length = l.length ∧ ∀ (i : Nat) a b, l[i]? = some a → bs[i]? = some b → q i a b := by
 intro l
 induction l generalizing q with
 | nil => intro _; exact ⟨[], rfl, fun i a b h => by simp at h⟩
 | cons x l ih =>
  intro h
  obtain ⟨b0, h0⟩ := h 0 x rfl
  obtain ⟨bs, hl, hb⟩ := ih (q := fun i => q (i + 1)) (fun i a hi => h (i + 1) a (by simpa using hi))
  refine ⟨b0 :: bs, by simp [hl], fun i a b h1 h2 => ?_⟩
  cases i with
  | zero => simp at h1 h2; subst h1; subst h2; exact h0
  | succ i => exact hb i a b (by simpa using h1) (by simpa using h2)

theorem sum_le_of {α β : Type} {f : α → Nat} {g : β → Nat} : ∀ {l : List α} {m : List β}, m.length = l.length → (∀ (i : Nat) a b, l[i]? = some a → m[i]? = some b → g b ≤ f a) → (m.map g).sum ≤ (l.map f).sum
 | [], [], _, _ => by simp
 | [], _ :: _, h, _ => by simp at h
 | _ :: _, [], h, _ => by simp at h
 | a :: l, b :: m, h, hk => by
  have h0 := hk 0 a b rfl rfl
  have := sum_le_of (f := f) (g := g) (l := l) (m := m) (by simpa using h) (fun i x y h1 h2 => hk (i + 1) x y (by simpa using h1) (by simpa using h2))
  simp only [List.map_cons, List.sum_cons]
  omega

theorem RdB.slice {N : Nat} {t e : TypeId} {α : Type} {cells : α → List PV} {wf : α → Prop} {size : α → Nat} (ht : P.underlying t = some (.slice e)) (hc : ∀ x, (cells x).length = P.cellsOf e)
  (hpos : 0 < P.cellsOf e) (h : ∀ N', N' < N → RdB B P N' e cells wf size) :
  RdB B P N t (fun xs : List α => [.ro (xs.map cells)]) (fun xs => ∀ x ∈ xs, wf x) (fun xs => (xs.map size).sum + 1) := by
 intro H enc w base spare held fuel cs d ps hd hN
 rcases DataW.trod_slice ht hd with ⟨rfl, hx⟩ | ⟨a, len, cap, elems, rest, n, _, rfl, hx, hb, hl, hm, hlen, hel, _, _⟩
 ·exact ⟨[], .one .nl, by simp, by simpa using B.one d⟩
 simp only [Prod.mk.injEq] at hx
 obtain ⟨rfl, rfl⟩ := hx
 have hsum := B.sl (elems.map (·.1)) (rest.map (·.1))
 have hel' : ∀ (i : Nat) z, elems[i]? = some z → ∃ x : α, (∃ cs', w.cells? base (a.add (i * P.cellsOf e)) (P.cellsOf e) = some cs' ∧ RdOk w cs' (cells x)) ∧ wf x ∧ size x ≤ B.f z.1 := by
  intro i z hz
  have hi : i < len := by rw [← hlen]; exact (List.getElem?_eq_some_iff.1 hz).1
  have hk := hel i hi
  rw [hz] at hk
  obtain ⟨cs', h1, h2⟩ := Option.bind_eq_some_iff.1 hk
  have hle : B.f z.1 ≤ ((elems.map (·.1)).map B.f).sum := sum_ge (f := B.f) (List.mem_map.2 ⟨z, List.mem_of_getElem? hz, rfl⟩)
  obtain ⟨x, k1, k2, k3⟩ := h (B.f z.1) (by omega) (d := z.1) (ps := z.2) h2 (Nat.le_refl _)
  exact ⟨x, ⟨cs', h1, k1⟩, k2, k3⟩
 obtain ⟨xs, hxl, hxs⟩ := choose_list hel'
 have hxlen : xs.length = len := by omega
 have key : ∀ (i : Nat) x, xs[i]? = some x → ∃ z, elems[i]? = some z ∧ (∃ cs', w.cells? base (a.add (i * P.cellsOf e)) (P.cellsOf e) = some cs' ∧ RdOk w cs' (cells x)) ∧ wf x ∧ size x ≤ B.f z.1 := by
  intro i x hx
  have hi : i < elems.length := by rw [← hxl]; exact (List.getElem?_eq_some_iff.1 hx).1
  exact ⟨_, List.getElem?_eq_getElem hi, hxs i _ x (List.getElem?_eq_getElem hi) hx⟩
 refine ⟨xs, .one ?_, ?_, ?_⟩
 ·have hcell : ∀ (i : Nat) (ee : List PV) (j : Nat) c, (xs.map cells)[i]? = some ee → ee[j]? = some c → ∃ v, w.cell? (a.add (i * P.cellsOf e + j)) = some v ∧ PRel noMut w v c := by
   intro i ee j c h1 h2
   rw [List.getElem?_map, Option.map_eq_some_iff] at h1
   obtain ⟨x, hx, rfl⟩ := h1
   obtain ⟨z, _, ⟨cs', hcs, hrd⟩, _, _⟩ := key i x hx
   obtain ⟨_, hcl, hcc⟩ := World.cells?_some hcs
   have hj : j < P.cellsOf e := by rw [← hc x]; exact (List.getElem?_eq_some_iff.1 h2).1
   have := hcc j hj
   rw [add_add] at this
   have hget : cs'[j]? = some cs'[j] := List.getElem?_eq_getElem (by omega)
   exact ⟨cs'[j], this.trans hget, hrd.2 j _ c hget h2⟩
  have := PRel.ro (μ := noMut) (w := w) a cap (P.cellsOf e) (xs.map cells) (fun i j => (w.cell? (a.add (i * P.cellsOf e + j))).getD undef) (by simpa [hxlen] using hl)
   (fun ee he => by obtain ⟨x, _, rfl⟩ := List.mem_map.1 he; exact hc x)
   (fun hne => by
    refine ⟨?_, fun h => h⟩
    cases xs with
    | nil => simp at hne
    | cons x0 r0 =>
     have h0 : 0 < (cells x0).length := by rw [hc]; exact hpos
     obtain ⟨v, hv, _⟩ := hcell 0 (cells x0) 0 _ rfl (List.getElem?_eq_getElem h0)
     have := cell_lt hv
     rwa [add_block] at this)
   (fun i ee j c h1 h2 => by obtain ⟨v, hv, _⟩ := hcell i ee j c h1 h2; simp [hv])
   (fun i ee j c h1 h2 => by obtain ⟨v, hv, hr⟩ := hcell i ee j c h1 h2; simpa [hv] using hr)
  rw [List.length_map, hxlen] at this
  exact this
 ·intro x hx
  obtain ⟨i, hi, rfl⟩ := List.getElem_of_mem hx
  obtain ⟨_, _, _, k, _⟩ := key i _ (List.getElem?_eq_getElem hi)
  exact k
 ·have : (xs.map size).sum ≤ ((elems.map (·.1)).map B.f).sum := by
   rw [List.map_map]
   exact sum_le_of (f := B.f ∘ Prod.fst) (g := size) hxl (fun i z x h1 h2 => (hxs i z x h1 h2).2.2)
  show (xs.map size).sum + 1 ≤ _
  omega

def RdF (B : Bulk) (P : Program) (N : Nat) (off : Nat) (fs : List Field) {α : Type} (cells : α → List PV) (wf : α → Prop) (size : α → Nat) : Prop :=
 ∀ ⦃H : Type⦄ ⦃enc : TypeId × Value → H⦄ ⦃w : World⦄ ⦃base : Nat⦄ ⦃spare : Nat → Bool⦄ ⦃held : Bool⦄ ⦃n : Nat⦄ ⦃cs : List Value⦄ ⦃xs : List (DataW H × List MemPlace)⦄,
  xs.length = fs.length → (∀ (i : Nat) f, fs[i]? = some f → DataW.trod enc P w base spare held n f.type ((cs.drop f.offset).take (P.cellsOf f.type)) = xs[i]?) → ((xs.map (·.1)).map B.f).sum ≤ N →
  cs.length = off + (fs.map fun f => P.cellsOf f.type).sum →
  ∃ x, RdOk w (cs.drop off) (cells x) ∧ wf x ∧ size x ≤ ((xs.map (·.1)).map B.f).sum

theorem RdF.nil {N off : Nat} : RdF B P N off [] (fun _ : Unit => []) (fun _ => True) (fun _ => 0) := by
 intro H enc w base spare held n cs xs hl h hN hc
 refine ⟨(), ?_, trivial, Nat.zero_le _⟩
 have : cs.drop off = [] := by simp at hc ⊢; omega
 rw [this]
 exact .nil

theorem RdF.cons {N off : Nat} {f : Field} {fs : List Field} {α β : Type} {c1 : α → List PV} {w1 : α → Prop} {s1 : α → Nat} {c2 : β → List PV} {w2 : β → Prop} {s2 : β → Nat} (ho : f.offset = off) (hc : ∀ x, (c1 x).length = P.cellsOf f.type)
  (h : RdB B P N f.type c1 w1 s1) (k : RdF B P N (off + P.cellsOf f.type) fs c2 w2 s2) : RdF B P N off (f :: fs) (fun p : α × β => c1 p.1 ++ c2 p.2) (fun p => w1 p.1 ∧ w2 p.2) (fun p => s1 p.1 + s2 p.2) := by
 intro H enc w base spare held n cs xs hl hx hN hlen
 match xs, hl with
 | z :: zs, hl =>
  simp only [List.map_cons, List.sum_cons] at hN hlen ⊢
  have h0 := hx 0 f rfl
  obtain ⟨x, a1, a2, a3⟩ := h (d := z.1) (ps := z.2) h0 (by omega)
  obtain ⟨y, b1, b2, b3⟩ := k (xs := zs) (cs := cs) (by simpa using hl) (fun i g hg => hx (i + 1) g (by simpa using hg)) (by omega) (by omega)
  refine ⟨(x, y), ?_, ⟨a2, b2⟩, by simp only; omega⟩
  rw [ho] at a1
  refine RdOk.app (n := P.cellsOf f.type) a1 ?_ (hc x)
  rw [List.drop_drop]
  exact b1

theorem RdB.struct {N : Nat} {t : TypeId} {fs : Array Field} {α β : Type} {c : β → List PV} {wf : β → Prop} {s : β → Nat} {cells : α → List PV} {wf' : α → Prop} {size : α → Nat} (ht : P.underlying t = some (.struct fs)) (hsz : P.cellsOf t = 0 + (fs.toList.map fun f => P.cellsOf f.type).sum)
  (h : ∀ N', N' < N → RdF B P N' 0 fs.toList c wf s) (mk : β → α) (h1 : ∀ y, cells (mk y) = c y) (h2 : ∀ y, wf y → wf' (mk y)) (h3 : ∀ y, size (mk y) ≤ s y + 1) : RdB B P N t cells wf' size := by
 intro H enc w base spare held fuel cs d ps hd hN
 obtain ⟨xs, n, _, hx, hlen, hxl, hf⟩ := DataW.trod_struct ht hd
 simp only [Prod.mk.injEq] at hx
 obtain ⟨rfl, rfl⟩ := hx
 have hag := B.ag (xs.map (·.1))
 obtain ⟨y, a1, a2, a3⟩ := h _ (show ((xs.map (·.1)).map B.f).sum < N by omega) (xs := xs) (cs := cs) (by simpa using hxl) (fun i f hi => hf i f (by simpa using hi)) (Nat.le_refl _) (hlen.trans hsz)
 refine ⟨mk y, ?_, h2 y a2, ?_⟩
 ·rw [h1]; simpa using a1
 ·have := h3 y; omega

theorem RdB.conv {N : Nat} {t : TypeId} {α : Type} {c c' : α → List PV} {wf wf' : α → Prop} {s s' : α → Nat} (h : RdB B P N t c wf s) (h1 : ∀ x, c' x = c x) (h2 : ∀ x, wf x → wf' x) (h3 : ∀ x, s' x ≤ s x) : RdB B P N t c' wf' s' := by
 intro H enc w base spare held fuel cs d ps hd hN
 obtain ⟨x, a1, a2, a3⟩ := h hd hN
 exact ⟨x, by rw [h1]; exact a1, h2 x a2, Nat.le_trans (h3 x) a3⟩

end

/-! ### arguments -/

theorem PRel.toVRel {w : World} {v : Value} {p : PV} (h : PRel noMut w v p) : VRel ⟨fun _ => none, fun _ => False⟩ w [] v (.pv p) :=
 .pv v p (h.mono (Nat.le_refl _) (fun b _ _ => ⟨rfl, fun hm => by
  rcases hm with hm | ⟨id, o, h1, _, _⟩
  ·exact hm
  ·simp at h1⟩))

theorem arg_one {w : World} {v : Value} {p : PV} (h : RdOk w [v] [p]) : AVRel ⟨fun _ => none, fun _ => False⟩ w [] v (.one (.pv p)) := .one _ _ (h.2 0 v p rfl rfl).toVRel

theorem arg_read {B : Bulk} {P : Program} {H : Type} {enc : TypeId × Value → H} {w : World} {base b0 : Nat} {spare : Nat → Bool} {held : Bool} {r : Reach} {t : TypeId} {v : Value} {d : DataW H} {ps : List MemPlace} {α : Type} {cells : α → List PV} {wf : α → Prop} {size : α → Nat}
  (h : ∀ N, RdB B P N t cells wf size) (hval : Value.okWide P w r b0 t v) (hd : DataW.Trod enc P w base spare held t v d ps) :
  ∃ x, RdOk w v.cells.toList (cells x) ∧ wf x ∧ size x ≤ B.f d := by
 obtain ⟨fuel, hd⟩ := hd
 exact h _ hd (Nat.le_refl _)

theorem arg_cell {w : World} {v : Value} {p : PV} (h : RdOk w v.cells.toList [p]) (hv : ∀ cs, v ≠ .agg cs) : AVRel ⟨fun _ => none, fun _ => False⟩ w [] v (.one (.pv p)) := by
 have e : v.cells = #[v] := by cases v <;> first | rfl | exact absurd rfl (hv _)
 rw [e] at h
 exact arg_one h

theorem ok_cell {P : Program} {w : World} {r : Reach} {b0 : Nat} {t : TypeId} {v : Value} (ht : (match P.underlying t with | some (.int _) => true | some .bool => true | some .string => true | some (.slice _) => true | _ => false) = true) (hval : Value.okWide P w r b0 t v) : ∀ cs, v ≠ .agg cs := by
 rintro cs rfl
 cases hu : P.underlying t with
 | none => simp [hu] at ht
 | some d =>
  cases d <;> simp [hu] at ht <;> simp [Value.okWide, hu, Cell.okWide, Cell.ok] at hval

/-! ### closing -/

structure Kept (w w' : World) : Prop where
 os : w'.os = w.os
 output : w'.output = w.output
 size : w.heap.size ≤ w'.heap.size
 blk : ∀ b : Nat, b < w.heap.size → w'.heap[b]? = w.heap[b]?

theorem PC.call {P : Program} {f : Nat} {args : List AV} {r : AV} (h : PC P f args r) {w : World} {vs : List Value} (hl : vs.length = args.length) (hA : ∀ (j : Nat) v a, vs[j]? = some v → args[j]? = some a → AVRel ⟨fun _ => none, fun _ => False⟩ w [] v a) (hg : ∀ (b : Nat) (l : List Value), glob b = some l → b < w.heap.size ∧ ∀ (i : Nat) v, l[i]? = some v → w.cell? ⟨b, i, none⟩ = some v) :
  Calls P f vs.toArray w fun e w' => ∃ v ι', e = .returned v ∧ AVRel ι' w' [] v r ∧ Kept w w' := by
 refine (h ⟨fun _ => none, fun _ => False⟩ w vs ⟨fun id o h => by simp at h, fun b h => h.elim, fun b h => fun h' => h', fun id id' o o' b h => by simp at h, fun b o h => ⟨fun hm => hm.elim id (fun ⟨_, _, h1, _⟩ => by simp at h1), hg b o h⟩⟩ ⟨hl, hA⟩).mono ?_
 rintro e w' ⟨v, av, st', ι', rfl, ⟨rfl, rfl⟩, hR, hv, k⟩
 refine ⟨v, ι', rfl, hv, k.os, k.output, k.size, fun b hb => (k.blk b hb ?_).1⟩
 rintro ⟨id, o, h1, _⟩
 simp at h1

theorem Kept.keptBut {w w' : World} (k : Kept w w') (may : MemPlace → Prop) : w.keptBut w' may := by
 refine ⟨k.os, k.output, fun i hi => ?_⟩
 rw [k.blk i hi]
 have : w.heap[i]? = some w.heap[i] := Array.getElem?_eq_getElem hi
 rw [this]
 cases w.heap[i] with
 | cells c t fr => exact ⟨rfl, rfl, rfl, fun _ _ => rfl⟩
 | map es clock => exact .inr ⟨rfl, rfl⟩
 | _ => rfl

theorem Kept.frozen {w w' : World} (k : Kept w w') {b off : Nat} (hb : b < w.heap.size) : w'.frozen? ⟨b, off, none⟩ = w.frozen? ⟨b, off, none⟩ := by
 simp [World.frozen?, k.blk b hb]

open Go.ChangeShapes Go.WideElems Go.WideShapes in
theorem stays_all {H : Type} {enc : TypeId × Value → H} {P : Program} {W W' : World} (hl : laidOutB P = true) (k : Kept W W') {sp : Nat → Bool} : ∀ {ts : List TypeId} {vs : List Value} {ds : List (DataW H)} {ps : List MemPlace}, (ts.all fun t => P.readableRec t && Nat.ble (t + 1) P.types.size) = true →
  DataW.TrodAll enc P W 0 (fun _ => true) true ts vs ds ps → (∀ p ∈ ps, p.block < W.heap.size) → (∀ p ∈ ps, sp p.block = true) → DataW.TrodAll enc P W' 0 sp true ts vs ds ps
 | [], _, _, _, _, h, _, _ => by
  obtain ⟨rfl, rfl, rfl⟩ := trodAll_nil h
  exact rfl
 | t :: ts, _, _, _, hr, h, hp, hs => by
  obtain ⟨v, vs1, d, ds1, a, b, rfl, rfl, rfl, h1, h2⟩ := trodAll_cons h
  simp only [List.all_cons, Bool.and_eq_true] at hr
  refine ⟨a, b, Trod_stays hl hr.1.1 (Nat.le_of_ble_eq_true hr.1.2) h1 (fun p hpa => ?_) (fun p hpa => hs p (by simp [hpa])), stays_all hl k hr.2 h2 (fun p hpa => hp p (by simp [hpa])) (fun p hpa => hs p (by simp [hpa])), rfl⟩
  have := hp p (by simp [hpa])
  cases p with
  | cell b off => exact cell?_same (k.blk b this)
  | map b => exact k.blk b this

open Go.ChangeShapes Go.RowKit Go.WideShapes Go.ChangeAt in
theorem post_true {H : Type} {enc : TypeId × Value → H} {P : Program} {f : Func} {s : ChangeSpec} {apart fresh handsOn again : Bool} {W W' : World} {args : Array Value} {ds gs : List (DataW H)} {before : List MemPlace}
  (hW : DataW.Whole enc P f.params.toList s.vars apart W args.toList ds gs before) (hl : laidOutB P = true) (hr : (f.params.toList.all fun t => P.readableRec t && Nat.ble (t + 1) P.types.size) = true) (k : Kept W W')
  (hvars : s.vars = []) (t : TypeId) (ht : f.resultTypes = #[t]) (hb : P.underlying t = some .bool) (hsp : s.fn H ds = { results := [.lit (.bool true)], args := ds }) :
  s.post enc P f apart fresh handsOn again W args (.bool true) W' := by
 have hW' := hW
 have hlt : ∀ p ∈ before, p.block < W.heap.size := fun p hp => hW.lt p hp
 obtain ⟨p, q, hA, hV, rfl, hz, hn⟩ := hW'
 rw [hvars] at hV
 obtain ⟨rfl, rfl⟩ := trodVars_none hV
 have hres : ∀ (b : Nat) (sp : Nat → Bool) (hd : Bool), DataW.TrodAll enc P W' b sp hd f.resultTypes.toList ((Value.bool true).resultList f.resultTypes.size) [.lit (.bool true)] [] := by
  intro b sp hd
  rw [ht]
  exact trodAll_cons_mk (shut_bool hb _) trodAll_mk0
 simp only [List.append_nil] at *
 have hargs : ∀ sp : Nat → Bool, (∀ x ∈ p, sp x.block = true) → DataW.TrodAll enc P W' 0 sp true f.params.toList args.toList ds p := fun sp hs => stays_all hl k hr hA hlt hs
 have hold : ∀ x ∈ p, (fun b => decide (b < W.heap.size)) x.block = true := fun x hx => by simpa using hlt x hx
 refine ⟨ds, [], p, [], p, [], by simpa using hW, ?_, ?_, ?_, k.keptBut _, fun _ => ⟨?_, [.lit (.bool true)] ++ ds, [], p, ⟨p, [], ?_, ?_, by simp, ?_, hn⟩, ?_⟩⟩
 ·simp only [List.append_nil, hsp]; exact hres _ _ _
 ·simp only [List.append_nil, hsp]; exact hargs _ hold
 ·simp only [List.append_nil, hsp, hvars]; rfl
 ·exact ok_one ht rfl (okWide_bool_mk hb _)
 ·have := trodAll_append (hargs (fun _ => true) (fun _ _ => rfl)) (hres 0 (fun _ => true) true)
  simpa using this
 ·rw [hvars]; rfl
 ·intro b off hp
  rw [k.frozen (b := b) (off := off) (hlt _ hp)]
  exact hz b off hp
 ·intro x hx _; exact hx

theorem bool_of {ι : IM} {w : World} {v : Value} {b : Bool} (h : AVRel ι w [] v (.one (.pv (.s (.bool b))))) : v = .bool b := by
 cases h with
 | one _ _ h =>
  cases h with
  | pv _ _ h => cases h with | s => rfl

end Go.SX
namespace Go.SX
open Go
set_option linter.unusedVariables false

def fieldsOf (P : Program) (t : TypeId) : List Field := match P.underlying t with
 | some (.struct fs) => fs.toList
 | _ => []

def isStruct (P : Program) (t : TypeId) : Bool := match P.underlying t with
 | some (.struct _) => true
 | _ => false

def fld (P : Program) (t : TypeId) (i : Nat) : Field := (fieldsOf P t)[i]?.getD default

section
variable {B : Bulk} {P : Program}

theorem RdB.structF {N : Nat} {t : TypeId} {L : List Field} {α β : Type} {c : β → List PV} {wf : β → Prop} {s : β → Nat} {cells : α → List PV} {wf' : α → Prop} {size : α → Nat} (hu : isStruct P t = true) (hL : fieldsOf P t = L) (hsz : P.cellsOf t = 0 + (L.map fun f => P.cellsOf f.type).sum)
  (h : ∀ N', N' < N → RdF B P N' 0 L c wf s) (mk : β → α) (h1 : ∀ y, cells (mk y) = c y) (h2 : ∀ y, wf y → wf' (mk y)) (h3 : ∀ y, size (mk y) ≤ s y + 1) : RdB B P N t cells wf' size := by
 unfold isStruct at hu
 unfold fieldsOf at hL
 cases hd : P.underlying t with
 | none => simp [hd] at hu
 | some d =>
  cases d <;> simp [hd] at hu
  rename_i fs
  simp only [hd] at hL
  subst hL
  exact RdB.struct hd hsz h mk h1 h2 h3

end

end Go.SX
namespace Go.SX
open Go
set_option linter.unusedVariables false

abbrev i64ok (n : Int) : Prop := IntKind.min .i64 ≤ n ∧ n ≤ IntKind.max .i64

theorem rdValue {B : Bulk} {P : Program} {wf : GValue → Prop} {sz : GValue → Nat} (tv ti ts tl : TypeId) (hi : P.underlying ti = some (.int .i64)) (hs : P.underlying ts = some .string) (hl : P.underlying tl = some (.slice tv)) (hu : isStruct P tv = true)
  (hL : fieldsOf P tv = [fld P tv 0, fld P tv 1, fld P tv 2, fld P tv 3, fld P tv 4]) (hz : P.cellsOf tv = 5 ∧ P.cellsOf ti = 1 ∧ P.cellsOf ts = 1 ∧ P.cellsOf tl = 1)
  (ht : (fld P tv 0).type = ti ∧ (fld P tv 1).type = ti ∧ (fld P tv 2).type = ti ∧ (fld P tv 3).type = ts ∧ (fld P tv 4).type = tl)
  (ho : (fld P tv 0).offset = 0 ∧ (fld P tv 1).offset = 1 ∧ (fld P tv 2).offset = 2 ∧ (fld P tv 3).offset = 3 ∧ (fld P tv 4).offset = 4)
  (hwf : ∀ k n sc s it, i64ok k → i64ok n → i64ok sc → (∀ x ∈ it, wf x) → wf ⟨k, n, sc, s, it⟩) (hsz : ∀ k n sc s it, sz ⟨k, n, sc, s, it⟩ ≤ s.size + (it.map sz).sum + 6) :
  ∀ N, RdB B P N tv GValue.cells wf sz := by
 obtain ⟨t0, t1, t2, t3, t4⟩ := ht
 obtain ⟨o0, o1, o2, o3, o4⟩ := ho
 obtain ⟨z0, z1, z2, z3⟩ := hz
 intro N
 induction N using Nat.strongRecOn with
 | _ N ih =>
  have I : ∀ (N : Nat) (f : Field), f.type = ti → RdB B P N f.type (fun n : Int => [PV.s (.int .i64 n)]) (fun n => IntKind.min .i64 ≤ n ∧ n ≤ IntKind.max .i64) (fun _ => 1) := fun N f hf => RdB.int (by rw [hf]; exact hi)
  have C : ∀ (f : Field), f.type = ti → ∀ x : Int, ([PV.s (.int .i64 x)] : List PV).length = P.cellsOf f.type := fun f hf x => by rw [hf, z1]; rfl
  refine RdB.structF (α := GValue) (cells := GValue.cells) (wf' := wf) (size := sz) hu hL (by simp [t0, t1, t2, t3, t4, z0, z1, z2, z3]) (fun N' hN' =>
   RdF.cons o0 (C _ t0) (I N' _ t0) (RdF.cons (by rw [o1, t0, z1]) (C _ t1) (I N' _ t1) (RdF.cons (by rw [o2, t0, t1, z1]) (C _ t2) (I N' _ t2)
    (RdF.cons (c1 := fun s : ByteArray => [PV.s (.string s)]) (by rw [o3, t0, t1, t2, z1]) (fun x => by rw [t3, z2]; rfl) (RdB.str (by rw [t3]; exact hs))
     (RdF.cons (c1 := fun xs : List GValue => [PV.ro (xs.map GValue.cells)]) (by rw [o4, t0, t1, t2, t3, z1, z2]) (fun x => by rw [t4, z3]; rfl)
      (RdB.slice (e := tv) (by rw [t4]; exact hl) (fun x => by rw [z0]; exact eValue.hsz x) (by omega) (fun N'' hN'' => ih N'' (by omega))) RdF.nil)))))
   (fun y => (⟨y.1, y.2.1, y.2.2.1, y.2.2.2.1, y.2.2.2.2.1⟩ : GValue)) (fun y => ?_) (fun y h => hwf _ _ _ _ _ h.1 h.2.1 h.2.2.1 h.2.2.2.2.1) (fun y => ?_)
  ·simp only [GValue.cells, GValue.lcells_eq]
   rfl
  ·have := hsz y.1 y.2.1 y.2.2.1 y.2.2.2.1 y.2.2.2.2.1
   exact Nat.le_trans this (by show _ ≤ 1 + (1 + (1 + ((y.2.2.2.1).size + 1 + ((y.2.2.2.2.1.map sz).sum + 1 + 0)))) + 1; omega)

end Go.SX
namespace Go.SX
open Go
set_option linter.unusedVariables false
set_option linter.unusedSimpArgs false

theorem rdField {B : Bulk} {P : Program} {wfT : GType → Prop} {szT : GType → Nat} {wfF : GField → Prop} {szF : GField → Nat} (tt tf ti ts tb : TypeId) (hi : P.underlying ti = some (.int .i64)) (hs : P.underlying ts = some .string) (hb : P.underlying tb = some .bool) (hu : isStruct P tf = true)
  (hL : fieldsOf P tf = [fld P tf 0, fld P tf 1, fld P tf 2, fld P tf 3]) (hz : P.cellsOf tf = 6 ∧ P.cellsOf tt = 3 ∧ P.cellsOf ti = 1 ∧ P.cellsOf ts = 1 ∧ P.cellsOf tb = 1)
  (ht : (fld P tf 0).type = ti ∧ (fld P tf 1).type = ts ∧ (fld P tf 2).type = tb ∧ (fld P tf 3).type = tt)
  (ho : (fld P tf 0).offset = 0 ∧ (fld P tf 1).offset = 1 ∧ (fld P tf 2).offset = 2 ∧ (fld P tf 3).offset = 3)
  (hwf : ∀ i n q t, i64ok i → wfT t → wfF ⟨i, n, q, t⟩) (hsz : ∀ i n q t, szF ⟨i, n, q, t⟩ ≤ n.size + szT t + 4) {N : Nat} (ih : ∀ N', N' < N → RdB B P N' tt GType.cells wfT szT) :
  RdB B P N tf GType.fcell wfF szF := by
 obtain ⟨t0, t1, t2, t3⟩ := ht
 obtain ⟨o0, o1, o2, o3⟩ := ho
 obtain ⟨z0, z1, z2, z3, z4⟩ := hz
 refine RdB.structF (α := GField) (cells := GType.fcell) (wf' := wfF) (size := szF) hu hL (by simp [t0, t1, t2, t3, z0, z1, z2, z3, z4]) (fun N' hN' =>
  RdF.cons (c1 := fun n : Int => [PV.s (.int .i64 n)]) o0 (fun x => by rw [t0, z2]; rfl) (RdB.int (by rw [t0]; exact hi))
   (RdF.cons (c1 := fun s : ByteArray => [PV.s (.string s)]) (by rw [o1, t0, z2]) (fun x => by rw [t1, z3]; rfl) (RdB.str (by rw [t1]; exact hs))
    (RdF.cons (c1 := fun b : Bool => [PV.s (.bool b)]) (by rw [o2, t0, t1, z2, z3]) (fun x => by rw [t2, z4]; rfl) (RdB.bool (by rw [t2]; exact hb))
     (RdF.cons (c1 := GType.cells) (by rw [o3, t0, t1, t2, z2, z3, z4]) (fun x => by rw [t3, z1]; cases x; rfl) (by rw [t3]; exact ih N' hN') RdF.nil))))
  (fun y => (⟨y.1, y.2.1, y.2.2.1, y.2.2.2.1⟩ : GField)) (fun y => ?_) (fun y h => hwf _ _ _ _ h.1 h.2.2.2.1) (fun y => ?_)
 ·simp only [GType.fcell, List.append_nil]
  rfl
 ·have := hsz y.1 y.2.1 y.2.2.1 y.2.2.2.1
  exact Nat.le_trans this (by show _ ≤ 1 + ((y.2.1).size + 1 + (1 + (szT y.2.2.2.1 + 0))) + 1; omega)

theorem rdType {B : Bulk} {P : Program} {wfT : GType → Prop} {szT : GType → Nat} {wfF : GField → Prop} {szF : GField → Nat} (tt tf ti ts tb tl : TypeId) (hi : P.underlying ti = some (.int .i64)) (hs : P.underlying ts = some .string) (hb : P.underlying tb = some .bool)
  (hl : P.underlying tl = some (.slice tf)) (hu : isStruct P tf = true) (hu' : isStruct P tt = true)
  (hL : fieldsOf P tf = [fld P tf 0, fld P tf 1, fld P tf 2, fld P tf 3]) (hL' : fieldsOf P tt = [fld P tt 0, fld P tt 1, fld P tt 2]) (hz : P.cellsOf tf = 6 ∧ P.cellsOf tt = 3 ∧ P.cellsOf ti = 1 ∧ P.cellsOf ts = 1 ∧ P.cellsOf tb = 1) (hzl : P.cellsOf tl = 1)
  (ht : (fld P tf 0).type = ti ∧ (fld P tf 1).type = ts ∧ (fld P tf 2).type = tb ∧ (fld P tf 3).type = tt)
  (ho : (fld P tf 0).offset = 0 ∧ (fld P tf 1).offset = 1 ∧ (fld P tf 2).offset = 2 ∧ (fld P tf 3).offset = 3)
  (ht' : (fld P tt 0).type = ti ∧ (fld P tt 1).type = ti ∧ (fld P tt 2).type = tl)
  (ho' : (fld P tt 0).offset = 0 ∧ (fld P tt 1).offset = 1 ∧ (fld P tt 2).offset = 2)
  (hwf : ∀ i n q t, i64ok i → wfT t → wfF ⟨i, n, q, t⟩) (hsz : ∀ i n q t, szF ⟨i, n, q, t⟩ ≤ n.size + szT t + 4)
  (hwf' : ∀ k s fs, i64ok k → i64ok s → (∀ f ∈ fs, wfF f) → wfT ⟨k, s, fs⟩) (hsz' : ∀ k s fs, szT ⟨k, s, fs⟩ ≤ (fs.map szF).sum + 4) :
  ∀ N, RdB B P N tt GType.cells wfT szT := by
 intro N
 induction N using Nat.strongRecOn with
 | _ N ih =>
  have hF : ∀ N', N' ≤ N → RdB B P N' tf GType.fcell wfF szF := fun N' h => rdField tt tf ti ts tb hi hs hb hu hL hz ht ho hwf hsz (fun N'' h'' => ih N'' (by omega))
  obtain ⟨t0, t1, t2⟩ := ht'
  obtain ⟨o0, o1, o2⟩ := ho'
  obtain ⟨z0, z1, z2, z3, z4⟩ := hz
  refine RdB.structF (α := GType) (cells := GType.cells) (wf' := wfT) (size := szT) hu' hL' (by simp [t0, t1, t2, z1, z2, hzl]) (fun N' hN' =>
   RdF.cons (c1 := fun n : Int => [PV.s (.int .i64 n)]) o0 (fun x => by rw [t0, z2]; rfl) (RdB.int (by rw [t0]; exact hi))
    (RdF.cons (c1 := fun n : Int => [PV.s (.int .i64 n)]) (by rw [o1, t0, z2]) (fun x => by rw [t1, z2]; rfl) (RdB.int (by rw [t1]; exact hi))
     (RdF.cons (c1 := fun xs : List GField => [PV.ro (xs.map GType.fcell)]) (by rw [o2, t0, t1, z2]) (fun x => by rw [t2, hzl]; rfl)
      (RdB.slice (e := tf) (by rw [t2]; exact hl) (fun x => by rw [z0]; exact eField.hsz x) (by omega) (fun N'' hN'' => hF N'' (by omega))) RdF.nil)))
   (fun y => (⟨y.1, y.2.1, y.2.2.1⟩ : GType)) (fun y => ?_) (fun y h => hwf' _ _ _ h.1 h.2.1 h.2.2.1) (fun y => ?_)
  ·simp only [GType.cells, GType.fcells_eq]
   rfl
  ·have := hsz' y.1 y.2.1 y.2.2.1
   exact Nat.le_trans this (by show _ ≤ 1 + (1 + ((y.2.2.1.map szF).sum + 1 + 0)) + 1; omega)

end Go.SX
namespace Go.SX
open Go
set_option linter.unusedVariables false
set_option linter.unusedSimpArgs false

theorem rdFields {B : Bulk} {P : Program} {wfT : GType → Prop} {szT : GType → Nat} {wfF : GField → Prop} {szF : GField → Nat} {szL : List GField → Nat} (tt tf ti ts tb tl : TypeId) (hi : P.underlying ti = some (.int .i64)) (hs : P.underlying ts = some .string) (hb : P.underlying tb = some .bool)
  (hl : P.underlying tl = some (.slice tf)) (hu : isStruct P tf = true) (hu' : isStruct P tt = true)
  (hL : fieldsOf P tf = [fld P tf 0, fld P tf 1, fld P tf 2, fld P tf 3]) (hL' : fieldsOf P tt = [fld P tt 0, fld P tt 1, fld P tt 2]) (hz : P.cellsOf tf = 6 ∧ P.cellsOf tt = 3 ∧ P.cellsOf ti = 1 ∧ P.cellsOf ts = 1 ∧ P.cellsOf tb = 1) (hzl : P.cellsOf tl = 1)
  (ht : (fld P tf 0).type = ti ∧ (fld P tf 1).type = ts ∧ (fld P tf 2).type = tb ∧ (fld P tf 3).type = tt)
  (ho : (fld P tf 0).offset = 0 ∧ (fld P tf 1).offset = 1 ∧ (fld P tf 2).offset = 2 ∧ (fld P tf 3).offset = 3)
  (ht' : (fld P tt 0).type = ti ∧ (fld P tt 1).type = ti ∧ (fld P tt 2).type = tl)
  (ho' : (fld P tt 0).offset = 0 ∧ (fld P tt 1).offset = 1 ∧ (fld P tt 2).offset = 2)
  (hwf : ∀ i n q t, i64ok i → wfT t → wfF ⟨i, n, q, t⟩) (hsz : ∀ i n q t, szF ⟨i, n, q, t⟩ ≤ n.size + szT t + 4)
  (hwf' : ∀ k s fs, i64ok k → i64ok s → (∀ f ∈ fs, wfF f) → wfT ⟨k, s, fs⟩) (hsz' : ∀ k s fs, szT ⟨k, s, fs⟩ ≤ (fs.map szF).sum + 4) (hszl : ∀ xs, szL xs ≤ (xs.map szF).sum + 1) (N : Nat) :
  RdB B P N tl (fun xs : List GField => [PV.ro (eField.els xs)]) (fun xs => ∀ x ∈ xs, wfF x) szL := by
 have hT := rdType (B := B) (P := P) tt tf ti ts tb tl hi hs hb hl hu hu' hL hL' hz hzl ht ho ht' ho' hwf hsz hwf' hsz'
 have hF : ∀ N, RdB B P N tf GType.fcell wfF szF := fun N => rdField tt tf ti ts tb hi hs hb hu hL hz ht ho hwf hsz (fun N' _ => hT N')
 refine RdB.conv (RdB.slice (e := tf) (cells := GType.fcell) hl (fun x => by rw [hz.1]; exact eField.hsz x) (by rw [hz.1]; omega) (fun N' _ => hF N')) (fun x => ?_) (fun x h => h) hszl
 show [PV.ro (GType.fcells x)] = _
 rw [GType.fcells_eq]

end Go.SX
namespace Go.SX
open Go
set_option linter.unusedVariables false

theorem rdValues {B : Bulk} {P : Program} {wf : GValue → Prop} {sz : GValue → Nat} {szL : List GValue → Nat} (tv ti ts tl : TypeId) (hi : P.underlying ti = some (.int .i64)) (hs : P.underlying ts = some .string) (hl : P.underlying tl = some (.slice tv)) (hu : isStruct P tv = true)
  (hL : fieldsOf P tv = [fld P tv 0, fld P tv 1, fld P tv 2, fld P tv 3, fld P tv 4]) (hz : P.cellsOf tv = 5 ∧ P.cellsOf ti = 1 ∧ P.cellsOf ts = 1 ∧ P.cellsOf tl = 1)
  (ht : (fld P tv 0).type = ti ∧ (fld P tv 1).type = ti ∧ (fld P tv 2).type = ti ∧ (fld P tv 3).type = ts ∧ (fld P tv 4).type = tl)
  (ho : (fld P tv 0).offset = 0 ∧ (fld P tv 1).offset = 1 ∧ (fld P tv 2).offset = 2 ∧ (fld P tv 3).offset = 3 ∧ (fld P tv 4).offset = 4)
  (hwf : ∀ k n sc s it, i64ok k → i64ok n → i64ok sc → (∀ x ∈ it, wf x) → wf ⟨k, n, sc, s, it⟩) (hsz : ∀ k n sc s it, sz ⟨k, n, sc, s, it⟩ ≤ s.size + (it.map sz).sum + 6) (hszl : ∀ xs, szL xs ≤ (xs.map sz).sum + 1) (N : Nat) :
  RdB B P N tl (fun xs : List GValue => [PV.ro (eValue.els xs)]) (fun xs => ∀ x ∈ xs, wf x) szL := by
 have hV := rdValue (B := B) (P := P) tv ti ts tl hi hs hl hu hL hz ht ho hwf hsz
 refine RdB.conv (RdB.slice (e := tv) (cells := GValue.cells) hl (fun x => by rw [hz.1]; exact eValue.hsz x) (by rw [hz.1]; omega) (fun N' _ => hV N')) (fun x => ?_) (fun x h => h) hszl
 show [PV.ro (GValue.lcells x)] = _
 rw [GValue.lcells_eq]

end Go.SX
namespace Go.SX
open Go
set_option linter.unusedVariables false

theorem rdRows {B : Bulk} {P : Program} {wf : GValue → Prop} {sz : GValue → Nat} {szL : List GValue → Nat} {szR : List (List GValue) → Nat} (tr tv ti ts tl : TypeId) (hr : P.underlying tr = some (.slice tl)) (hi : P.underlying ti = some (.int .i64)) (hs : P.underlying ts = some .string) (hl : P.underlying tl = some (.slice tv)) (hu : isStruct P tv = true)
  (hL : fieldsOf P tv = [fld P tv 0, fld P tv 1, fld P tv 2, fld P tv 3, fld P tv 4]) (hz : P.cellsOf tv = 5 ∧ P.cellsOf ti = 1 ∧ P.cellsOf ts = 1 ∧ P.cellsOf tl = 1)
  (ht : (fld P tv 0).type = ti ∧ (fld P tv 1).type = ti ∧ (fld P tv 2).type = ti ∧ (fld P tv 3).type = ts ∧ (fld P tv 4).type = tl)
  (ho : (fld P tv 0).offset = 0 ∧ (fld P tv 1).offset = 1 ∧ (fld P tv 2).offset = 2 ∧ (fld P tv 3).offset = 3 ∧ (fld P tv 4).offset = 4)
  (hwf : ∀ k n sc s it, i64ok k → i64ok n → i64ok sc → (∀ x ∈ it, wf x) → wf ⟨k, n, sc, s, it⟩) (hsz : ∀ k n sc s it, sz ⟨k, n, sc, s, it⟩ ≤ s.size + (it.map sz).sum + 6) (hszl : ∀ xs, szL xs ≤ (xs.map sz).sum + 1) (hszr : ∀ xs, szR xs ≤ (xs.map szL).sum + 1) (N : Nat) :
  RdB B P N tr (fun xs : List (List GValue) => [PV.ro ((eL eValue).els xs)]) (fun xs => ∀ r ∈ xs, ∀ x ∈ r, wf x) szR := by
 have hV := rdValues (B := B) (P := P) (szL := szL) tv ti ts tl hi hs hl hu hL hz ht ho hwf hsz hszl
 refine RdB.conv (RdB.slice (e := tl) (cells := fun r : List GValue => [PV.ro (eValue.els r)]) hr (fun x => by rw [hz.2.2.2]; rfl) (by rw [hz.2.2.2]; omega) (fun N' _ => hV N')) (fun x => ?_) (fun x h => h) hszr
 rfl

end Go.SX
