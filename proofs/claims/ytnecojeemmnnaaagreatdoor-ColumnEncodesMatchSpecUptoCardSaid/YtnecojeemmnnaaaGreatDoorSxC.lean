/- SX: a machine that runs the program's code over frames up to the next event (a condition, a call, a list's operation); proofs name the events only. SX: the events' rules. SX: the events' rules, second part: objects. SX: the events' rules, third part: lists of our own. SX: the events' rules, fourth part: operations on lists of our own. The program's data as Lean's, with their cells. SX: functions whose contract is given over plain worlds; utf8.ValidString by the shelf's contract. SX: functions that the model stands in for, at any arguments; bytes.Compare. slices.SortFunc, slices.CompactFunc and slices.Clone at lists of elements of one cell: contracts in the words of SX. Texts: their order. SX: the way from a given row to a contract of pure values: reading the arguments, and closing the row. SX: readings of structs by the program's own fields. SX: readings of values and types. Types out of rows. Lists of fields out of rows. Lists of values, of numbers, of bytes out of rows. -/
import Derived.Shelf.Unicode.ValidAny
import Derived.Lib.Bytealg
import Derived.Shelf.SlSortCmp.Kit1
import Derived.Lib.SlicesCompact
import Derived.Sort.Statements
import Derived.OpenShut
import Derived.JoinedCond
import Derived.WideKeyArgs
import Derived.Test.YtnecojeemmnnaaaGreatDoorSxB
set_option linter.unusedVariables false
set_option linter.unusedSimpArgs false
set_option linter.unnecessarySimpa false
namespace Go.SX
open Go
section force
variable {β : Type}
def fN (n : Nat) (K : Nat → β) : β :=
 bif Nat.beq n 0 then K 0 else bif Nat.beq n 1 then K 1 else bif Nat.beq n 2 then K 2 else bif Nat.beq n 3 then K 3 else
 bif Nat.beq n 4 then K 4 else bif Nat.beq n 5 then K 5 else bif Nat.beq n 6 then K 6 else bif Nat.beq n 7 then K 7 else
 bif Nat.beq n 8 then K 8 else bif Nat.beq n 9 then K 9 else bif Nat.beq n 10 then K 10 else bif Nat.beq n 11 then K 11 else
 bif Nat.beq n 12 then K 12 else bif Nat.beq n 13 then K 13 else K n
theorem LG (n : Nat) (K : Nat → β) : fN n K = K n := by
 have h : ∀ (m : Nat) (r : β), r = K n → (bif Nat.beq n m then K m else r) = K n := by
  intro m r hr
  cases hb : Nat.beq n m with
  | true => rw [Nat.eq_of_beq_eq_true hb]; rfl
  | false => exact hr
 unfold fN
 repeat first | exact rfl | apply h
def fV (v : Value) (K : Value → β) : β := match v with
 | .int k n => K (.int k n)
 | .bool b => K (.bool b)
 | .string s => K (.string s)
 | .slice none 0 0 => K (.slice none 0 0)
 | v => K v
theorem Om (v : Value) (K : Value → β) : fV v K = K v := by unfold fV; split <;> rfl
def OY (p : PV) (K : PV → β) : β := match p with
 | .s v => fV v fun v => K (.s v)
 | .ro els => K (.ro els)
 | .rp els i off => fN off fun off => K (.rp els i off)
 | .fn f caps => K (.fn f caps)
theorem HP (p : PV) (K : PV → β) : OY p K = K p := by unfold OY; split <;> simp only [Om, LG]
def OT : List PV → (List PV → β) → β
 | [], K => K []
 | p :: l, K => OY p fun p => OT l fun l => K (p :: l)
theorem Ji : ∀ (l : List PV) (K : List PV → β), OT l K = K l
 | [], K => rfl
 | p :: l, K => by simp only [OT, HP, Ji l]
def fP (p : PV) (K : PV → β) : β := match p with
 | .fn f caps => OT caps fun caps => K (.fn f caps)
 | p => OY p K
theorem Lv (p : PV) (K : PV → β) : fP p K = K p := by unfold fP; split <;> simp only [Ji, HP]
def OK (c : CV) (K : CV → β) : β := match c with
 | .pv p => fP p fun p => K (.pv p)
 | .pt id sz i off => fN id fun id => fN off fun off => K (.pt id sz i off)
 | .sl id sz off len => fN id fun id => K (.sl id sz off len)
 | .fn f caps => K (.fn f caps)
 | .mp id => fN id fun id => K (.mp id)
 | .cl els => K (.cl els)
theorem In (c : CV) (K : CV → β) : OK c K = K c := by unfold OK; split <;> simp only [Lv, LG]
def Nr : List CV → (List CV → β) → β
 | [], K => K []
 | p :: l, K => OK p fun p => Nr l fun l => K (p :: l)
theorem Be : ∀ (l : List CV) (K : List CV → β), Nr l K = K l
 | [], K => rfl
 | p :: l, K => by simp only [Nr, In, Be l]
def fC (c : CV) (K : CV → β) : β := match c with
 | .fn f caps => Nr caps fun caps => K (.fn f caps)
 | c => OK c K
theorem Nz (c : CV) (K : CV → β) : fC c K = K c := by unfold fC; split <;> simp only [Be, In]
def O3 (a : AV) (K : AV → β) : β := match a with
 | .j => K .j
 | .one c => fC c fun c => K (.one c)
 | .ag cs => Nr cs fun cs => K (.ag cs)
 | .tp vs => K (.tp vs)
theorem Jv (a : AV) (K : AV → β) : O3 a K = K a := by unfold O3; split <;> simp only [Nz, Be]
def OW : List AV → (List AV → β) → β
 | [], K => K []
 | p :: l, K => O3 p fun p => OW l fun l => K (p :: l)
theorem H8 : ∀ (l : List AV) (K : List AV → β), OW l K = K l
 | [], K => rfl
 | p :: l, K => by simp only [OW, Jv, H8 l]
def fA (a : AV) (K : AV → β) : β := match a with
 | .tp vs => OW vs fun vs => K (.tp vs)
 | a => O3 a K
theorem ug (a : AV) (K : AV → β) : fA a K = K a := by unfold fA; split <;> simp only [H8, Jv]
def fB (b : bJ) (K : bJ → β) : β := match b with
 | .box cells => Nr cells fun cells => K (.box cells)
 | .dead => K .dead
 | .arr sz els => K (.arr sz els)
 | .rel R ps => K (.rel R ps)
theorem Da (b : bJ) (K : bJ → β) : fB b K = K b := by unfold fB; split <;> simp only [Be]
def fS : St → (St → β) → β
 | [], K => K []
 | p :: l, K => fB p fun p => fS l fun l => K (p :: l)
theorem pm : ∀ (l : St) (K : St → β), fS l K = K l
 | [], K => rfl
 | p :: l, K => by simp only [fS, Da, pm l]
def fF : Fr → (Fr → β) → β
 | [], K => K []
 | (d, a) :: l, K => fA a fun a => fF l fun l => K ((d, a) :: l)
theorem rU : ∀ (l : Fr) (K : Fr → β), fF l K = K l
 | [], K => rfl
 | (d, a) :: l, K => by simp only [fF, ug, rU l]
def ON : List PV → (List PV → β) → β
 | [], K => K []
 | p :: l, K => fP p fun p => ON l fun l => K (p :: l)
theorem IX : ∀ (l : List PV) (K : List PV → β), ON l K = K l
 | [], K => rfl
 | p :: l, K => by simp only [ON, Lv, IX l]
def OE : List (List PV) → (List (List PV) → β) → β
 | [], K => K []
 | p :: l, K => ON p fun p => OE l fun l => K (p :: l)
theorem Eg : ∀ (l : List (List PV)) (K : List (List PV) → β), OE l K = K l
 | [], K => rfl
 | p :: l, K => by simp only [OE, IX, Eg l]
def L5 (a : AV) (K : AV → β) : β := match a with
 | .one (.pv (.ro els)) => OE els fun els => K (.one (.pv (.ro els)))
 | a => fA a K
theorem Kc (a : AV) (K : AV → β) : L5 a K = K a := by unfold L5; split <;> simp only [Eg, ug]
def Lm : St → (St → β) → β
 | [], K => K []
 | [.arr sz els], K => OE els fun els => K [.arr sz els]
 | p :: l, K => fB p fun p => Lm l fun l => K (p :: l)
theorem zU : ∀ (l : St) (K : St → β), Lm l K = K l
 | [], K => rfl
 | [.arr sz els], K => by simp only [Lm, Eg]
 | .dead :: l, K => by simp only [Lm, Da, zU l]
 | .box c :: l, K => by simp only [Lm, Da, zU l]
 | .rel R c :: l, K => by simp only [Lm, Da, zU l]
 | .arr sz els :: x :: l, K => by simp only [Lm, Da, zU (x :: l)]
inductive FM where
 | n
 | a
 | s
def fX (b : FM) (a : AV) (st : St) (K : AV → St → β) : β := match b with
 | .a => L5 a fun a => K a st
 | .s => fA a fun a => Lm st fun st => K a st
 | .n => fA a fun a => fS st fun st => K a st
theorem Ib (b : FM) (a : AV) (st : St) (K : AV → St → β) : fX b a st K = K a st := by cases b <;> simp only [fX, ug, pm, Kc, zU]
end force
section
variable {P : Program} {n : Nat} {an X : List Nat} {ops : Array Oper} {l : List Oper} {fr : Fr} {st : St}
def HY (ops : Array Oper) (X : List Nat) (tw : List (List Nat × List Nat)) : Bool := Bo ops tw && Em X tw
def GK (P : Program) (n : Nat) (X : List Nat) (ops : Array Oper) (l : List Oper) (tw : List (List Nat × List Nat)) (R : Fr → St → Prop) (fr : Fr) (st : St) : Prop :=
 ∃ fr' st' tw', GX P n ops X l tw' fr st fr' st' ∧ HY ops X (tw ++ tw') = true ∧ R fr' st'
theorem GK.nil {tw : List (List Nat × List Nat)} {R : Fr → St → Prop} (h : HY ops X tw = true) (k : R fr st) : GK P n X ops [] tw R fr st := ⟨fr, st, [], GX.done rfl, by rw [List.append_nil]; exact h, k⟩
theorem GK.of {tw : List (List Nat × List Nat)} {R : Fr → St → Prop} {fr' : Fr} {st' : St} {l' : List Oper} {tw1 : List Nat × List Nat} (h : ∀ {tw2 : List (List Nat × List Nat)} {fr2 : Fr} {st2 : St}, GX P n ops X l' tw2 fr' st' fr2 st2 → GX P n ops X l (tw1 :: tw2) fr st fr2 st2) (k : GK P n X ops l' (tw ++ [tw1]) R fr' st') : GK P n X ops l tw R fr st := by
 obtain ⟨fr2, st2, tw2, h1, h2, h3⟩ := k
 exact ⟨fr2, st2, tw1 :: tw2, h h1, by rw [show tw ++ tw1 :: tw2 = tw ++ [tw1] ++ tw2 by simp]; exact h2, h3⟩
theorem Yd.aside {o : Oper} {f : Fr} {a : AV} (T : List Nat) (h : Yd P n (j0 (aM T) 0 st) o f a) : Pj P n X o f ⟨a, T, [], [], st⟩ st := by
 intro st' ι w act hl hT hX hR hF K Q hK
 have hl : st'.length = st.length := hl
 have hT : ∀ id, aM T id = true → st'[id]? = st[id]? := hT
 rw [← BT hl hT] at h
 have hRm := hR.mask (aM T)
 have hFm : jt n (SX.aside (aM T) ι st') w (j0 (aM T) 0 st') act f :=
  ⟨hF.defers, hF.size, fun t => (hF.slot t).chg (fun b hb => w5.1 hb) (by rw [fU]; exact Nat.le_refl _) (fun _ => rfl)⟩
 refine h _ w act hRm hFm K Q fun v w' ι2 hv hR2 k => ?_
 obtain ⟨r1, m1, k1⟩ := hR.unmask (T := aM T) (q := fun _ => true) (by rw [fU]; exact Nat.le_refl _) hR2 (k.weaken fun _ _ => trivial) (fun _ _ _ => rfl)
  (fun id o ho _ => fp (q := fun _ => true) (fun _ _ => rfl) o (by cases o <;> first | rfl | exact pY _))
  (fun id hid hTf => by rw [lg, Nat.zero_add, List.getElem?_eq_getElem hid, hTf]; rfl)
 have e1 : hY (aM T) 0 st' (j0 (aM T) 0 st') = st' := Cw
 have e2 : hY (aM ([] : List Nat)) 0 st' st = st' := B0 hl
 have hv := hv.chg m1 (by rw [e1, fU]; exact Nat.le_refl _) (fun _ => rfl)
 rw [e1] at r1 k1 hv
 exact hK v w' _ (by rw [e2]; exact hv) (by rw [e2]; exact r1) (by rw [e2]; exact k1.weaken fun _ _ => rfl)
theorem xn : ∀ fr : Fr, kM (fun id => !aM [] id) fr = fr
 | [] => rfl
 | (d, av) :: fr => by
  have h : cV (fun id => !aM [] id) av = true := oE (q := fun _ => true) (fun _ _ => rfl) av (xl av)
  simp only [kM, h, cond_true, xn fr]
def C4 (ops : Array Oper) (X : List Nat) (o : Oper) (fr : Fr) (av : AV) : Bool := oU ops X o fr (oD ops X o fr) && cV (fun i => aM (oD ops X o fr) (i + 1000) || !aM X i) av
theorem GK.yd {o : Oper} {tw : List (List Nat × List Nat)} {R : Fr → St → Prop} {fr' : Fr} {av : AV} (hp : (∀ d, o.dst = some d → d < n) ∧ rZ o.dst av fr = fr') (hc : C4 ops X o fr av = true)
  (h : (cY ops o (cw ops o fr) = some true ∧ Yd P n (j0 (aM (oD ops X o fr)) 0 st) o (cw ops o fr) av) ∨ (cY ops o (cw ops o fr) = some false ∧ av = .tp []))
  (k : GK P n X ops l (tw ++ [(oD ops X o fr, [])]) R fr' st) : GK P n X ops (o :: l) tw R fr st := by
 unfold C4 at hc
 rw [Bool.and_eq_true] at hc
 refine GK.of (tw1 := (oD ops X o fr, [])) (fun h2 => GX.cons (s := ⟨av, oD ops X o fr, [], [], st⟩) ⟨hp.1, rfl, fun _ _ => rfl, fun id h => by simp [aM] at h, fun id h => by simp [aM] at h, pj hc.1, hc.2, fun x b h => by simp [aM] at h, ?_⟩ (by
  show GX P n ops X l _ (rZ o.dst av (kM (fun id => !aM [] id) fr)) st _ _
  rw [xn, hp.2]; exact h2)) k
 rcases h with ⟨hg, h⟩ | ⟨hg, rfl⟩
 ·exact .inl ⟨hg, h.aside⟩
 ·exact .inr ⟨hg, rfl, rfl, rfl⟩
def G3 : List Nat → St → Option Nat
 | [], _ => none
 | x :: X, st => (match st[x]? with
  | some .dead => some x
  | _ => G3 X st)
theorem OI {W : List Nat} {hs : HS} {fr' : Fr} {T : List Nat} {st' : St} {ob : List Prop} (h : N7 P n ops X W l fr st hs = some (fr', T, st', ob)) (hl : st.length ≤ 1000) : hY (aM W) 0 st st' = st' := by
 unfold N7 at h
 split at h
 ·rename_i o ho
  split at h
  ·split at h
   ·rename_i out hev
    cases hc : NV n ops X W o fr st ((W ++ FH X (bK ops o fr ++ nK W st))) out with
    | false => rw [hc] at h; cases h
    | true =>
     rw [hc] at h
     simp only [cond_true, Option.some.injEq, Prod.mk.injEq] at h
     obtain ⟨_, _, rfl, _⟩ := h
     unfold NV at hc
     simp only [Bool.and_eq_true] at hc
     have hlen := Nat.eq_of_beq_eq_true hc.1.1.2
     generalize hT : W ++ FH X (bK ops o fr ++ nK W st) = T at *
     have z : (hY (aM T) 0 st out.st).length = st.length := by rw [cX _ _ _ (by omega)]; exact hlen
     refine oy (by rw [cX _ _ _ (by omega)]) (fun id hid => ?_)
     rw [cX _ _ _ (by omega), z] at hid
     rw [eY _ _ _ _ (by omega), Nat.zero_add]
     by_cases hw : id < st.length ∧ aM W id = false
     ·have hq : aM T id = false := by
       rw [← hT, mY, hw.2, Bool.false_or]
       exact Bf (by omega)
      have y : (hY (aM T) 0 st out.st)[id]? = if id < st.length ∧ aM T id = false then st[id]? else out.st[id]? := by rw [eY _ _ _ _ (by omega), Nat.zero_add]
      rw [if_pos hw, y, if_pos ⟨hw.1, hq⟩]
     ·rw [if_neg hw]
   ·cases h
  ·cases h
 ·cases h
def gW (P : Program) (n : Nat) (an X : List Nat) (ops : Array Oper) (l : List Oper) (fr : Fr) (st : St) : Option (Fr × List Nat × List Nat × St) :=
 match Aq l with
 | some o => (match o.op with
  | .alloc .. => (match G3 X st with
   | some id => (match NE P n ops X (sA an o) id l fr st [] with
    | some (fr', T, st', []) => bif E1 st T then some (fr', pG X T, T ++ [id + 1000], st') else none
    | _ => none)
   | none => none)
  | .store _ a _ => (match rv (cw ops o fr) a with
   | .one (.pt id _ _ _) => (match st[id]? with
    | some (.box _) => (match N7 P n ops X [id] l fr st [] with
     | some (fr', T, st', []) => bif Nat.ble st.length 1000 then some (fr', T, [id], st') else none
     | _ => none)
    | _ => none)
   | _ => none)
  | _ => none)
 | none => none
theorem GK.w {fr' : Fr} {T W : List Nat} {st' : St} {tw : List (List Nat × List Nat)} {R : Fr → St → Prop} (h : gW P n an X ops l fr st = some (fr', T, W, st')) (k : GK P n X ops (l.drop 1) (tw ++ [(T, W)]) R fr' st') : GK P n X ops l tw R fr st := by
 refine GK.of (tw1 := (T, W)) (fun h2 => ?_) k
 unfold gW at h
 split at h
 ·rename_i o ho
  split at h
  ·split at h
   ·rename_i id hid
    split at h
    ·rename_i he
     cases hq : E1 st _ with
     | false => rw [hq] at h; cases h
     | true =>
      rw [hq] at h
      simp only [cond_true, Option.some.injEq, Prod.mk.injEq] at h
      obtain ⟨rfl, rfl, rfl, rfl⟩ := h
      exact GX.new _ id [] _ _ _ [] he trivial hq h2
    ·cases h
   ·cases h
  ·split at h
   ·split at h
    ·split at h
     ·rename_i he
      cases hq : Nat.ble st.length 1000 with
      | false => rw [hq] at h; cases h
      | true =>
       rw [hq] at h
       simp only [cond_true, Option.some.injEq, Prod.mk.injEq] at h
       obtain ⟨rfl, rfl, rfl, rfl⟩ := h
       exact GX.sto _ [] _ _ _ [] he trivial (OI he (Nat.le_of_ble_eq_true hq)) h2
     ·cases h
    ·cases h
   ·cases h
  ·cases h
 ·cases h
end
inductive It where
 | c (x : Code)
 | o (ops : Array Oper) (l : List Oper)
 | d (ops : Array Oper) (l : List Oper)
 | b (id : Nat)
 | r (x : Code) (j : Nat)
 | g (X : List Nat) (ops : Array Oper) (l : List Oper) (tw : List (List Nat × List Nat))
structure SS where
 ks : List It
 fr : Fr
 st : St
 kn : List Nat
section
variable (P : Program) (n n0 : Nat) (loose : List Nat)
def QK : List It → QT → QT
 | [], Q => Q
 | .b id :: ks, Q => tF id (QK ks Q)
 | .c x :: ks, Q => jK (XW P n n0 loose x (QK ks Q)) (QK ks Q)
 | .o ops l :: ks, Q => jK (XO P n n0 loose ops l (QK ks Q)) (QK ks Q)
 | .d ops l :: ks, Q => jK (fun fr st => ∃ fr', DX P n st ops l fr fr' ∧ QK ks Q .normal fr' st) (QK ks Q)
 | .r x j :: ks, Q => jK (XR P n n0 loose x (QK ks Q) j) (QK ks Q)
 | .g X ops l tw :: ks, Q => jK (GK P n X ops l tw (QK ks Q .normal)) (QK ks Q)
def XK (Q : QT) (s : SS) : Prop := QK P n n0 loose s.ks Q .normal s.fr s.st
def As (id : Nat) : List It → Option (List It)
 | [] => none
 | .b i :: ks => bif Nat.beq i id then some ks else As id ks
 | _ :: ks => As id ks
variable {P n n0 loose}
theorem rY {a b : Nat} (h : a ≠ b) : Nat.beq a b = false := by
 cases hq : Nat.beq a b with
 | false => rfl
 | true => exact absurd (Nat.eq_of_beq_eq_true hq) h
theorem tQ {id : Nat} {Q : QT} {fr : Fr} {st : St} : ∀ {ks ks' : List It}, As id ks = some ks' → QK P n n0 loose ks' Q .normal fr st → QK P n n0 loose ks Q (.exit id) fr st
 | [], _, h, _ => by simp [As] at h
 | .b i :: ks, ks', h, hq => by
  simp only [As] at h
  simp only [QK, tF]
  cases hb : Nat.beq i id with
  | true =>
   have := Nat.eq_of_beq_eq_true hb
   subst this
   simp only [hb, cond_true, Option.some.injEq] at h
   subst h
   simpa using hq
  | false =>
   simp only [hb, cond_false] at h
   have : Nat.beq id i = false := rY (fun e => by subst e; simp at hb)
   simp only [this, cond_false]
   exact tQ h hq
 | .c x :: ks, ks', h, hq => tQ (ks := ks) (by simpa [As] using h) hq
 | .o ops l :: ks, ks', h, hq => tQ (ks := ks) (by simpa [As] using h) hq
 | .d ops l :: ks, ks', h, hq => tQ (ks := ks) (by simpa [As] using h) hq
 | .r _ _ :: ks, ks', h, hq => tQ (ks := ks) (by simpa [As] using h) hq
 | .g _ _ _ _ :: ks, ks', h, hq => tQ (ks := ks) (by simpa [As] using h) hq
theorem qR {id : Nat} {Q : QT} {fr : Fr} {st : St} : ∀ {ks : List It}, As id ks = none → Q (.exit id) fr st → QK P n n0 loose ks Q (.exit id) fr st
 | [], h, hq => hq
 | .b i :: ks, h, hq => by
  simp only [As] at h
  simp only [QK, tF]
  cases hb : Nat.beq i id with
  | true => simp [hb] at h
  | false =>
   simp only [hb, cond_false] at h
   have : Nat.beq id i = false := rY (fun e => by subst e; simp at hb)
   simp only [this, cond_false]
   exact qR h hq
 | .c x :: ks, h, hq => qR (ks := ks) (by simpa [As] using h) hq
 | .o ops l :: ks, h, hq => qR (ks := ks) (by simpa [As] using h) hq
 | .d ops l :: ks, h, hq => qR (ks := ks) (by simpa [As] using h) hq
 | .r _ _ :: ks, h, hq => qR (ks := ks) (by simpa [As] using h) hq
 | .g _ _ _ _ :: ks, h, hq => qR (ks := ks) (by simpa [As] using h) hq
theorem tV {Q : QT} {fr : Fr} {st : St} : ∀ {ks : List It}, Q .ret fr st → QK P n n0 loose ks Q .ret fr st
 | [], hq => hq
 | .b i :: ks, hq => tV (ks := ks) hq
 | .c x :: ks, hq => tV (ks := ks) hq
 | .o ops l :: ks, hq => tV (ks := ks) hq
 | .d ops l :: ks, hq => tV (ks := ks) hq
 | .r _ _ :: ks, hq => tV (ks := ks) hq
 | .g _ _ _ _ :: ks, hq => tV (ks := ks) hq
def DQ (kn : List Nat) : Operand → Bool
 | .tmp t => kn.any (Nat.beq t)
 | _ => true
def Ik (kn : List Nat) (o : Oper) (fr : Fr) (st : St) : Bool :=
 match o.op with
 | .pick c a b => bif DQ kn c then false else (match rv fr a with
  | .one (.pv (.s (.bool _))) => (match rv fr b with
   | .one (.pv (.s (.bool _))) => false
   | _ => true)
  | _ => true)
 | .call ⟨.builtin .len, args, _⟩ => (match args.toList with
  | [x] => (match rv fr x with
   | .one (.pv (.ro _)) => true
   | _ => false)
  | _ => true)
 | .call ⟨.builtin .max, _, _⟩ => false
 | .call ⟨.builtin .min, _, _⟩ => false
 | .call _ => true
 | .makeSlice .. => true
 | .slice .. => true
 | .convert _ _ x => (match rv fr x with
  | .one (.pv (.s (.int _ _))) => false
  | _ => true)
 | .indexAddr _ x i => (match rv fr x with
  | .one (.pv (.rp ..)) => !(DQ kn i)
  | .one (.pt ..) => !(DQ kn i)
  | _ => true)
 | .index _ x i => (match rv fr x with
  | .ag _ => !(DQ kn i)
  | _ => true)
 | .load _ a => (match rv fr a with
  | .one (.pv (.rp ..)) => false
  | .one (.pt id _ _ _) => (match st[id]? with
   | some (.box _) => false
   | _ => true)
  | _ => true)
 | .store _ a _ => (match rv fr a with
  | .one (.pt id _ _ _) => (match st[id]? with
   | some (.box _) => false
   | _ => true)
  | _ => true)
 | _ => false
def Ho (o : Oper) (fr : Fr) : HS :=
 match o.op with
 | .load _ a => (match rv fr a with
  | .one (.pv (.rp [c] _ _)) => [c]
  | _ => [])
 | _ => []
def xG (P : Program) (t : TypeId) : Nat := match P.underlying t with
 | some (.array len _) => len
 | _ => 0
def Nm (P : Program) (kn : List Nat) (o : Oper) (fr : Fr) : Bool :=
 match o.op with
 | .binOp op _ _ y _ => bif DQ kn y then (match rv fr y with
  | .one (.pv (.s (.int _ b))) => (match op with
   | .shl => decide (0 ≤ b)
   | .shr => decide (0 ≤ b)
   | .quo => decide (b ≠ 0)
   | .rem => decide (b ≠ 0)
   | _ => false)
  | _ => false) else false
 | .load _ a => (match rv fr a with
  | .one (.pv (.rp [_] 0 _)) => true
  | _ => false)
 | .indexAddr t x i => (match rv fr x with
  | .one (.pv (.rp ..)) => (match rv fr i with
   | .one (.pv (.s (.int _ n))) => decide (0 ≤ n) && decide (n < xG P t)
   | _ => false)
  | .one (.pt ..) => (match rv fr i with
   | .one (.pv (.s (.int _ n))) => decide (0 ≤ n) && decide (n < xG P t)
   | _ => false)
  | _ => false)
 | .index t x i => (match rv fr x with
  | .ag _ => (match rv fr i with
   | .one (.pv (.s (.int _ n))) => decide (0 ≤ n) && decide (n < xG P t)
   | _ => false)
  | _ => false)
 | _ => false
theorem Me {op : BinOp} {t : TypeId} {a : Value} {k : IntKind} {b : Int} {v : Value} {ob : List Prop} (hb : (match op with
   | .shl => decide (0 ≤ b)
   | .shr => decide (0 ≤ b)
   | .quo => decide (b ≠ 0)
   | .rem => decide (b ≠ 0)
   | _ => false) = true) (h : Ci P op t a (.int k b) = some (v, ob)) : gb ob := by
 have h : Kd op a (.int k b) = some (v, ob) := by
  cases a <;> first | exact h | cases h
 unfold Kd at h
 cases a <;> simp only at h <;> try (cases h; done)
 rename_i k1 a1 _
 cases op
 case shl => simp only [decide_eq_true_eq] at hb; simp only [Option.some.injEq, Prod.mk.injEq] at h; obtain ⟨_, rfl⟩ := h; exact ⟨hb, trivial⟩
 case shr => simp only [decide_eq_true_eq] at hb; simp only [Option.some.injEq, Prod.mk.injEq] at h; obtain ⟨_, rfl⟩ := h; exact ⟨hb, trivial⟩
 case quo =>
  simp only [decide_eq_true_eq] at hb
  cases hk : decide (k1 = k) <;> simp only [hk, cond_true, cond_false] at h
  ·cases h
  ·simp only [Option.some.injEq, Prod.mk.injEq] at h; obtain ⟨_, rfl⟩ := h; exact ⟨hb, trivial⟩
 case rem =>
  simp only [decide_eq_true_eq] at hb
  cases hk : decide (k1 = k) <;> simp only [hk, cond_true, cond_false] at h
  ·cases h
  ·simp only [Option.some.injEq, Prod.mk.injEq] at h; obtain ⟨_, rfl⟩ := h; exact ⟨hb, trivial⟩
 all_goals (cases hb; done)
theorem IL {kn : List Nat} {o : Oper} {fr : Fr} {st : St} {mu : Bool} {out : vC} (hb : Nm P kn o fr = true) (h : ev P mu o fr st (Ho o fr) = some out) : gb out.ob := by
 unfold Nm at hb
 unfold ev at h
 split at hb
 ·rename_i op tt x y _ ho
  simp only [ho] at h
  cases hk : DQ kn y with
  | false => simp [hk] at hb
  | true =>
   simp only [hk, cond_true] at hb
   split at hb
   ·rename_i k b hy
    rw [hy] at h
    split at h
    ·rename_i a b' e1 e2
     simp only [AV.one.injEq, CV.pv.injEq, PV.s.injEq] at e2
     subst e2
     split at h
     ·rename_i v ob hbo
      simp only [Option.some.injEq] at h
      subst h
      exact Me hb hbo
     ·simp only [Option.map_eq_some_iff] at h
      obtain ⟨_, _, rfl⟩ := h
      exact trivial
    ·rename_i e2; cases e2
    ·rename_i e2; cases e2
    ·cases h
   ·cases hb
 ·rename_i t a ho
  simp only [ho, Ho] at h
  split at hb
  ·rename_i c off hr
   simp only [hr] at h
   unfold D8 at h
   split at h
   ·simp only [Option.map_eq_some_iff] at h
    obtain ⟨av, _, rfl⟩ := h
    exact ⟨rfl, trivial⟩
   ·cases h
  ·cases hb
 ·rename_i t x i ho
  simp only [ho] at h
  split at hb
  ·rename_i e1
   split at hb
   ·rename_i e2
    simp only [e1, e2] at h
    simp only [Bool.and_eq_true, decide_eq_true_eq] at hb
    unfold Hf at h
    unfold xG at hb
    split at h
    ·rename_i q1 q2
     split at q2
     ·rename_i hu
      rw [hu] at hb
      split at q2
      ·simp only [Option.some.injEq, Prod.mk.injEq] at q2
       obtain ⟨rfl, rfl⟩ := q2
       simp only [Option.some.injEq] at h
       subst h
       exact ⟨hb, trivial⟩
      ·cases q2
     ·split at q2 <;> simp at q2
     ·cases q2
    ·cases h
   ·cases hb
  ·rename_i e1
   split at hb
   ·rename_i e2
    simp only [e1, e2] at h
    simp only [Bool.and_eq_true, decide_eq_true_eq] at hb
    unfold Hf at h
    unfold xG at hb
    split at h
    ·rename_i q1 q2
     split at q2
     ·rename_i hu
      rw [hu] at hb
      split at q2
      ·simp only [Option.some.injEq, Prod.mk.injEq] at q2
       obtain ⟨rfl, rfl⟩ := q2
       simp only [Option.some.injEq] at h
       subst h
       exact ⟨hb, trivial⟩
      ·cases q2
     ·split at q2 <;> simp at q2
     ·cases q2
    ·cases h
   ·cases hb
  ·cases hb
 ·rename_i t x i ho
  simp only [ho] at h
  split at hb
  ·rename_i e1
   split at hb
   ·rename_i e2
    simp only [e1, e2] at h
    simp only [Bool.and_eq_true, decide_eq_true_eq] at hb
    unfold xG at hb
    split at h
    ·rename_i q1 q2 q3; cases q2
    ·rename_i q1 q2 q3
     rw [q1] at hb
     simp only [AV.one.injEq, CV.pv.injEq, PV.s.injEq, Value.int.injEq] at q3
     obtain ⟨_, rfl⟩ := q3
     split at h
     ·simp only [Option.map_eq_some_iff] at h
      obtain ⟨av, _, rfl⟩ := h
      exact ⟨hb, trivial⟩
     ·cases h
    ·cases h
   ·cases hb
  ·cases hb
 ·cases hb
def N3 (P : Program) (an kn : List Nat) (o : Oper) (fr : Fr) (st : St) : Option (AV × St) :=
 bif Ik kn o fr st then none else
 match ev P (sA an o) o fr st (Ho o fr) with
 | some ⟨av, st', ob, _, none⟩ => (match ob with
  | [] => some (av, st')
  | _ => bif Nm P kn o fr then some (av, st') else none)
 | _ => none
theorem Eq {an kn : List Nat} {o : Oper} {fr : Fr} {st : St} {av : AV} {st' : St} (h : N3 P an kn o fr st = some (av, st')) :
  ∃ ob hs', ev P (sA an o) o fr st (Ho o fr) = some ⟨av, st', ob, hs', none⟩ ∧ gb ob := by
 unfold N3 at h
 cases hs : Ik kn o fr st with
 | true => simp [hs] at h
 | false =>
  simp only [hs, cond_false] at h
  split at h
  ·rename_i av1 st1 ob hs' he
   split at h
   ·simp only [Option.some.injEq, Prod.mk.injEq] at h
    obtain ⟨rfl, rfl⟩ := h
    exact ⟨_, _, he, trivial⟩
   ·cases hb : Nm P kn o fr with
    | false => simp [hb] at h
    | true =>
     simp only [hb, cond_true, Option.some.injEq, Prod.mk.injEq] at h
     obtain ⟨rfl, rfl⟩ := h
     exact ⟨_, _, he, IL hb he⟩
  ·cases h
def JM (ops : Array Oper) (kn : List Nat) (o : Oper) (fr : Fr) : Option Bool :=
 match o.guard with
 | none => some true
 | some (j, want) =>
  match (ops[j]?).bind (·.dst) with
  | some d => (match lk fr d with
   | .one (.pv (.s (.bool b))) => bif kn.any (Nat.beq d) then some (b == want) else none
   | .tp [] => some false
   | _ => none)
  | none => none
theorem qA {ops : Array Oper} {kn : List Nat} {o : Oper} {fr : Fr} {g : Bool} (h : JM ops kn o fr = some g) : cY ops o fr = some g := by
 unfold JM at h
 unfold cY
 cases hg : o.guard with
 | none => simpa [hg] using h
 | some jw =>
  obtain ⟨j, want⟩ := jw
  simp only [hg] at h ⊢
  cases hd : (ops[j]?).bind (·.dst) with
  | none => simp [hd] at h
  | some d =>
   simp only [hd] at h ⊢
   split at h
   ·rename_i b hb
    cases hk : kn.any (Nat.beq d) with
    | false => simp [hk] at h
    | true => simpa [hk, hb] using h
   ·rename_i hb; simpa [hb] using h
   ·cases h
def tC {β : Type} (n : Nat) (dst : Option Nat) (av : AV) (fr : Fr) (K : Fr → β) (E : β) : β := match dst with
 | none => K fr
 | some d => bif Nat.ble (d + 1) n then K ((d, av) :: fr) else E
def AD (u : Option Nat) (o : Oper) : Bool := match u with
 | none => false
 | some t => (match o.dst with
  | some d => Nat.beq d t
  | none => false)
def Mh (an : List Nat) (o : Oper) : FM := match o.op with
 | .buildSlice .. => (match sA an o with
  | true => .s
  | false => .a)
 | _ => .n
def xd (kn : List Nat) (o : Oper) (fr : Fr) : Bool := match o.op with
 | .move x => DQ kn x
 | .assign x => DQ kn x
 | .pick c a b => bif DQ kn c then (match rv fr c with
  | .one (.pv (.s (.bool t))) => (match t with
   | true => DQ kn a
   | false => DQ kn b)
  | _ => false) else false
 | .binOp _ _ x y _ => DQ kn x && DQ kn y
 | .unOp _ _ x => DQ kn x
 | .convert _ _ x => DQ kn x
 | _ => false
def J2 {β : Type} (d : Nat) : List Nat → (List Nat → β) → β
 | [], K => K []
 | x :: l, K => J2 d l fun l => bif Nat.beq x d then K l else K (x :: l)
def wa {β : Type} (b : Bool) (dst : Option Nat) (kn : List Nat) (K : List Nat → β) : β := match dst with
 | none => K kn
 | some d => J2 d kn fun l => bif b then K (d :: l) else K l
theorem E4 {β : Type} {d : Nat} : ∀ (l : List Nat) (K : List Nat → β), ∃ l', J2 d l K = K l'
 | [], K => ⟨[], rfl⟩
 | x :: l, K => by
  obtain ⟨l', h⟩ := E4 (d := d) l (fun l => bif Nat.beq x d then K l else K (x :: l))
  unfold J2
  rw [h]
  cases Nat.beq x d
  ·exact ⟨_, rfl⟩
  ·exact ⟨_, rfl⟩
theorem na {β : Type} (b : Bool) (dst : Option Nat) (kn : List Nat) (K : List Nat → β) : ∃ l, wa b dst kn K = K l := by
 unfold wa
 cases dst with
 | none => exact ⟨_, rfl⟩
 | some d =>
  obtain ⟨l', h⟩ := E4 (d := d) kn (fun l => bif b then K (d :: l) else K l)
  simp only [h]
  cases b
  ·exact ⟨_, rfl⟩
  ·exact ⟨_, rfl⟩
def O4 {β : Type} (P : Program) (n : Nat) (an : List Nat) (u : Option Nat) (s : SS) (K E : SS → β) : β :=
 match s with
 | ⟨ks, fr, st, kn⟩ => match ks with
  | [] => E s
  | .b _ :: k => K ⟨k, fr, st, kn⟩
  | .c x :: k => (match x with
   | .skip => K ⟨k, fr, st, kn⟩
   | .seq a b => K ⟨.c a :: .c b :: k, fr, st, kn⟩
   | .block id a => K ⟨.c a :: .b id :: k, fr, st, kn⟩
   | .region _ ops false => K ⟨.o ops ops.toList :: k, fr, st, kn⟩
   | .cond o a b => (match DQ kn o with
    | true => (match rv fr o with
     | .one (.pv (.s (.bool t))) => (match t with
      | true => K ⟨.c a :: k, fr, st, kn⟩
      | false => K ⟨.c b :: k, fr, st, kn⟩)
     | _ => E s)
    | false => E s)
   | .exit id => (match As id k with
    | some k' => K ⟨k', fr, st, kn⟩
    | none => E s)
   | _ => E s)
  | .r x j :: k => (match j with
   | j + 1 => K ⟨.c x :: .r x j :: k, fr, st, kn⟩
   | 0 => E s)
  | .o ops l :: k => (match l with
   | [] => K ⟨k, fr, st, kn⟩
   | o :: l' => bif AD u o then E s else (match JM ops kn o fr with
    | some true => (match N3 P an kn o fr st with
     | some (av, st') => fX (Mh an o) av st' fun av st' => tC n o.dst av fr (fun fr' => wa (xd kn o fr) o.dst kn fun kn' => K ⟨.o ops l' :: k, fr', st', kn'⟩) (E s)
     | none => E s)
    | some false => tC n o.dst (.tp []) fr (fun fr' => wa false o.dst kn fun kn' => K ⟨.o ops l' :: k, fr', st, kn'⟩) (E s)
    | none => E s))
  | .d ops l :: k => (match l with
   | [] => K ⟨k, fr, st, kn⟩
   | o :: l' => bif AD u o then E s else (match JM ops kn o (cw ops o fr) with
    | some true => bif jU o.op then (match N3 P [] kn o (cw ops o fr) st with
     | some (av, _) => fX (Mh [] o) av [] fun av _ => tC n o.dst av fr (fun fr' => wa (xd kn o fr) o.dst kn fun kn' => K ⟨.d ops l' :: k, fr', st, kn'⟩) (E s)
     | none => E s) else E s
    | some false => tC n o.dst (.tp []) fr (fun fr' => wa false o.dst kn fun kn' => K ⟨.d ops l' :: k, fr', st, kn'⟩) (E s)
    | none => E s))
  | .g X ops l tw :: k => (match l with
   | [] => bif HY ops X tw then K ⟨k, fr, st, kn⟩ else E s
   | o :: l' => bif AD u o then E s else (match JM ops kn o (cw ops o fr) with
    | some true => bif jU o.op && !sA an o then (match N3 P [] kn o (cw ops o fr) (j0 (aM (oD ops X o fr)) 0 st) with
     | some (av, _) => fX (Mh [] o) av [] fun av _ => bif C4 ops X o fr av then tC n o.dst av fr (fun fr' => wa (xd kn o fr) o.dst kn fun kn' => K ⟨.g X ops l' (tw ++ [(oD ops X o fr, [])]) :: k, fr', st, kn'⟩) (E s) else E s
     | none => E s) else (match gW P n an X ops (o :: l') fr st with
      | some (fr', T, W, st') => fF fr' fun fr' => fS st' fun st' => wa false o.dst kn fun kn' => K ⟨.g X ops l' (tw ++ [(T, W)]) :: k, fr', st', kn'⟩
      | none => E s)
    | some false => bif C4 ops X o fr (.tp []) then tC n o.dst (.tp []) fr (fun fr' => wa false o.dst kn fun kn' => K ⟨.g X ops l' (tw ++ [(oD ops X o fr, [])]) :: k, fr', st, kn'⟩) (E s) else E s
    | none => E s))
theorem lp {β : Type} (dst : Option Nat) (av : AV) (fr : Fr) (K : Fr → β) (E : β) : (∃ fr', sv n dst av fr = some fr' ∧ tC n dst av fr K E = K fr') ∨ tC n dst av fr K E = E := by
 cases dst with
 | none => exact .inl ⟨fr, rfl, rfl⟩
 | some d =>
  unfold tC sv
  cases h : Nat.ble (d + 1) n with
  | true => exact .inl ⟨(d, av) :: fr, by simp [h], by simp [h]⟩
  | false => exact .inr (by simp [h])
theorem pZ {dst : Option Nat} {av : AV} {fr fr' : Fr} (h : sv n dst av fr = some fr') : (∀ d, dst = some d → d < n) ∧ rZ dst av fr = fr' := by
 cases dst with
 | none => simp only [sv, Option.some.injEq] at h; exact ⟨(fun d hd => nomatch hd), h⟩
 | some d =>
  simp only [sv] at h
  cases hb : Nat.ble (d + 1) n with
  | false => simp [hb] at h
  | true =>
   simp only [hb, cond_true, Option.some.injEq] at h
   exact ⟨(fun d' hd => Option.some.inj hd ▸ Nat.le_of_ble_eq_true hb), h⟩
theorem DX.cons {ops : Array Oper} {o : Oper} {l : List Oper} {fr fr' fr2 : Fr} {st : St} {a : AV} (hp : sv n o.dst a fr = some fr')
  (h : (cY ops o (cw ops o fr) = some true ∧ Yd P n st o (cw ops o fr) a) ∨ (cY ops o (cw ops o fr) = some false ∧ a = .tp []))
  (k : DX P n st ops l fr' fr2) : DX P n st ops (o :: l) fr fr2 := by
 obtain ⟨h1, h2⟩ := pZ hp
 subst h2
 obtain ⟨asv, k1, k2⟩ := k
 exact ⟨a :: asv, ⟨⟨h1, h⟩, k1⟩, k2⟩
theorem G6 {an : List Nat} {ops : Array Oper} {o : Oper} {fr fr' : Fr} {st st' : St} {hs hs' : HS} {av : AV} {ob : List Prop} (hg : cY ops o fr = some true)
  (h : ev P (sA an o) o fr st hs = some ⟨av, st', ob, hs', none⟩) (hp : sv n o.dst av fr = some fr') : nV P n n0 loose an ops [o] fr st hs = some ⟨.normal, fr', st', hs', ob ++ []⟩ := by
 simp only [nV, hg, h, yT, JN, hp, cond_true]
theorem XO.op {an : List Nat} {ops : Array Oper} {o : Oper} {l : List Oper} {fr fr' : Fr} {st st' : St} {hs hs' : HS} {av : AV} {ob : List Prop} {Q : QT} (hg : cY ops o fr = some true)
  (h : ev P (sA an o) o fr st hs = some ⟨av, st', ob, hs', none⟩) (hob : gb ob) (hp : sv n o.dst av fr = some fr') (k : XO P n n0 loose ops l Q fr' st') : XO P n n0 loose ops (o :: l) Q fr st :=
 XO.run (l := [o]) (G6 hg h hp) (by rw [List.append_nil]; exact hob) k
theorem XO.opN {ops : Array Oper} {o : Oper} {l : List Oper} {fr fr' : Fr} {st : St} {Q : QT} (hg : cY ops o fr = some false)
  (hp : sv n o.dst (.tp []) fr = some fr') (k : XO P n n0 loose ops l Q fr' st) : XO P n n0 loose ops (o :: l) Q fr st := by
 have : nV P n n0 loose [] ops [o] fr st [] = some ⟨.normal, fr', st, [], []⟩ := by simp only [nV, hg, hp]
 exact XO.run (l := [o]) this trivial k
theorem Hg {an : List Nat} {u : Option Nat} {Q : QT} {β : Type} (s : SS) (K E : SS → β) : ∃ s', (O4 P n an u s K E = K s' ∨ O4 P n an u s K E = E s') ∧ (XK P n n0 loose Q s' → XK P n n0 loose Q s) := by
 obtain ⟨ks, fr, st, kn⟩ := s
 have stay : ∃ s', (E ⟨ks, fr, st, kn⟩ = K s' ∨ E ⟨ks, fr, st, kn⟩ = E s') ∧ (XK P n n0 loose Q s' → XK P n n0 loose Q ⟨ks, fr, st, kn⟩) := ⟨_, .inr rfl, id⟩
 have go : ∀ s', (XK P n n0 loose Q s' → XK P n n0 loose Q ⟨ks, fr, st, kn⟩) → ∃ s2, (K s' = K s2 ∨ K s' = E s2) ∧ (XK P n n0 loose Q s2 → XK P n n0 loose Q ⟨ks, fr, st, kn⟩) := fun s' h => ⟨s', .inl rfl, h⟩
 unfold O4
 match ks, stay, go with
 | [], stay, go => exact stay
 | .b id :: k, stay, go => exact go _ (fun h => h)
 | .r x j :: k, stay, go =>
  cases j with
  | zero => exact stay
  | succ j => exact go _ (fun h => h)
 | .c x :: k, stay, go =>
  cases x with
  | skip => exact go _ (fun h => XW.skip rfl h)
  | seq a b =>
   refine go _ (fun h => XW.seq (x := a) (y := b) rfl fun K hK => ?_)
   refine XW.mono (show XW P n n0 loose a (jK (XW P n n0 loose b (QK P n n0 loose k Q)) (QK P n n0 loose k Q)) fr st from h) ?_
   intro e f s hq
   cases e with
   | normal => exact hK _ _ hq
   | _ => exact hq
  | block id a => exact go _ (fun h => XW.block rfl h)
  | region id ops d =>
   cases d with
   | true => exact stay
   | false => exact go _ (fun h => XO.region rfl h)
  | cond o a b =>
   simp only
   split
   ·split
    ·rename_i t hx
     cases t with
     | true => exact go _ (fun h => XW.cond (n := n) rfl hx (fun _ => h) (fun h => nomatch h))
     | false => exact go _ (fun h => XW.cond (n := n) rfl hx (fun h => nomatch h) (fun _ => h))
    ·exact stay
   ·exact stay
  | exit id =>
   simp only
   split
   ·rename_i k' hk
    exact go _ (fun h => XW.exit rfl (tQ hk h))
   ·exact stay
  | _ => exact stay
 | .o ops l :: k, stay, go =>
  cases l with
  | nil => exact go _ (fun h => XO.nil h)
  | cons o l' =>
   simp only
   cases hu : AD u o with
   | true => exact stay
   | false =>
    simp only [cond_false]
    split
    ·rename_i hg
     have hg := qA hg
     split
     ·rename_i av st' hq
      obtain ⟨ob, hs', he, hob⟩ := Eq hq
      rw [Ib]
      rcases lp (n := n) o.dst av fr (fun fr' => wa (xd kn o fr) o.dst kn fun kn' => K ⟨.o ops l' :: k, fr', st', kn'⟩) (E ⟨.o ops (o :: l') :: k, fr, st, kn⟩) with ⟨fr', hp, e⟩ | e
      ·rw [e]
       obtain ⟨kn', ek⟩ := na (xd kn o fr) o.dst kn fun kn' => K ⟨.o ops l' :: k, fr', st', kn'⟩
       rw [ek]; exact go _ (fun h => XO.op hg he hob hp h)
      ·rw [e]; exact stay
     ·exact stay
    ·rename_i hg
     have hg := qA hg
     rcases lp (n := n) o.dst (.tp []) fr (fun fr' => wa false o.dst kn fun kn' => K ⟨.o ops l' :: k, fr', st, kn'⟩) (E ⟨.o ops (o :: l') :: k, fr, st, kn⟩) with ⟨fr', hp, e⟩ | e
     ·rw [e]
      obtain ⟨kn', ek⟩ := na false o.dst kn fun kn' => K ⟨.o ops l' :: k, fr', st, kn'⟩
      rw [ek]; exact go _ (fun h => XO.opN hg hp h)
     ·rw [e]; exact stay
    ·exact stay
 | .d ops l :: k, stay, go =>
  cases l with
  | nil => exact go _ (fun h => ⟨fr, DX.done rfl, h⟩)
  | cons o l' =>
   simp only
   cases hu : AD u o with
   | true => exact stay
   | false =>
    simp only [cond_false]
    split
    ·rename_i hg
     have hg := qA hg
     cases hqq : jU o.op with
     | false => exact stay
     | true =>
      simp only [cond_true]
      split
      ·rename_i av st' hq
       obtain ⟨ob, hs', he, hob⟩ := Eq hq
       have hmu : sA [] o = false := by unfold sA; split <;> rfl
       rw [hmu] at he
       rw [Ib]
       rcases lp (n := n) o.dst av fr (fun fr' => wa (xd kn o fr) o.dst kn fun kn' => K ⟨.d ops l' :: k, fr', st, kn'⟩) (E ⟨.d ops (o :: l') :: k, fr, st, kn⟩) with ⟨fr', hp, e⟩ | e
       ·rw [e]
        obtain ⟨kn', ek⟩ := na (xd kn o fr) o.dst kn fun kn' => K ⟨.d ops l' :: k, fr', st, kn'⟩
        rw [ek]
        exact go _ (fun ⟨fr2, h1, h2⟩ => ⟨fr2, DX.cons hp (.inl ⟨hg, Yd.ev hqq he hob⟩) h1, h2⟩)
       ·rw [e]; exact stay
      ·exact stay
    ·rename_i hg
     have hg := qA hg
     rcases lp (n := n) o.dst (.tp []) fr (fun fr' => wa false o.dst kn fun kn' => K ⟨.d ops l' :: k, fr', st, kn'⟩) (E ⟨.d ops (o :: l') :: k, fr, st, kn⟩) with ⟨fr', hp, e⟩ | e
     ·rw [e]
      obtain ⟨kn', ek⟩ := na false o.dst kn fun kn' => K ⟨.d ops l' :: k, fr', st, kn'⟩
      rw [ek]
      exact go _ (fun ⟨fr2, h1, h2⟩ => ⟨fr2, DX.cons hp (.inr ⟨hg, rfl⟩) h1, h2⟩)
     ·rw [e]; exact stay
    ·exact stay
 | .g X ops l tw :: k, stay, go =>
  cases l with
  | nil =>
   simp only
   cases ht : HY ops X tw with
   | false => exact stay
   | true => exact go _ (fun h => GK.nil ht h)
  | cons o l' =>
   simp only
   cases hu : AD u o with
   | true => exact stay
   | false =>
    simp only [cond_false]
    split
    ·rename_i hg
     have hg := qA hg
     cases hqq : (jU o.op && !sA an o) with
     | false =>
      simp only [cond_false]
      split
      ·rename_i fr' T W st' hw
       simp only [rU, pm]
       obtain ⟨kn', ek⟩ := na false o.dst kn fun kn' => K ⟨.g X ops l' (tw ++ [(T, W)]) :: k, fr', st', kn'⟩
       rw [ek]
       exact go _ (fun h => GK.w hw h)
      ·exact stay
     | true =>
      simp only [cond_true]
      rw [Bool.and_eq_true] at hqq
      split
      ·rename_i av st' hq
       obtain ⟨ob, hs', he, hob⟩ := Eq hq
       have hmu : sA [] o = false := by unfold sA; split <;> rfl
       rw [hmu] at he
       rw [Ib]
       cases hc : C4 ops X o fr av with
       | false => exact stay
       | true =>
        simp only [cond_true]
        rcases lp (n := n) o.dst av fr (fun fr' => wa (xd kn o fr) o.dst kn fun kn' => K ⟨.g X ops l' (tw ++ [(oD ops X o fr, [])]) :: k, fr', st, kn'⟩) (E ⟨.g X ops (o :: l') tw :: k, fr, st, kn⟩) with ⟨fr', hp, e⟩ | e
        ·rw [e]
         obtain ⟨kn', ek⟩ := na (xd kn o fr) o.dst kn fun kn' => K ⟨.g X ops l' (tw ++ [(oD ops X o fr, [])]) :: k, fr', st, kn'⟩
         rw [ek]
         exact go _ (fun h => GK.yd (pZ hp) hc (.inl ⟨hg, Yd.ev hqq.1 he hob⟩) h)
        ·rw [e]; exact stay
      ·exact stay
    ·rename_i hg
     have hg := qA hg
     cases hc : C4 ops X o fr (.tp []) with
     | false => exact stay
     | true =>
      simp only [cond_true]
      rcases lp (n := n) o.dst (.tp []) fr (fun fr' => wa false o.dst kn fun kn' => K ⟨.g X ops l' (tw ++ [(oD ops X o fr, [])]) :: k, fr', st, kn'⟩) (E ⟨.g X ops (o :: l') tw :: k, fr, st, kn⟩) with ⟨fr', hp, e⟩ | e
      ·rw [e]
       obtain ⟨kn', ek⟩ := na false o.dst kn fun kn' => K ⟨.g X ops l' (tw ++ [(oD ops X o fr, [])]) :: k, fr', st, kn'⟩
       rw [ek]
       exact go _ (fun h => GK.yd (pZ hp) hc (.inr ⟨hg, rfl⟩) h)
      ·rw [e]; exact stay
    ·exact stay
def G8 {β : Type} (P : Program) (n : Nat) (an : List Nat) (u : Option Nat) : Nat → SS → (SS → β) → β
 | 0, s, E => E s
 | f + 1, s, E => O4 P n an u s (fun s' => G8 P n an u f s' E) E
theorem wb {an : List Nat} {u : Option Nat} {Q : QT} {β : Type} : ∀ (f : Nat) (s : SS) (E : SS → β), ∃ s', G8 P n an u f s E = E s' ∧ (XK P n n0 loose Q s' → XK P n n0 loose Q s)
 | 0, s, E => ⟨s, rfl, id⟩
 | f + 1, s, E => by
  simp only [G8]
  obtain ⟨s', h1, h2⟩ := Hg (n0 := n0) (loose := loose) (Q := Q) (P := P) (n := n) (an := an) (u := u) s (fun s' => G8 P n an u f s' E) E
  rcases h1 with h1 | h1
  ·obtain ⟨s2, k1, k2⟩ := wb f s' E
   exact ⟨s2, h1.trans k1, fun h => h2 (k2 h)⟩
  ·exact ⟨s', h1, h2⟩
def run (P : Program) (n : Nat) (an : List Nat) (s : SS) : SS := G8 P n an none 4000 s id
def Ae (P : Program) (n : Nat) (an : List Nat) (d : Nat) (s : SS) : SS := G8 P n an (some d) 4000 s id
theorem bM {an : List Nat} {Q : QT} {s : SS} (h : XK P n n0 loose Q (run P n an s)) : XK P n n0 loose Q s := by
 obtain ⟨s', h1, h2⟩ := wb (n0 := n0) (loose := loose) (Q := Q) (P := P) (n := n) (an := an) (u := none) 4000 s id
 unfold run at h
 rw [h1] at h
 exact h2 h
theorem sr {an : List Nat} {d : Nat} {Q : QT} {s : SS} (h : XK P n n0 loose Q (Ae P n an d s)) : XK P n n0 loose Q s := by
 obtain ⟨s', h1, h2⟩ := wb (n0 := n0) (loose := loose) (Q := Q) (P := P) (n := n) (an := an) (u := some d) 4000 s id
 unfold Ae at h
 rw [h1] at h
 exact h2 h
end
end Go.SX
namespace Go.SX
open Go
theorem fj.at1 {μ : Nat → Prop} {w : World} {v : Value} {els : List (List PV)} {i off : Nat} {c : List PV} (h : fj μ w v (.rp els i off)) (hc : els[i]? = some c) : fj μ w v (.rp [c] 0 off) := by
 cases h with
 | rp a sz _ _ _ vf hsz hb hcell hv =>
  have hm := List.mem_of_getElem? hc
  have hne : els ≠ [] := fun e => by subst e; simp at hc
  have e1 : a.add (i * sz + off) = (a.add (i * sz)).add (0 * sz + off) := by rw [rc]; simp
  rw [e1]
  refine .rp (a.add (i * sz)) sz [c] 0 off (fun _ j => vf i j) (fun e he => by simp at he; subst he; exact hsz _ hm) (fun _ => by rw [nu]; exact hb hne) ?_ ?_
  ·intro i' e j p h1 h2
   cases i' with
   | zero =>
    simp at h1; subst h1
    rw [rc]
    have := hcell i c j p hc h2
    rw [show i * sz + (0 * sz + j) = i * sz + j by simp]
    exact this
   | succ i' => simp at h1
  ·intro i' e j p h1 h2
   cases i' with
   | zero => simp at h1; subst h1; exact hv i c j p hc h2
   | succ i' => simp at h1
section
variable {P : Program} {n n0 : Nat} {loose an : List Nat} {Q Q1 : QT} {α β : Type} {T x y : Option β} {r : β} {s : SS}
structure GG (P : Program) (n n0 : Nat) (loose an : List Nat) {β : Type} (r : β) (Q : QT) (T : Option β) (s : SS) : Prop where
 go : T = some r → XK P n n0 loose Q s
instance : CoeFun (GG P n n0 loose an r Q T s) (fun _ => T = some r → XK P n n0 loose Q s) := ⟨GG.go⟩
theorem Yd.le {st : St} {o : Oper} {f : Fr} {av av' : AV} (h : Yd P n st o f av) (hl : ∀ ι w v, aD ι w st v av → aD ι w st v av') : Yd P n st o f av' :=
 fun ι w a hR hF K Q hK => h ι w a hR hF K Q fun v w' ι' h1 h2 h3 => hK v w' ι' (hl _ _ _ h1) h2 h3
def vp (s : SS) : Option (Oper × Fr) :=
 match s.ks with
 | .o ops (o :: _) :: _ => (match JM ops s.kn o s.fr with
  | some true => some (o, s.fr)
  | _ => none)
 | .d ops (o :: _) :: _ => (match JM ops s.kn o (cw ops o s.fr) with
  | some true => some (o, cw ops o s.fr)
  | _ => none)
 | .g _ ops (o :: _) _ :: _ => (match JM ops s.kn o (cw ops o s.fr) with
  | some true => some (o, cw ops o s.fr)
  | _ => none)
 | _ => none
def zP (s : SS) : St := match s.ks with
 | .g X ops (o :: _) _ :: _ => j0 (aM (oD ops X o s.fr)) 0 s.st
 | _ => s.st
def xm (n : Nat) (av : AV) (s : SS) : SS :=
 match s with
 | ⟨.o ops (o :: l) :: k, fr, st, kn⟩ => fA av fun av => tC n o.dst av fr (fun fr' => wa false o.dst kn fun kn' => ⟨.o ops l :: k, fr', st, kn'⟩) s
 | ⟨.d ops (o :: l) :: k, fr, st, kn⟩ => fA av fun av => tC n o.dst av fr (fun fr' => wa false o.dst kn fun kn' => ⟨.d ops l :: k, fr', st, kn'⟩) s
 | ⟨.g X ops (o :: l) tw :: k, fr, st, kn⟩ => fA av fun av => bif C4 ops X o fr av then tC n o.dst av fr (fun fr' => wa false o.dst kn fun kn' => ⟨.g X ops l (tw ++ [(oD ops X o fr, [])]) :: k, fr', st, kn'⟩) s else s
 | s => s
theorem XO.yd {ops : Array Oper} {o : Oper} {l : List Oper} {fr fr' : Fr} {st : St} {av : AV} (hg : cY ops o fr = some true) (h : Yd P n st o fr av) (hp : sv n o.dst av fr = some fr')
  (k : XO P n n0 loose ops l Q fr' st) : XO P n n0 loose ops (o :: l) Q fr st := by
 intro ι w a hR hF
 have hw := dU hg hF
 refine wpList_step fun K hK => ?_
 rw [if_pos hw]
 refine h ι w a hR hF K _ fun v w' ι' hv hR' kk => ?_
 exact hK _ _ (gK (fun e a w h => h.trans (kk.weaken (fun _ _ => trivial))) (k ι' w' _ hR' (mz hp (hF.mono' kk) hv)))
theorem lR {o : Oper} {f : Fr} {av : AV} (he : vp s = some (o, f)) (h : Yd P n (zP s) o f av) (k : XK P n n0 loose Q (xm n av s)) : XK P n n0 loose Q s := by
 obtain ⟨ks, fr, st, kn⟩ := s
 match ks, he with
 | .o ops (o' :: l) :: ks, he =>
  simp only [vp] at he
  split at he
  ·rename_i hg
   have hg := qA hg
   simp only [Option.some.injEq, Prod.mk.injEq] at he
   obtain ⟨rfl, rfl⟩ := he
   simp only [xm, ug] at k
   rcases lp (n := n) o'.dst av fr (fun fr' => wa false o'.dst kn fun kn' => (⟨.o ops l :: ks, fr', st, kn'⟩ : SS)) ⟨.o ops (o' :: l) :: ks, fr, st, kn⟩ with ⟨fr', hp, e⟩ | e
   ·obtain ⟨kn', ek⟩ := na false o'.dst kn fun kn' => (⟨.o ops l :: ks, fr', st, kn'⟩ : SS)
    rw [e, ek] at k; exact XO.yd hg h hp k
   ·rw [e] at k; exact k
  ·cases he
 | .d ops (o' :: l) :: ks, he =>
  simp only [vp] at he
  split at he
  ·rename_i hg
   have hg := qA hg
   simp only [Option.some.injEq, Prod.mk.injEq] at he
   obtain ⟨rfl, rfl⟩ := he
   simp only [xm, ug] at k
   rcases lp (n := n) o'.dst av fr (fun fr' => wa false o'.dst kn fun kn' => (⟨.d ops l :: ks, fr', st, kn'⟩ : SS)) ⟨.d ops (o' :: l) :: ks, fr, st, kn⟩ with ⟨fr', hp, e⟩ | e
   ·obtain ⟨kn', ek⟩ := na false o'.dst kn fun kn' => (⟨.d ops l :: ks, fr', st, kn'⟩ : SS)
    rw [e, ek] at k
    obtain ⟨fr2, k1, k2⟩ := k
    exact ⟨fr2, DX.cons hp (.inl ⟨hg, h⟩) k1, k2⟩
   ·rw [e] at k; exact k
  ·cases he
 | .g X ops (o' :: l) tw :: ks, he =>
  simp only [vp] at he
  split at he
  ·rename_i hg
   have hg := qA hg
   simp only [Option.some.injEq, Prod.mk.injEq] at he
   obtain ⟨rfl, rfl⟩ := he
   simp only [xm, ug] at k
   cases hc : C4 ops X o' fr av with
   | false => simp only [hc, cond_false] at k; exact k
   | true =>
    simp only [hc, cond_true] at k
    rcases lp (n := n) o'.dst av fr (fun fr' => wa false o'.dst kn fun kn' => (⟨.g X ops l (tw ++ [(oD ops X o' fr, [])]) :: ks, fr', st, kn'⟩ : SS)) ⟨.g X ops (o' :: l) tw :: ks, fr, st, kn⟩ with ⟨fr', hp, e⟩ | e
    ·obtain ⟨kn', ek⟩ := na false o'.dst kn fun kn' => (⟨.g X ops l (tw ++ [(oD ops X o' fr, [])]) :: ks, fr', st, kn'⟩ : SS)
     rw [e, ek] at k
     exact GK.yd (pZ hp) hc (.inl ⟨hg, h⟩) k
    ·rw [e] at k; exact k
  ·cases he
def vr : List It → Bool
 | .c _ :: _ => true
 | .o _ _ :: _ => true
 | .b _ :: k => vr k
 | _ => false
theorem QK.sub {fr' : Fr} {st' : St} : ∀ {ks : List It} {fr : Fr} {st : St}, vr ks = true → oj n n0 loose fr st fr' st' → QK P n n0 loose ks Q .normal fr' st' → QK P n n0 loose ks Q .normal fr st
 | .c _ :: _, _, _, _, hs, h => XW.sub hs h
 | .o _ _ :: _, _, _, _, hs, h => XO.sub hs h
 | .b _ :: k, _, _, ht, hs, h => QK.sub (ks := k) (by simpa [vr] using ht) hs h
theorem XK.sub {fr' fr : Fr} {st' st : St} {ks : List It} {kn kn' : List Nat} (ht : vr ks = true) (hs : oj n n0 loose fr st fr' st') (h : XK P n n0 loose Q ⟨ks, fr', st', kn'⟩) : XK P n n0 loose Q ⟨ks, fr, st, kn⟩ := QK.sub ht hs h
def EF (d : Nat) (av : AV) : Fr → Fr
 | [] => []
 | (t, a) :: f => bif Nat.beq t d then (t, av) :: f else (t, a) :: EF d av f
theorem Fb (d : Nat) : ∀ f : Fr, EF d (lk f d) f = f
 | [] => rfl
 | (t, a) :: f => by
  simp only [EF, lk]
  cases hb : Nat.beq t d with
  | true => rfl
  | false => simp only [cond_false]; rw [Fb d f]
def F4 {β : Type} (d : Nat) (av : AV) : Fr → (Fr → β) → β
 | [], K => K []
 | (t, a) :: f, K => bif Nat.beq t d then K ((t, av) :: f) else F4 d av f fun f => K ((t, a) :: f)
theorem wX {β : Type} (d : Nat) (av : AV) : ∀ (f : Fr) (K : Fr → β), F4 d av f K = K (EF d av f)
 | [], K => rfl
 | (t, a) :: f, K => by
  simp only [F4, EF]
  cases Nat.beq t d with
  | true => rfl
  | false => simp only [cond_false]; exact wX d av f _
def NM (kn : List Nat) (o : Oper) : Option Nat := match o.op with
 | .pick (.tmp c) _ _ => bif kn.any (Nat.beq c) then none else some c
 | _ => none
def Pu (ops : Array Oper) (kn : List Nat) (o : Oper) : Option Nat := match o.guard with
 | some (j, _) => (match (ops[j]?).bind (·.dst) with
  | some d => bif kn.any (Nat.beq d) then NM kn o else some d
  | none => none)
 | none => NM kn o
def MO (s : SS) : Option Nat := match s.ks with
 | .o ops (o :: _) :: _ => Pu ops s.kn o
 | .d ops (o :: _) :: _ => Pu ops s.kn o
 | .g _ ops (o :: _) _ :: _ => Pu ops s.kn o
 | _ => none
def bool? (a : AV) : Option Bool := match a with
 | .one (.pv (.s (.bool t))) => some t
 | _ => none
theorem bool?_eq {a : AV} {t : Bool} (h : bool? a = some t) : a = vb t := by
 unfold bool? at h
 split at h
 ·simp only [Option.some.injEq] at h; subst h; rfl
 ·cases h
def Jf (s : SS) : Option Bool :=
 match s.ks with
 | .c (.cond o _ _) :: _ => bool? (rv s.fr o)
 | _ => (match MO s with
  | some d => bool? (lk s.fr d)
  | none => none)
def JK (t : Bool) (s : SS) : SS :=
 match s with
 | ⟨ks, fr, st, kn⟩ => match ks with
  | .c (.cond o a b) :: k => (match t with
   | true => ⟨.c a :: k, fr, st, kn⟩
   | false => ⟨.c b :: k, fr, st, kn⟩)
  | ks => (match MO ⟨ks, fr, st, kn⟩ with
   | some d => F4 d (vb t) fr fun fr => ⟨ks, fr, st, d :: kn⟩
   | none => ⟨ks, fr, st, kn⟩)
theorem Ol {ks : List It} {fr : Fr} {st : St} {kn : List Nat} {d : Nat} {t : Bool} (hd : MO ⟨ks, fr, st, kn⟩ = some d) : JK t ⟨ks, fr, st, kn⟩ = ⟨ks, EF d (vb t) fr, st, d :: kn⟩ := by
 cases ks with
 | nil => simp [MO] at hd
 | cons x k =>
  cases x with
  | c x => simp [MO] at hd
  | b => simp [MO] at hd
  | r => simp [MO] at hd
  | o ops l => simp only [JK, hd, wX]
  | d ops l => simp only [JK, hd, wX]
  | g X ops l tw => simp only [JK, hd, wX]
theorem ww {t : Bool} (he : Jf s = some t) (k : XK P n n0 loose Q (JK t s)) : XK P n n0 loose Q s := by
 obtain ⟨ks, fr, st, kn⟩ := s
 unfold Jf at he
 split at he
 ·rename_i o a b ks' hk
  simp only at hk
  subst hk
  have hx := bool?_eq he
  simp only [JK] at k
  refine XW.cond (n := n) rfl hx (fun h => ?_) (fun h => ?_)
  ·subst h; exact k
  ·subst h; exact k
 ·rename_i hk
  split at he
  ·rename_i d hd
   have hx := bool?_eq he
   rw [Ol hd, ← hx] at k
   have k : QK P n n0 loose ks Q .normal (EF d (lk fr d) fr) st := k
   rw [Fb] at k
   exact k
  ·cases he
theorem uC {t : Bool} (ht : GG P n n0 loose an r Q x (JK true (run P n an s))) (hf : GG P n n0 loose an r Q y (JK false (run P n an s)))
  (he : Jf (run P n an s) = some t := by kernel_rfl) : GG P n n0 loose an r Q (aq t x y) s := by
 refine ⟨fun h => ?_⟩
 refine bM (an := an) ?_
 cases t with
 | true => exact ww he (ht h)
 | false => exact ww he (hf h)
theorem uT (k : GG P n n0 loose an r Q T (JK true (run P n an s))) (he : Jf (run P n an s) = some true := by kernel_rfl) : GG P n n0 loose an r Q T s :=
 ⟨fun h => bM (an := an) (ww he (k h))⟩
theorem uF (k : GG P n n0 loose an r Q T (JK false (run P n an s))) (he : Jf (run P n an s) = some false := by kernel_rfl) : GG P n n0 loose an r Q T s :=
 ⟨fun h => bM (an := an) (ww he (k h))⟩
theorem uI {t : Bool} (ht : t = true → GG P n n0 loose an r Q x s) (hf : t = false → GG P n n0 loose an r Q y s) : GG P n n0 loose an r Q (aq t x y) s := by
 refine ⟨fun h => ?_⟩
 cases t with
 | true => exact ht rfl h
 | false => exact hf rfl h
theorem iE {o : Option β} {p : Prop} (e : o = none) (h : o = some r) : p := by rw [e] at h; cases h
theorem Qe : GG P n n0 loose an r Q (none : Option β) s := ⟨fun h =>
 nomatch h⟩
def PQ (s : SS) : Option Nat := match vp s with
 | some (o, _) => (match o.op with
  | .indexAddr _ _ (.tmp t) => some t
  | .index _ _ (.tmp t) => some t
  | _ => none)
 | none => none
def Qz (s : SS) : Option (IntKind × Int) := match PQ s with
 | some t => (match lk s.fr t with
  | .one (.pv (.s (.int k m))) => some (k, m)
  | _ => none)
 | none => none
def Cd (P : Program) (s : SS) : Option (AV × List Prop) :=
 match vp s with
 | some (o, f) => bif jU o.op then (match ev P false o f (zP s) (Ho o f) with
  | some out => some (out.av, out.ob)
  | none => none) else none
 | none => none
theorem EQ {av : AV} {ob : List Prop} (he : Cd P s = some (av, ob)) (hob : gb ob) : ∃ o f, vp s = some (o, f) ∧ Yd P n (zP s) o f av := by
 unfold Cd at he
 split at he
 ·rename_i o f hd
  cases hq : jU o.op with
  | false => simp [hq] at he
  | true =>
   simp only [hq, cond_true] at he
   split at he
   ·rename_i out hev
    simp only [Option.some.injEq, Prod.mk.injEq] at he
    obtain ⟨rfl, rfl⟩ := he
    exact ⟨o, f, hd, Yd.ev hq hev hob⟩
   ·cases he
 ·cases he
theorem uV (av av' : AV) {ob : List Prop} (hob : gb ob) (hav : av = av') (k : GG P n n0 loose an r Q T (xm n av' (run P n an s))) (he : Cd P (run P n an s) = some (av, ob)) : GG P n n0 loose an r Q T s := by
 refine ⟨fun h => ?_⟩
 obtain ⟨o, f, h1, h2⟩ := EQ (n := n) he hob
 subst hav
 exact bM (an := an) (lR h1 h2 (k h))
def OP (P : Program) (s : SS) : AV := match Cd P s with
 | some (av, _) => av
 | none => .j
def OV (P : Program) (s : SS) : Option (List Prop) := match Cd P s with
 | some (_, ob) => some ob
 | none => none
theorem OC {ob : List Prop} (h : OV P s = some ob) : Cd P s = some (OP P s, ob) := by
 unfold OV at h
 unfold OP
 split at h
 ·rename_i av ob' he
  simp only [Option.some.injEq] at h
  subst h
  rw [he]
 ·cases h
def PM (P : Program) (s : SS) : Option AV :=
 match vp s with
 | some (o, f) => bif jU o.op then (match ev P false o f (zP s) (Ho o f) with
  | some out => (match out.ob with
   | [] => some out.av
   | _ => bif Nm P s.kn o f then some out.av else none)
  | none => none) else none
 | none => none
theorem Ml {av : AV} (he : PM P s = some av) : ∃ o f, vp s = some (o, f) ∧ Yd P n (zP s) o f av := by
 unfold PM at he
 split at he
 ·rename_i o f hd
  cases hq : jU o.op with
  | false => simp [hq] at he
  | true =>
   simp only [hq, cond_true] at he
   split at he
   ·rename_i out hev
    have hob : gb out.ob ∧ out.av = av := by
     split at he
     ·rename_i hob
      rw [hob]
      exact ⟨trivial, Option.some.inj he⟩
     ·cases hb : Nm P s.kn o f with
      | false => simp [hb] at he
      | true => rw [hb] at he; exact ⟨IL hb hev, Option.some.inj he⟩
    rw [← hob.2]
    exact ⟨o, f, hd, Yd.ev hq hev hob.1⟩
   ·cases he
 ·cases he
theorem uY (d : Nat) {e : α} (m : α → AV) {f : α → Option β} (k : ∀ y, GG P n n0 loose an r Q (f y) (xm n (m y) (Ae P n an d s)))
  (he : PM P (Ae P n an d s) = some (m e) := by kernel_rfl) : GG P n n0 loose an r Q (aw (some e) f) s := by
 refine ⟨fun h => ?_⟩
 obtain ⟨o, g, h1, h2⟩ := Ml (n := n) he
 exact sr (lR h1 h2 (k e h))
theorem Ns (d : Nat) {e : α} {p : Prop} [Decidable p] (m : α → AV) {f : α → Option β} (k : ∀ y, GG P n n0 loose an r Q (f y) (xm n (m y) (Ae P n an d s)))
  (he : Cd P (Ae P n an d s) = some (m e, [p]) := by kernel_rfl) : GG P n n0 loose an r Q (cr p (aw (some e) f)) s := by
 refine ⟨fun h => ?_⟩
 obtain ⟨hp, h⟩ := dB h
 obtain ⟨o, g, h1, h2⟩ := EQ (n := n) he ⟨hp, trivial⟩
 exact sr (lR h1 h2 (k e h))
theorem uG {p : Prop} [Decidable p] (k : GG P n n0 loose an r Q x (xm n (OP P (run P n an s)) (run P n an s))) (he : OV P (run P n an s) = some [p] := by kernel_rfl) : GG P n n0 loose an r Q (cr p x) s := by
 refine ⟨fun h => ?_⟩
 obtain ⟨hp, h⟩ := dB h
 exact uV _ _ (ob := [p]) ⟨hp, trivial⟩ rfl k (OC he) h
def Kr (P : Program) (s : SS) : Option (List (List PV) × Int × Nat) :=
 match vp s with
 | some (o, f) => (match o.op with
  | .indexAddr t x i => (match P.underlying t, rv f x, rv f i with
   | some (.slice e), .one (.pv (.ro els)), .one (.pv (.s (.int _ m))) => (match xf P e with
    | some es => some (els, m, es)
    | none => none)
   | _, _, _ => none)
  | _ => none)
 | none => none
theorem Lr {els : List (List PV)} {i : Int} {es : Nat} {c : List PV} (he : Kr P s = some (els, i, es)) (h : 0 ≤ i ∧ i < (els.length : Int) ∧ dX es els) (hc : els[i.toNat]? = some c) :
  ∃ o f, vp s = some (o, f) ∧ Yd P n (zP s) o f (.one (.pv (.rp [c] 0 0))) := by
 unfold Kr at he
 split at he
 ·rename_i o f hd
  refine ⟨o, f, hd, ?_⟩
  split at he
  ·rename_i t x i' ho
   split at he
   ·rename_i e els' k m hu hx hi
    split at he
    ·rename_i es' hes
     simp only [Option.some.injEq, Prod.mk.injEq] at he
     obtain ⟨rfl, rfl, rfl⟩ := he
     have hev : ev P false o f (zP s) [] = some ⟨.one (.pv (.rp els' m.toNat 0)), zP s, [0 ≤ m ∧ m < (els'.length : Int) ∧ dX es' els'], [], none⟩ := by
      unfold ev
      simp only [ho, hx, hi, Hf, hu, hes]
     refine (Yd.ev (by rw [ho]; rfl) hev ⟨h, trivial⟩).le ?_
     intro ι w v hv
     cases kN hv with
     | pv _ _ hp => exact .one _ _ (.pv _ _ (hp.at1 hc))
    ·cases he
   ·cases he
  ·cases he
 ·cases he
theorem uL (E : pr α) {xs : List α} {i : Int} {f : α → Option β} (k : ∀ e, at? xs i = some e → GG P n n0 loose an r Q (f e) (xm n (.one (.pv (.rp [E.cells e] 0 0))) (run P n an s)))
  (he : Kr P (run P n an s) = some (E.els xs, i, E.sz) := by kernel_rfl) : GG P n n0 loose an r Q (aw (at? xs i) f) s := by
 refine ⟨fun h => ?_⟩
 obtain ⟨e, ha, h⟩ := lG h
 obtain ⟨o, g, h1, h2⟩ := Lr (n := n) he (E.inb ha) (E.get ha)
 exact bM (an := an) (lR h1 h2 (k e ha h))
theorem uM (E : pr α) {xs : List α} {i : Int} {e : α} (ha : at? xs i = some e) (k : GG P n n0 loose an r Q T (xm n (.one (.pv (.rp [E.cells e] 0 0))) (run P n an s)))
  (he : Kr P (run P n an s) = some (E.els xs, i, E.sz) := by kernel_rfl) : GG P n n0 loose an r Q T s := by
 refine ⟨fun h => ?_⟩
 obtain ⟨o, g, h1, h2⟩ := Lr (n := n) he (E.inb ha) (E.get ha)
 exact bM (an := an) (lR h1 h2 (k h))
theorem uA (av : AV) (k : GG P n n0 loose an r Q T (xm n av (run P n an s))) (he : Cd P (run P n an s) = some (av, []) := by kernel_rfl) : GG P n n0 loose an r Q T s :=
 uV av av (ob := []) trivial rfl k he
theorem GO (E : pr α) {xs : List α} (k : GG P n n0 loose an r Q x (xm n (OP P (run P n an s)) (run P n an s))) (he : OV P (run P n an s) = some [E.els xs ≠ []] := by kernel_rfl) : GG P n n0 loose an r Q (cr (xs ≠ []) x) s := by
 refine ⟨fun h => ?_⟩
 obtain ⟨hp, h⟩ := dB h
 exact uV _ _ (ob := [_]) ⟨E.ne hp, trivial⟩ rfl k (OC he) h
theorem uN (E : pr α) (xs : List α) (k : GG P n n0 loose an r Q T (xm n (vi (xs.length : Int)) (run P n an s)))
  (he : Cd P (run P n an s) = some (vi ((E.els xs).length : Int), []) := by kernel_rfl) : GG P n n0 loose an r Q T s :=
 uV _ _ (ob := []) trivial (by rw [E.len]) k he
theorem uX (E : pr α) {xs : List α} {a b : Int} (k : GG P n n0 loose an r Q x (xm n (vl E ((xs.drop a.toNat).take (b.toNat - a.toNat))) (run P n an s)))
  (he : Cd P (run P n an s) = some (.one (.pv (.ro (((E.els xs).drop a.toNat).take (b.toNat - a.toNat)))), [(0 ≤ a ∧ a ≤ b ∧ b ≤ ((E.els xs).length : Int)) ∧ dX E.sz (E.els xs)]) := by kernel_rfl) :
  GG P n n0 loose an r Q (cr (0 ≤ a ∧ a ≤ b ∧ b ≤ (xs.length : Int)) x) s := by
 refine ⟨fun h => ?_⟩
 obtain ⟨hp, h⟩ := dB h
 exact uV _ _ (ob := [_]) ⟨E.cutOk hp, trivial⟩ (by rw [E.cut]) k he h
theorem Pn (E : pr α) {xs : List α} {a : Int} (k : GG P n n0 loose an r Q x (xm n (vl E (xs.drop a.toNat)) (run P n an s)))
  (he : Cd P (run P n an s) = some (.one (.pv (.ro (((E.els xs).drop a.toNat).take ((E.els xs).length - a.toNat)))), [(0 ≤ a ∧ a ≤ ((E.els xs).length : Int) ∧ ((E.els xs).length : Int) ≤ ((E.els xs).length : Int)) ∧ dX E.sz (E.els xs)]) := by kernel_rfl) :
  GG P n n0 loose an r Q (cr (0 ≤ a ∧ a ≤ (xs.length : Int)) x) s := by
 refine ⟨fun h => ?_⟩
 obtain ⟨hp, h⟩ := dB h
 exact uV _ _ (ob := [_]) ⟨E.cutHiOk hp, trivial⟩ (by rw [E.cutHi]) k he h
theorem PO (E : pr α) {xs : List α} {a b m : Int} (k : GG P n n0 loose an r Q x (xm n (vl E ((xs.drop a.toNat).take (b.toNat - a.toNat))) (run P n an s)))
  (he : Cd P (run P n an s) = some (.one (.pv (.ro (((E.els xs).drop a.toNat).take (b.toNat - a.toNat)))), [(0 ≤ a ∧ a ≤ b ∧ b ≤ m ∧ m ≤ ((E.els xs).length : Int)) ∧ dX E.sz (E.els xs)]) := by kernel_rfl) :
  GG P n n0 loose an r Q (cr (0 ≤ a ∧ a ≤ b ∧ b ≤ m ∧ m ≤ (xs.length : Int)) x) s := by
 refine ⟨fun h => ?_⟩
 obtain ⟨hp, h⟩ := dB h
 exact uV _ _ (ob := [_]) ⟨E.cutMOk hp, trivial⟩ (by rw [E.cut]) k he h
theorem uB (xs : List Int) (k : GG P n n0 loose an r Q T (xm n (vs (strOfNums xs)) (run P n an s)))
  (he : Cd P (run P n an s) = some (vs (si ((eK .u8).els xs)), [ux ((eK .u8).els xs)]) := by kernel_rfl) : GG P n n0 loose an r Q T s :=
 uV _ _ (ob := [_]) ⟨zC xs, trivial⟩ (by rw [Jh]) k he
theorem P7 (a : ByteArray) (k : GG P n n0 loose an r Q T (xm n (vl (eK .u8) (cK a)) (run P n an s)))
  (he : Cd P (run P n an s) = some (.one (.pv (.ro (ef a))), []) := by kernel_rfl) : GG P n n0 loose an r Q T s :=
 uV _ _ (ob := []) trivial (by rw [vR]) k he
def OZ (P : Program) (s : SS) : Option (Nat × List AV) :=
 match vp s with
 | some (o, f) => tY P o f
 | none => none
theorem Lp {g : Nat} {avs : List AV} {v : AV} (he : OZ P s = some (g, avs)) (h : PC P g avs v) (hp : rl avs = true) (hr : vz v = true) : ∃ o f, vp s = some (o, f) ∧ Yd P n (zP s) o f v := by
 unfold OZ at he
 split at he
 ·rename_i o f hd
  exact ⟨o, f, hd, Yd.call he h hp hr⟩
 ·cases he
def CT (P : Program) (f : Nat) (args : List AV) {β : Type} (T : Option β) (rv : β → AV) : Prop := ∀ r, T = some r → PC P f args (rv r)
theorem PW {α : Type} {o : Option α} {f : α → Option β} {g : Nat} {avs : List AV} {rv : α → AV} (c : CT P g avs o rv)
  (k : ∀ v, o = some v → GG P n n0 loose an r Q (f v) (xm n (rv v) (run P n an s)))
  (he : OZ P (run P n an s) = some (g, avs) := by kernel_rfl) (hp : rl avs = true := by kernel_rfl) (hr : ∀ v, vz (rv v) = true := by intro v; kernel_rfl) : GG P n n0 loose an r Q (aw o f) s := by
 refine ⟨fun h => ?_⟩
 obtain ⟨v, ho, h⟩ := lG h
 obtain ⟨o', f', h1, h2⟩ := Lp (n := n) he (c v ho) hp (hr v)
 exact bM (an := an) (lR h1 h2 (k v ho h))
def O2 : CV → CV
 | .pv (.s (.slice none 0 0)) => .pv (.ro [])
 | .cl els => .pv (.ro els)
 | c => c
def Nu : AV → AV
 | .one c => .one (O2 c)
 | .ag cs => .ag (cs.map O2)
 | a => a
theorem HC (c : CV) : Jg c (O2 c) := by
 unfold O2
 split
 ·exact .nl
 ·exact .cl _
 ·exact .rfl _
theorem JE (a : AV) : Gz a (Nu a) := by
 unfold Nu
 split
 ·exact .one (HC _)
 ·refine .ag (by simp) (fun i c c' h1 h2 => ?_)
  rw [List.getElem?_map, h1] at h2
  simp only [Option.map_some, Option.some.injEq] at h2
  subst h2
  exact HC c
 ·exact .rfl _
theorem xQ.refl : ∀ l : List AV, xQ l l
 | [] => trivial
 | a :: l => ⟨.rfl _, xQ.refl l⟩
theorem DE (l : List AV) : xQ l (l.map Nu) := by
 induction l with
 | nil => trivial
 | cons a l ih => exact ⟨JE a, ih⟩
def P4 (P : Program) (s : SS) : Option (Nat × List AV) := match OZ P s with
 | some (g, l) => bif rl l then some (g, l.map Nu) else none
 | none => none
theorem uP {α : Type} {o : Option α} {f : α → Option β} {g : Nat} {avs : List AV} {rv : α → AV} (c : CT P g avs o rv)
  (k : ∀ v, o = some v → GG P n n0 loose an r Q (f v) (xm n (rv v) (run P n an s)))
  (he : P4 P (run P n an s) = some (g, avs) := by kernel_rfl) (hr : ∀ v, vz (rv v) = true := by intro v; kernel_rfl) : GG P n n0 loose an r Q (aw o f) s := by
 refine ⟨fun h => ?_⟩
 obtain ⟨v, ho, h⟩ := lG h
 unfold P4 at he
 split at he
 ·rename_i g' l hq
  cases hp : rl l with
  | false => simp [hp] at he
  | true =>
   simp only [hp, cond_true, Option.some.injEq, Prod.mk.injEq] at he
   obtain ⟨rfl, rfl⟩ := he
   obtain ⟨o', f', h1, h2⟩ := Lp (n := n) hq ((c v ho).le (DE l)) hp (hr v)
   exact bM (an := an) (lR h1 h2 (k v ho h))
 ·cases he
structure KP (n n0 : Nat) (loose : List Nat) where
 p : Fr → St → Prop
 cl : ∀ {fr st fr' st'}, oj n n0 loose fr st fr' st' → p fr' st' → p fr st
theorem vH (Q : QT) : ∀ l1 l2 : List It, QK P n n0 loose (l1 ++ l2) Q = QK P n n0 loose l1 (QK P n n0 loose l2 Q)
 | [], l2 => rfl
 | .b _ :: l, l2 => by simp only [List.cons_append, QK, vH Q l l2]
 | .c _ :: l, l2 => by simp only [List.cons_append, QK, vH Q l l2]
 | .o _ _ :: l, l2 => by simp only [List.cons_append, QK, vH Q l l2]
 | .d _ _ :: l, l2 => by simp only [List.cons_append, QK, vH Q l l2]
 | .g _ _ _ _ :: l, l2 => by simp only [List.cons_append, QK, vH Q l l2]
 | .r _ _ :: l, l2 => by simp only [List.cons_append, QK, vH Q l l2]
theorem Ed (Q : QT) : jK (Q .normal) Q = Q := by funext e f s; cases e <;> rfl
def Li {α β : Type} : Nat → List α → (List α → β) → β
 | d + 1, x :: l, K => Li d l fun l => K (x :: l)
 | _, _, K => K []
def FX {α β : Type} : List α → List β → Bool
 | [], [] => true
 | _ :: l, _ :: m => FX l m
 | _, _ => false
def OS {β : Type} (l2 : List It) : List It → (List It → β) → β
 | [], K => K []
 | x :: l, K => bif FX l2 (x :: l) then K [] else OS l2 l fun l => K (x :: l)
def GJ (l2 : List It) : List It → List It
 | [] => []
 | x :: l => bif FX l2 (x :: l) then x :: l else GJ l2 l
theorem F8 {β : Type} (l2 : List It) : ∀ (l : List It) (K : List It → β), ∃ l1, OS l2 l K = K l1 ∧ l = l1 ++ GJ l2 l
 | [], K => ⟨[], rfl, rfl⟩
 | x :: l, K => by
  obtain ⟨l1, h1, h2⟩ := F8 l2 l (fun l => K (x :: l))
  unfold OS GJ
  cases hb : FX l2 (x :: l) with
  | true => exact ⟨[], rfl, rfl⟩
  | false => exact ⟨x :: l1, by simp only [cond_false, h1], by simp only [cond_false, List.cons_append]; rw [← h2]⟩
def OR (l2 : List It) (s : SS) : SS := match s with
 | ⟨ks, fr, st, kn⟩ => OS l2 ks fun ks => ⟨ks, fr, st, kn⟩
def MB : List Nat → Code → List It → List It
 | [], _, acc => acc
 | i :: p, c, acc => match c with
  | .seq a b => bif Nat.beq i 0 then MB p a (.c b :: acc) else MB p b acc
  | .block id a => MB p a (.b id :: acc)
  | .cond _ a b => bif Nat.beq i 0 then MB p a acc else MB p b acc
  | .loop x => MB p x []
  | _ => acc
def kS (fn : Func) (p : List Nat) (m : Nat) : List It := Li m (MB p (cd fn []) []) id
theorem E5 {l2 : List It} {s' : SS} (h : ∀ K : KP n n0 loose, (∀ {γ : Type} {T1 : Option γ} {r1 : γ} {f : Fr} {st : St}, T1 = some r1 → GG P n n0 loose an r1 Q T1 ⟨l2, f, st, []⟩ → K.p f st) → GG P n n0 loose an r (jK K.p (QK P n n0 loose l2 Q)) T (OR l2 s'))
  (he : GJ l2 s'.ks = l2) (ht : vr l2 = true) (hT : T = some r) : XK P n n0 loose Q s' := by
 have := h ⟨fun f st => XK P n n0 loose Q ⟨l2, f, st, []⟩, fun hs h => XK.sub ht hs h⟩ (fun hT g => g hT) hT
 obtain ⟨ks, fr, st, kn⟩ := s'
 obtain ⟨l1, e1, e3⟩ := F8 l2 ks fun ks => (⟨ks, fr, st, kn⟩ : SS)
 have e : XK P n n0 loose Q ⟨ks, fr, st, kn⟩ = QK P n n0 loose (l1 ++ l2) Q .normal fr st := by
  simp only at he
  rw [he] at e3
  unfold XK
  rw [e3]
 rw [e, vH]
 have e2 : jK (fun f st => XK P n n0 loose Q ⟨l2, f, st, []⟩) (QK P n n0 loose l2 Q) = QK P n n0 loose l2 Q := Ed (QK P n n0 loose l2 Q)
 unfold OR at this
 simp only at this
 rw [e1] at this
 have t2 : QK P n n0 loose l1 (jK (fun f st => XK P n n0 loose Q ⟨l2, f, st, []⟩) (QK P n n0 loose l2 Q)) .normal fr st := this
 rw [e2] at t2
 exact t2
theorem uQ (l2 : List It) (h : ∀ K : KP n n0 loose, (∀ {γ : Type} {T1 : Option γ} {r1 : γ} {f : Fr} {st : St}, T1 = some r1 → GG P n n0 loose an r1 Q T1 ⟨l2, f, st, []⟩ → K.p f st) → GG P n n0 loose an r (jK K.p (QK P n n0 loose l2 Q)) T (OR l2 (run P n an s)))
 (he : GJ l2 (run P n an s).ks = l2 := by kernel_rfl) (ht : vr l2 = true := by kernel_rfl) : GG P n n0 loose an r Q T s := ⟨fun hT => bM (E5 h he ht hT)⟩
theorem PY (d : Nat) (l2 : List It) (h : ∀ K : KP n n0 loose, (∀ {γ : Type} {T1 : Option γ} {r1 : γ} {f : Fr} {st : St}, T1 = some r1 → GG P n n0 loose an r1 Q T1 ⟨l2, f, st, []⟩ → K.p f st) → GG P n n0 loose an r (jK K.p (QK P n n0 loose l2 Q)) T (OR l2 (Ae P n an d s)))
 (he : GJ l2 (Ae P n an d s).ks = l2 := by kernel_rfl) (ht : vr l2 = true := by kernel_rfl) : GG P n n0 loose an r Q T s := ⟨fun hT => sr (E5 h he ht hT)⟩
def Mo : CV → CV → CV
 | .pv (.s (.slice none 0 0)), .pv (.ro _) => .pv (.ro [])
 | c, _ => c
def Hp : List CV → List CV → List CV
 | c :: l, e :: m => Mo c e :: Hp l m
 | l, _ => l
def CR : AV → AV → AV
 | .one c, .one e => .one (Mo c e)
 | .ag l, .ag m => .ag (Hp l m)
 | a, _ => a
def Ey : List AV → List AV → List AV
 | a :: l, e :: m => CR a e :: Ey l m
 | l, _ => l
def KE : AV → AV → AV
 | .tp l, .tp m => .tp (Ey l m)
 | a, e => CR a e
theorem JG (c e : CV) : Jg c (Mo c e) := by
 unfold Mo
 split
 ·exact .nl
 ·exact .rfl _
theorem FB : ∀ (l m : List CV), l.length = (Hp l m).length ∧ ∀ (i : Nat) c c', l[i]? = some c → (Hp l m)[i]? = some c' → Jg c c'
 | [], m => by cases m <;> exact ⟨rfl, fun i c c' h => by simp at h⟩
 | c :: l, [] => ⟨rfl, fun i a b h1 h2 => by simp only [Hp] at h2; rw [h1] at h2; cases h2; exact .rfl _⟩
 | c :: l, e :: m => by
  obtain ⟨h1, h2⟩ := FB l m
  refine ⟨by simp only [Hp, List.length_cons]; omega, fun i a b q1 q2 => ?_⟩
  cases i with
  | zero => simp only [Hp, List.getElem?_cons_zero, Option.some.injEq] at q1 q2; subst q1; subst q2; exact JG _ _
  | succ i => exact h2 i a b (by simpa using q1) (by simpa [Hp] using q2)
theorem KK (a e : AV) : Gz a (CR a e) := by
 unfold CR
 split
 ·exact .one (JG _ _)
 ·obtain ⟨h1, h2⟩ := FB _ _
  exact .ag h1 h2
 ·exact .rfl _
def IV (fr : Fr) : Fr → Fr
 | [] => []
 | (t, e) :: l => (t, CR (lk fr t) e) :: IV fr l
theorem Dj (fr : Fr) : ∀ fr0, Jn fr (IV fr fr0)
 | [] => trivial
 | (t, e) :: l => ⟨KK _ _, Dj fr l⟩
def t8 : Nat → St → List Nat
 | _, [] => []
 | i, .dead :: l => t8 (i + 1) l
 | i, _ :: l => i :: t8 (i + 1) l
def OU (n0 : Nat) (fr0 : Fr) (st0 : St) (fr : Fr) (st : St) : Option (Fr × St) :=
 bif ((List.range n0).all (aM (t8 0 st0)) && (t8 0 st0).all (fun x => Nat.ble (x + 1) st0.length)) && dL (aM (t8 0 st0)) st0 then some (IV (kM (aM (t8 0 st0)) fr) fr0, ta (t8 0 st0) 0 (st.take st0.length)) else none
theorem F0 {fr0 fr : Fr} {st0 st : St} (he : OU n0 fr0 st0 fr st = some (fr0, st0)) : oj n n0 loose fr st fr0 st0 := by
 unfold OU at he
 cases hb : ((List.range n0).all (aM (t8 0 st0)) && (t8 0 st0).all (fun x => Nat.ble (x + 1) st0.length)) && dL (aM (t8 0 st0)) st0 with
 | false => simp [hb] at he
 | true =>
  simp only [hb, cond_true, Option.some.injEq, Prod.mk.injEq] at he
  rw [Bool.and_eq_true] at hb
  refine oj.trans (oj.only (t8 0 st0) st0.length hb.1 rfl he.2 hb.2) ?_
  rw [← he.1]
  exact oj.frame (Dj _ _)
def Qg (n0 : Nat) (fr0 : Fr) (st0 : St) (s : SS) : Option (Fr × St) := match s.ks with
 | [] => OU n0 fr0 st0 s.fr s.st
 | _ => none
theorem uJ {K : KP n n0 loose} {fr0 : Fr} {st0 : St} (j : T = some r → K.p fr0 st0) (he : Qg n0 fr0 st0 (run P n an s) = some (fr0, st0) := by kernel_rfl) : GG P n n0 loose an r (jK K.p Q1) T s := by
 refine ⟨fun hT => ?_⟩
 refine bM (an := an) ?_
 unfold Qg at he
 split at he
 ·rename_i hk
  unfold XK
  rw [hk]
  exact K.cl (F0 he) (j hT)
 ·cases he
def Qi (s : SS) : Option (Code × List It) := match s.ks with
 | .c (.loop x) :: k => some (x, k)
 | _ => none
theorem uO (x' : Code) (k : List It) (h : ∀ (R : Nat → KP n n0 loose), (∀ {γ : Type} {T1 : Option γ} {r1 : γ} {j : Nat} {f : Fr} {st : St}, T1 = some r1 → GG P n n0 loose an r1 (jK (R j).p (QK P n n0 loose k Q)) T1 ⟨[.c x'], f, st, []⟩ → (R (j + 1)).p f st) →
   T = some r → (R aK).p (run P n an s).fr (run P n an s).st)
  (he : Qi (run P n an s) = some (x', k) := by kernel_rfl) : GG P n n0 loose an r Q T s := by
 refine ⟨fun hT => ?_⟩
 refine bM (an := an) ?_
 have h1 := h (fun j => ⟨fun f st => XR P n n0 loose x' (QK P n n0 loose k Q) j f st, fun hs h => XR.sub hs h⟩) (fun h g => g h) hT
 generalize run P n an s = s' at *
 obtain ⟨ks, fr, st, kn⟩ := s'
 unfold Qi at he
 split at he
 ·rename_i y k' hk
  simp only [Option.some.injEq, Prod.mk.injEq] at he
  obtain ⟨rfl, rfl⟩ := he
  subst hk
  exact XW.rounds aK rfl h1
 ·cases he
def Qj (j : Nat) (s : SS) : SS := match s with
 | ⟨ks, fr, st, kn⟩ => match ks with
  | .c (.loop x) :: k => ⟨.c x :: .r x j :: k, fr, st, kn⟩
  | ks => ⟨ks, fr, st, kn⟩
theorem OL (j : Nat) (g : GG P n n0 loose an r Q T (Qj j (run P n an s))) : GG P n n0 loose an r Q T s := by
 refine ⟨fun hT => ?_⟩
 refine bM (an := an) ?_
 have h1 := g hT
 generalize run P n an s = s' at *
 obtain ⟨ks, fr, st, kn⟩ := s'
 unfold Qj at h1
 simp only at h1
 split at h1
 ·exact XW.rounds (j + 1) rfl h1
 ·exact h1
theorem uE {K : KP n n0 loose} {fr0 fr : Fr} {st0 st : St} (j : T = some r → K.p fr0 st0) (he : OU n0 fr0 st0 fr st = some (fr0, st0) := by kernel_rfl) : T = some r → K.p fr st :=
 fun hT => K.cl (F0 he) (j hT)
theorem uU {T' : Option β} (hu : T' = T) (g : GG P n n0 loose an r Q T s) : GG P n n0 loose an r Q T' s := hu ▸ g
def P8 (s : SS) : Option Exit := match s.ks with
 | .c (.exit id) :: k => bif (As id k).isNone then some (.exit id) else none
 | .c .ret :: _ => some .ret
 | _ => none
structure RE (P : Program) (n n0 : Nat) (loose an : List Nat) {β : Type} (r : β) (e : Exit) (Q : QT) (T : Option β) (s : SS) : Prop where
 go : T = some r → Q e s.fr s.st
instance {e : Exit} : CoeFun (RE P n n0 loose an r e Q T s) (fun _ => T = some r → Q e s.fr s.st) := ⟨RE.go⟩
theorem uR (e : Exit) (g : RE P n n0 loose an r e Q T (run P n an s)) (he : P8 (run P n an s) = some e := by kernel_rfl) : GG P n n0 loose an r Q T s := by
 refine ⟨fun hT => ?_⟩
 have g := g hT
 refine bM (an := an) ?_
 generalize run P n an s = s' at *
 obtain ⟨ks, fr, st, kn⟩ := s'
 unfold P8 at he
 split at he
 ·rename_i id k0 hk
  simp only at hk
  subst hk
  cases hu : As id k0 with
  | some k' => simp [hu] at he
  | none =>
   simp only [hu, Option.isNone_none, cond_true, Option.some.injEq] at he
   subst he
   exact XW.exit rfl (qR hu g)
 ·rename_i k0 hk
  simp only at hk
  subst hk
  simp only [Option.some.injEq] at he
  subst he
  exact XW.ret rfl (tV g)
 ·cases he
def Jo (e : Exit) (k : List It) : Option (List It) := match e with
 | .exit id => As id k
 | _ => none
def O8 : Exit → Bool
 | .ret => true
 | .exit _ => true
 | _ => false
theorem xM {e : Exit} {R : Fr → St → Prop} {k : List It} (g : GG P n n0 loose an r Q T ⟨(Jo e k).getD [], s.fr, s.st, []⟩) (he : (Jo e k).isSome = true := by kernel_rfl) : RE P n n0 loose an r e (jK R (QK P n n0 loose k Q)) T s := by
 refine ⟨fun hT => ?_⟩
 have g := g hT
 cases e <;> simp only [Jo] at he g <;> try (cases he; done)
 rename_i id
 obtain ⟨k', hk⟩ := Option.isSome_iff_exists.1 he
 rw [hk] at g
 exact tQ hk g
theorem xN {e : Exit} {R : Fr → St → Prop} {k : List It} (g : RE P n n0 loose an r e Q T s) (he : ((Jo e k).isNone && O8 e) = true := by kernel_rfl) : RE P n n0 loose an r e (jK R (QK P n n0 loose k Q)) T s := by
 refine ⟨fun hT => ?_⟩
 have g := g hT
 cases e with
 | exit id => exact qR (Option.isNone_iff_eq_none.1 (by simpa [Jo, O8] using he)) g
 | ret => exact tV g
 | _ => simp [O8] at he
theorem HD {st : St} {q : Nat → Bool} {c e : CV} (h : nC q (Mo c e) = true) : CF st q c (Mo c e) := by
 unfold Mo at *
 split
 ·exact .nl
 ·exact .rfl _ (by simpa using h)
theorem LF.same {st : St} {q : Nat → Bool} : ∀ {l : List CV}, vg q l = true → LF st q l l
 | [], _ => .nil
 | c :: l, h => by
  simp only [vg, Bool.and_eq_true] at h
  exact .cons (.rfl _ h.1) (LF.same h.2)
theorem IU {st : St} {q : Nat → Bool} : ∀ {l m : List CV}, vg q (Hp l m) = true → LF st q l (Hp l m)
 | c :: l, e :: m, h => by
  simp only [Hp, vg, Bool.and_eq_true] at h
  exact .cons (HD h.1) (IU h.2)
 | [], _, _ => by simp only [Hp]; exact .nil
 | c :: l, [], h => by simp only [Hp] at h ⊢; exact LF.same h
theorem AF.same {st : St} {q : Nat → Bool} : ∀ {a : AV}, cV q a = true → AF st q a a
 | .j, _ => .j _
 | .one c, h => .one (.rfl _ h)
 | .ag l, h => .ag (LF.same h)
 | .tp [], _ => .tp0
 | .tp (a :: l), h => by
  simp only [cV, cV.go, Bool.and_eq_true] at h
  exact .tpc (AF.same h.1) (AF.same (a := .tp l) (by simpa [cV] using h.2))
theorem FI {st : St} {q : Nat → Bool} {a e : AV} (h : cV q (CR a e) = true) : AF st q a (CR a e) := by
 unfold CR at *
 split
 ·exact .one (HD (by simpa [cV] using h))
 ·exact .ag (IU (by simpa [cV] using h))
 ·exact AF.same (by simpa using h)
theorem Ge {st : St} {q : Nat → Bool} : ∀ {l m : List AV}, cV.go q (Ey l m) = true → AF st q (.tp l) (.tp (Ey l m))
 | c :: l, e :: m, h => by
  simp only [Ey, cV.go, Bool.and_eq_true] at h
  exact .tpc (FI h.1) (Ge h.2)
 | [], _, _ => by simp only [Ey]; exact .tp0
 | c :: l, [], h => by simp only [Ey] at h ⊢; exact AF.same (a := .tp (c :: l)) (by simpa [cV] using h)
theorem H9 {st : St} {q : Nat → Bool} {a e : AV} (h : cV q (KE a e) = true) : AF st q a (KE a e) := by
 unfold KE at *
 split
 ·exact Ge (by simpa [cV] using h)
 ·exact FI (by simpa using h)
def Pf (P : Program) (fn : Func) (s : SS) (e : AV) : Option AV := match pH P s.fr s.st fn.results.toList [] with
 | some (avs, []) => bif cV (fun _ => false) (KE (td avs) e) then some (KE (td avs) e) else none
 | _ => none
theorem LM {fn : Func} {e : Exit} {R : AV} (he : e = .normal ∨ e = .ret) (h : Pf P fn s R = some R) : A6 P fn R e s.fr s.st := by
 unfold Pf at h
 split at h
 ·rename_i avs hr
  cases hi : cV (fun _ => false) (KE (td avs) R) with
  | false => simp [hi] at h
  | true =>
   simp only [hi, cond_true, Option.some.injEq] at h
   have := H9 (st := s.st) hi
   rw [h] at this
   exact ⟨he, [], avs, [], hr, trivial, this⟩
 ·cases h
def Jt (P : Program) (fn : Func) {β : Type} (rv : β → AV) (r : β) : QT := A6 P fn (rv r)
theorem xF {fn : Func} {rv : β → AV} {v : β} (he : Pf P fn s (rv v) = some (rv v) := by kernel_rfl) : RE P n n0 loose an r .ret (Jt P fn rv r) (some v) s := by
 refine ⟨fun h => ?_⟩
 simp only [Option.some.injEq] at h
 subst h
 show A6 P fn (rv v) _ _ _
 exact LM (.inr rfl) he
def Nv (args : List AV) : Fr := fF (lK args 0) id
theorem iS {f : Nat} {args : List AV} {rv : β → AV} (n : Nat) (an : List Nat) (fn : Func) (g : ∀ r, GG P n 0 [] an r (Jt P fn rv r) T ⟨[.c (cd fn [])], Nv args, [], []⟩)
  (hf : P.funcs[f]? = some fn := by kernel_rfl) (hb : fn.body = some (cd fn []) := by kernel_rfl) (hn : fn.ntmps = n := by kernel_rfl) (hl : Nat.ble args.length n = true := by rfl) : CT P f args T rv := by
 intro r hT
 refine PC.of hf hb hn (Nat.le_of_ble_eq_true hl) ?_
 have := g r hT
 unfold Nv at this
 rw [rU] at this
 refine XW.mono (show XW P n 0 [] (cd fn []) (QK P n 0 [] [] (Jt P fn rv r)) (lK args 0) [] from ?_) (fun e f s h => h)
 have e : jK (XW P n 0 [] (cd fn []) (Jt P fn rv r)) (Jt P fn rv r) .normal (lK args 0) [] := this
 exact e
theorem HL {f : Nat} {args : List AV} {rv : β → AV} (e : T = none) : CT P f args T rv := fun r h => iE e h
def P1 (P : Program) (m : Nat) (s : SS) : Bool := match s.ks with
 | .c (.region _ ops true) :: _ => (sV ops && yb ops m) && P.follows .mixedOrders
 | _ => false
def Qu (m : Nat) (s : SS) : SS := match s with
 | ⟨.c (.region _ ops true) :: k, fr, st, kn⟩ => ⟨.d ops (ops.toList.take m) :: .o ops (ops.toList.drop m) :: k, fr, st, kn⟩
 | s => s
theorem yf (m : Nat) (k : GG P n n0 loose an r Q T (Qu m (run P n an s))) (he : P1 P m (run P n an s) = true := by kernel_rfl) : GG P n n0 loose an r Q T s := by
 refine ⟨fun hT => ?_⟩
 have k := k hT
 refine bM (an := an) ?_
 generalize run P n an s = s' at *
 obtain ⟨ks, fr, st, kn⟩ := s'
 unfold P1 at he
 split at he
 ·rename_i id ops k0 hk
  simp only at hk
  subst hk
  obtain ⟨fr', h1, h2⟩ := k
  exact XW.drwS (c := .region id ops true) m fr' rfl he h1 h2
 ·cases he
def Qo (P : Program) (n0 : Nat) (loose : List Nat) (m K : Nat) (X : List Nat) (s : SS) : Bool := match s.ks with
 | .c (.region _ ops true) :: _ => ((sV ops && yb ops m) && P.follows .mixedOrders) && (dL (fun i => !aM X i) s.st && B3 n0 loose X)
 | _ => false
def Qk (m K : Nat) (X : List Nat) (s : SS) : SS := match s with
 | ⟨.c (.region _ ops true) :: k, fr, st, kn⟩ => fS (st ++ List.replicate K .dead) fun st => ⟨.g X ops (ops.toList.take m) [] :: .o ops (ops.toList.drop m) :: k, fr, st, kn⟩
 | s => s
theorem Av {q : Nat → Bool} : ∀ {a b : St}, dL q a = true → dL q b = true → dL q (a ++ b) = true
 | [], b, _, h => h
 | x :: a, b, h, h2 => by
  simp only [List.cons_append, dL, Bool.and_eq_true] at h ⊢
  exact ⟨h.1, Av h.2 h2⟩
theorem zA {q : Nat → Bool} : ∀ K : Nat, dL q (List.replicate K .dead) = true
 | 0 => rfl
 | K + 1 => by rw [List.replicate_succ]; simp only [dL, Bool.and_eq_true]; exact ⟨rfl, zA K⟩
theorem Ph (m K : Nat) (X : List Nat) (k : GG P n n0 loose an r Q T (Qk m K X (run P n an s))) (he : Qo P n0 loose m K X (run P n an s) = true := by kernel_rfl) : GG P n n0 loose an r Q T s := by
 refine ⟨fun hT => ?_⟩
 have k := k hT
 refine bM (an := an) ?_
 generalize run P n an s = s' at *
 obtain ⟨ks, fr, st, kn⟩ := s'
 unfold Qo at he
 split at he
 ·rename_i id ops k0 hk
  simp only at hk
  subst hk
  simp only [Qk, pm] at k
  obtain ⟨fr2, st2, tw2, h1, h2, h3⟩ := k
  simp only [Bool.and_eq_true] at he
  obtain ⟨he, he1, he2⟩ := he
  rw [List.nil_append] at h2
  unfold HY at h2
  rw [Bool.and_eq_true] at h2
  have h4 : dL (fun i => !aM X i) (st ++ List.replicate K .dead) = true := Av he1 (zA K)
  exact XW.sub (oj.dead K) (XW.drwG (c := .region id ops true) m X tw2 fr2 st2 rfl (by simp only [Bool.and_eq_true]; exact ⟨he, ⟨h2, h4⟩, he2⟩) h1 h3)
 ·cases he
end
end Go.SX
namespace Go.SX
open Go
section
variable {P : Program} {n n0 : Nat} {loose an : List Nat} {Q Q1 : QT} {α β : Type} {T x y : Option β} {r : β} {s : SS} {fr : Fr} {st : St} {ops : Array Oper} {l : List Oper}
def Nh (b : Bool) (a : AV) : AV := match b with
 | true => Nu a
 | false => a
theorem LR (b : Bool) (l : List AV) : xQ l (l.map (Nh b)) := by
 cases b with
 | true => exact DE l
 | false => rw [show l.map (Nh false) = l from List.map_id l]; exact xQ.refl l
theorem rk.soft {ι : IM} {w : World} {vs : List Value} {asv : List AV} (b : Bool) (h : rk ι w st vs asv) : rk ι w st vs (asv.map (Nh b)) := by
 obtain ⟨e1, e2⟩ := (LR b asv).get
 refine ⟨h.1.trans e1, fun j v a h1 h2 => ?_⟩
 have hlt : j < asv.length := by rw [e1]; exact (List.getElem?_eq_some_iff.1 h2).1
 exact (h.2 j v _ h1 (List.getElem?_eq_getElem hlt)).le (e2 j _ a (List.getElem?_eq_getElem hlt) h2)
def CM (P : Program) (f : Nat) (args : List AV) (sc : St) {β : Type} (T : Option β) (rv : β → AV) (nb : β → St) : Prop := ∀ r, T = some r → MC P f args sc (rv r) (nb r)
def wi (P : Program) (fn : Func) (k : Nat) {β : Type} (rv : β → AV) (nb : β → St) (r : β) : QT := Gw P fn (rv r) k (nb r)
def OQ (st : St) : St := fS st id
theorem nc {f : Nat} {args : List AV} {sc : St} {rv : β → AV} {nb : β → St} (k n : Nat) (an : List Nat) (fn : Func) (g : ∀ r, GG P n k [] an r (wi P fn k rv nb r) T ⟨[.c (cd fn [])], Nv args, OQ sc, []⟩)
  (hf : P.funcs[f]? = some fn := by kernel_rfl) (hb : fn.body = some (cd fn []) := by kernel_rfl) (hn : fn.ntmps = n := by kernel_rfl) (hl : Nat.ble args.length n = true := by rfl) (hk : sc.length = k := by rfl) : CM P f args sc T rv nb := by
 intro r hT
 refine MC.of k hf hb hn (Nat.le_of_ble_eq_true hl) hk ?_
 have := g r hT
 unfold Nv OQ at this
 rw [rU, pm] at this
 refine XW.mono (show XW P n k [] (cd fn []) (QK P n k [] [] (wi P fn k rv nb r)) (lK args 0) sc from ?_) (fun e f s h => h)
 have e : jK (XW P n k [] (cd fn []) (wi P fn k rv nb r)) (wi P fn k rv nb r) .normal (lK args 0) sc := this
 exact e
theorem KF {f : Nat} {args : List AV} {sc : St} {rv : β → AV} {nb : β → St} (e : T = none) : CM P f args sc T rv nb := fun r h => iE e h
def Pr (P : Program) (fn : Func) (k : Nat) (s : SS) (e : AV) : Option (AV × St) := match pH P s.fr s.st fn.results.toList [] with
 | some (avs, []) => bif cV (fun id => Nat.ble (id + 1) k) (KE (td avs) e) && dL (fun id => Nat.ble (id + 1) k) (s.st.take k) then some (KE (td avs) e, s.st.take k) else none
 | _ => none
theorem Kj {fn : Func} {k : Nat} {e : Exit} {R : AV} {sc : St} (he : e = .normal ∨ e = .ret) (h : Pr P fn k s R = some (R, sc)) : Gw P fn R k sc e s.fr s.st := by
 unfold Pr at h
 split at h
 ·rename_i avs hr
  cases hi : cV (fun id => Nat.ble (id + 1) k) (KE (td avs) R) with
  | false => simp [hi] at h
  | true =>
   cases hs : dL (fun id => Nat.ble (id + 1) k) (s.st.take k) with
   | false => simp [hs] at h
   | true =>
    simp only [hi, hs, Bool.and_self, cond_true, Option.some.injEq, Prod.mk.injEq] at h
    have := H9 (st := s.st) hi
    rw [h.1] at this
    exact ⟨he, [], avs, [], hr, trivial, h.2, by rw [← h.2]; exact hs, this⟩
 ·cases h
theorem iW {fn : Func} {k : Nat} {rv : β → AV} {nb : β → St} {v : β} (he : Pr P fn k s (rv v) = some (rv v, nb v) := by kernel_rfl) : RE P n n0 loose an r .ret (wi P fn k rv nb r) (some v) s := by
 refine ⟨fun h => ?_⟩
 simp only [Option.some.injEq] at h
 subst h
 exact Kj (.inr rfl) he
def cQ (b : Bool) (P : Program) (n : Nat) (s : SS) : Option (Nat × List AV) := match s.ks with
 | .o ops l :: _ => (match s6 P n ops l s.fr with
  | some (g, avs) => some (g, avs.map (Nh b))
  | none => none)
 | _ => none
def Mx (n : Nat) (av : AV) (st' : St) (s : SS) : SS := match s with
 | ⟨.o ops (o :: l) :: k, fr, _, kn⟩ => fA av fun av => fS st' fun st' => tC n o.dst av fr (fun fr' => wa false o.dst kn fun kn' => ⟨.o ops l :: k, fr', st', kn'⟩) s
 | s => s
theorem Br {av : AV} {st' : St} {o : Oper} {k : List It} {kn : List Nat} : (∃ fr' kn', sv n o.dst av fr = some fr' ∧ Mx n av st' ⟨.o ops (o :: l) :: k, fr, st, kn⟩ = ⟨.o ops l :: k, fr', st', kn'⟩) ∨ Mx n av st' ⟨.o ops (o :: l) :: k, fr, st, kn⟩ = ⟨.o ops (o :: l) :: k, fr, st, kn⟩ := by
 simp only [Mx, ug, pm]
 rcases lp (n := n) o.dst av fr (fun fr' => wa false o.dst kn fun kn' => (⟨.o ops l :: k, fr', st', kn'⟩ : SS)) ⟨.o ops (o :: l) :: k, fr, st, kn⟩ with ⟨fr', hp, e⟩ | e
 ·obtain ⟨kn', ek⟩ := na false o.dst kn fun kn' => (⟨.o ops l :: k, fr', st', kn'⟩ : SS)
  exact .inl ⟨fr', kn', hp, by rw [e, ek]⟩
 ·exact .inr e
theorem XO.calmS (g : Nat) (avs avs0 : List AV) (sc sc' : St) (r : AV) (rs : List Nat) (fr' : Fr) (st' : St) (hc : s6 P n ops l fr = some (g, avs0)) (b : Bool) (hs : avs0.map (Nh b) = avs.map (pX (i9 rs st.length))) (h : MC P g avs sc r sc') (hb : yZ st.length rs sc sc' avs = true)
  (hst : rs.map (fun x => st[x]?) = sc.map (fun o => some (mo (i9 rs st.length) o))) (hst' : dx st rs (sc'.map (mo (i9 rs st.length))) = st') (hput : AU n l (pX (i9 rs st.length) r) fr = some fr')
  (hk : XO P n n0 loose ops (l.drop 1) Q fr' st') : XO P n n0 loose ops l Q fr st := by
 cases l with
 | nil => simp [s6] at hc
 | cons o rest =>
  simp only [s6] at hc
  split at hc
  ·rename_i hg
   intro ι w a hR hF
   obtain ⟨vs, hrun, hA⟩ := qc hc hF
   have hA := hA.soft b
   rw [hs] at hA
   have hw := dU hg hF
   refine wpList_step fun K hK => ?_
   rw [if_pos hw]
   simp only [Oper.wp, hrun, Oper.upon]
   refine (h.use' rs (AA hb) hst hR hA).mono ?_
   rintro e w' ⟨v, ι', rfl, hR', hv, k⟩
   rw [hst'] at hR' hv k
   exact hK _ _ (gK (fun e a w h => h.trans (k.weaken (fun _ _ => trivial))) (hk ι' w' _ hR' (mz hput (hF.mono' k) hv)))
  ·simp at hc
theorem km (b : Bool) (rs : List Nat) {o : Option α} {f : α → Option β} {g : Nat} {avs : List AV} {sc : St} {rv : α → AV} {nb : α → St} (c : CM P g avs sc o rv nb)
  (k : ∀ v, o = some v → GG P n n0 loose an r Q (f v) (Mx n (pX (i9 rs (run P n an s).st.length) (rv v)) (dx (run P n an s).st rs ((nb v).map (mo (i9 rs (run P n an s).st.length)))) (run P n an s)))
  (h1 : cQ b P n (run P n an s) = some (g, avs.map (pX (i9 rs (run P n an s).st.length))) := by kernel_rfl) (h2 : ∀ v, yZ (run P n an s).st.length rs sc (nb v) avs = true := by intro v; kernel_rfl)
  (h3 : rs.map (fun x => (run P n an s).st[x]?) = sc.map (fun o => some (mo (i9 rs (run P n an s).st.length) o)) := by kernel_rfl) : GG P n n0 loose an r Q (aw o f) s := by
 refine ⟨fun h => ?_⟩
 obtain ⟨v, ho, h⟩ := lG h
 refine bM (an := an) ?_
 have k := k v ho h
 have h2 := h2 v
 generalize run P n an s = s' at *
 obtain ⟨ks, fr, st, kn⟩ := s'
 unfold cQ at h1
 split at h1
 ·rename_i ops l k' hk
  simp only at hk
  subst hk
  split at h1
  ·rename_i g' avs' hc
   simp only [Option.some.injEq, Prod.mk.injEq] at h1
   obtain ⟨rfl, h1⟩ := h1
   cases l with
   | nil => simp [s6] at hc
   | cons o' l =>
    rcases Br (n := n) (av := pX (i9 rs st.length) (rv v)) (st' := dx st rs ((nb v).map (mo (i9 rs st.length)))) (o := o') (ops := ops) (l := l) (fr := fr) (st := st) (k := k') (kn := kn) with ⟨fr', kn', hp, e⟩ | e
    ·rw [e] at k
     exact XO.calmS _ _ _ _ _ _ _ fr' _ hc b h1 (c v ho) h2 h3 rfl hp k
    ·rw [e] at k; exact k
  ·cases h1
 ·cases h1
def Qf (P : Program) (s : SS) : Option ByteArray := match s.ks with
 | .o ops l :: _ => Dn P ops l s.fr
 | _ => none
theorem PU (t : ByteArray) (k : GG P n n0 loose an r Q T (Mx n (.one (.pt (run P n an s).st.length 0 0 0)) ((run P n an s).st ++ [.raw (.stringIter t 0)]) (run P n an s))) (he : Qf P (run P n an s) = some t := by kernel_rfl) : GG P n n0 loose an r Q T s := by
 refine ⟨fun h => bM (an := an) ?_⟩
 have k := k h
 generalize run P n an s = s' at *
 obtain ⟨ks, fr, st, kn⟩ := s'
 unfold Qf at he
 split at he
 ·rename_i ops l k' hk
  simp only at hk
  subst hk
  cases l with
  | nil => simp [Dn] at he
  | cons o' l =>
   rcases Br (n := n) (av := .one (.pt st.length 0 0 0)) (st' := st ++ [.raw (.stringIter t 0)]) (o := o') (ops := ops) (l := l) (fr := fr) (st := st) (k := k') (kn := kn) with ⟨fr', kn', hp, e⟩ | e
   ·rw [e] at k
    exact XO.rng t fr' _ he hp rfl k
   ·rw [e] at k; exact k
 ·cases he
def PN (s : SS) : Option Nat := match s.ks with
 | .o ops l :: _ => wq ops l s.fr
 | _ => none
theorem Qs (id : Nat) {t : ByteArray} {pos : Nat}
  (k1 : decide (pos < t.size) = true → GG P n n0 loose an r Q x (Mx n (.tp [.one (.pv (.s (.bool true))), .one (.pv (.s (.int .i64 (Int.ofNat pos)))), .one (.pv (.s (.int .i32 (Int.ofNat (Utf8.decode t pos).1))))]) ((run P n an s).st.set id (.raw (.stringIter t (pos + (Utf8.decode t pos).2)))) (run P n an s)))
  (k2 : decide (pos < t.size) = false → GG P n n0 loose an r Q y (Mx n (.tp [.one (.pv (.s (.bool false)))]) (run P n an s).st (run P n an s)))
  (he : PN (run P n an s) = some id := by kernel_rfl) (ho : (run P n an s).st[id]? = some (.raw (.stringIter t pos)) := by kernel_rfl) : GG P n n0 loose an r Q (aq (decide (pos < t.size)) x y) s := by
 refine ⟨fun h => bM (an := an) ?_⟩
 cases hp0 : decide (pos < t.size) with
 | true =>
  rw [hp0] at h
  have k := k1 hp0 h
  generalize run P n an s = s' at *
  obtain ⟨ks, fr, st, kn⟩ := s'
  unfold PN at he
  split at he
  ·rename_i ops l k' hk
   simp only at hk
   subst hk
   cases l with
   | nil => simp [wq] at he
   | cons o' l =>
    rcases Br (n := n) (av := .tp [.one (.pv (.s (.bool true))), .one (.pv (.s (.int .i64 (Int.ofNat pos)))), .one (.pv (.s (.int .i32 (Int.ofNat (Utf8.decode t pos).1))))]) (st' := st.set id (.raw (.stringIter t (pos + (Utf8.decode t pos).2)))) (o := o') (ops := ops) (l := l) (fr := fr) (st := st) (k := k') (kn := kn) with ⟨fr', kn', hp, e⟩ | e
    ·rw [e] at k
     exact XO.nxt id t pos fr' _ he ho hp rfl hp0 k
    ·rw [e] at k; exact k
  ·cases he
 | false =>
  rw [hp0] at h
  have k := k2 hp0 h
  generalize run P n an s = s' at *
  obtain ⟨ks, fr, st, kn⟩ := s'
  unfold PN at he
  split at he
  ·rename_i ops l k' hk
   simp only at hk
   subst hk
   cases l with
   | nil => simp [wq] at he
   | cons o' l =>
    rcases Br (n := n) (av := .tp [.one (.pv (.s (.bool false)))]) (st' := st) (o := o') (ops := ops) (l := l) (fr := fr) (st := st) (k := k') (kn := kn) with ⟨fr', kn', hp, e⟩ | e
    ·rw [e] at k
     exact XO.nxtE id t pos fr' he ho hp hp0 k
    ·rw [e] at k; exact k
  ·cases he
end
end Go.SX
namespace Go.SX
open Go
section
variable {P : Program} {n n0 : Nat} {loose an : List Nat} {Q Q1 : QT} {α β : Type} {T x y : Option β} {r : β} {s : SS} {fr : Fr} {st : St} {ops : Array Oper} {l : List Oper}
inductive BF (st : St) (q : Nat → Bool) : bJ → bJ → Prop where
 | same (o : bJ) (h : jT q o = true) : BF st q o o
 | box {cells cells' : List CV} (h : LF st q cells cells') : BF st q (.box cells) (.box cells')
structure Bv (q : Nat → Bool) (st st' : St) : Prop where
 old : ∀ (id : Nat) o', st'[id]? = some o' → o' = .dead ∨ (q id = true ∧ ∃ o, st[id]? = some o ∧ BF st q o o')
 keep : ∀ id, q id = true → id < st.length → id < st'.length
theorem BF.alive {q : Nat → Bool} {o o' : bJ} (h : BF st q o o') (ha : o'.alive) : o.alive := by
 cases h with
 | same => exact ha
 | box => simp [bJ.alive]
theorem Bv.own {q : Nat → Bool} {st' : St} (h : Bv q st st') {ι : IM} {b : Nat} (ho : qG ι st' b) : ∃ id o, q id = true ∧ st[id]? = some o ∧ o.alive ∧ ι id = some b := by
 obtain ⟨id, o, h1, h2, h3⟩ := ho
 rcases h.old id o h1 with rfl | ⟨h4, o0, h5, h6⟩
 ·exact absurd rfl h2
 ·exact ⟨id, o0, h4, h5, h6.alive h2, h3⟩
theorem Bv.keeps {q : Nat → Bool} {st' : St} (h : Bv q st st') {ι : IM} {w : World} : be (fun id => q id = true) ι w st ι w st' :=
 ⟨rfl, rfl, rfl, Nat.le_refl _, rfl, fun b _ hm => ⟨rfl, fun ho => by
  obtain ⟨id, o, _, h2, h3, h4⟩ := h.own ho
  exact hm ⟨id, o, h2, h3, h4⟩⟩, fun id hq hid => ⟨h.keep id hq hid, rfl⟩, fun _ c _ _ h => ⟨c, h, rfl⟩⟩
theorem cy.fzF {q : Nat → Bool} {st' : St} {ι : IM} {w : World} (r : eN ι w st) (hs : Bv q st st') {v : Value} {c c' : CV} (h : cy ι w st v c) (hf : CF st q c c') : cy ι w st' v c' := by
 have k := hs.keeps (ι := ι) (w := w)
 cases hf with
 | rfl _ hc => exact h.mono k (q := q) (fun _ h _ => h) hc
 | nl =>
  have := bB (aD.one _ _ h)
  subst this
  exact .pv _ _ .nl
 | pt hid hq => exact h.boxed r (fun b => hs.own) (fun _ _ => k.pure) hid hq
 | fnp hid hq => exact h.boxfn r (fun b => hs.own) (fun _ _ => k.pure) hid hq
 | @sl id sz off len els els' ho hq hl he =>
  subst he
  have hlen : ((els.drop off).take len).length = len := by simp; omega
  cases h with
  | sn _ _ hid hb =>
   have : (els.drop 0).take 0 = [] := by simp
   rw [this]
   exact .pv _ _ .nl
  | sl _ _ _ _ b cap hid hb hcap hc =>
   rcases r.obj id _ ho with ⟨e1, _⟩ | ⟨b', c, ty, e1, e2, hcs, hsz, hcell⟩
   ·rw [hb] at e1; cases e1
   ·rw [hb] at e1; cases e1
    have hown : qG ι st b := ⟨id, _, ho, by simp [bJ.alive], hb⟩
    have := fj.ro (μ := jV ι st') (w := w) ⟨b, off * sz, none⟩ cap sz ((els.drop off).take len) (fun i j => c.getD ((off + i) * sz + j) undef) (by rw [hlen]; exact hcap)
     (fun e he => hsz e (List.mem_of_mem_drop (List.mem_of_mem_take he)))
     (fun _ => ⟨dl e2, fun hm => by
      rcases hm with hm | hm
      ·exact r.dis b hown hm
      ·obtain ⟨id', o', hq', h5, h6, h7⟩ := hs.own hm
       have := r.inj id id' _ o' b ho h5 (by simp [bJ.alive]) h6 hb h7
       subst this
       rw [hq] at hq'; cases hq'⟩)
     (fun i e j p h1 h2 => by
      rw [List.getElem?_take] at h1
      split at h1
      ·rw [List.getElem?_drop] at h1
       obtain ⟨u, a1, a2⟩ := hcell _ e j p h1 h2
       rw [add_lit, ly e2]
       rw [show off * sz + (i * sz + j) = (off + i) * sz + j by rw [Nat.add_mul]; omega, a1]
       simp [a1]
      ·cases h1)
     (fun i e j p h1 h2 => by
      rw [List.getElem?_take] at h1
      split at h1
      ·rw [List.getElem?_drop] at h1
       obtain ⟨u, a1, a2⟩ := hcell _ e j p h1 h2
       have : c.getD ((off + i) * sz + j) undef = u := by simp [a1]
       rw [this]
       exact k.pure a2
      ·cases h1)
    rw [hlen] at this
    exact .pv _ _ this
theorem dZ.fzF {q : Nat → Bool} {st' : St} {ι : IM} {w : World} (r : eN ι w st) (hs : Bv q st st') {cs cs' : List CV} (hf : LF st q cs cs') : ∀ {vs : List Value}, dZ ι w st vs cs → dZ ι w st' vs cs' := by
 induction hf with
 | nil => exact fun h => ⟨h.1, fun j v c h1 h2 => by simp at h2⟩
 | @cons c c' l l' hc hk ih =>
  intro vs hL
  match vs, hL with
  | [], hL => have := hL.1; simp at this
  | u :: us, hL =>
   have h0 := hL.2 0 u c rfl rfl
   have ht := ih (vs := us) ⟨by have := hL.1; simpa using this, fun j v c h1 h2 => hL.2 (j + 1) v c (by simpa using h1) (by simpa using h2)⟩
   refine ⟨by simp [ht.1], fun j v c h1 h2 => ?_⟩
   cases j with
   | zero => simp at h1 h2; subst h1; subst h2; exact h0.fzF r hs hc
   | succ j => exact ht.2 j v c (by simpa using h1) (by simpa using h2)
theorem aD.fzF {q : Nat → Bool} {st' : St} {ι : IM} {w : World} (r : eN ι w st) (hs : Bv q st st') {v : Value} {a a' : AV} (h : aD ι w st v a) (hf : AF st q a a') : aD ι w st' v a' := by
 induction hf generalizing v with
 | j a => exact .j _
 | one hc => exact .one _ _ ((kN h).fzF r hs hc)
 | @ag cs cs' hl =>
  obtain ⟨vs, rfl, hL⟩ := C8 h
  exact .ag _ _ (hL.fzF r hs hl)
 | tp0 =>
  cases h with
  | tp vs _ hl h => exact .tp _ _ hl (fun j v a h1 h2 => by simp at h2)
 | @tpc a a' l l' ha hk ih1 ih2 =>
  cases h with
  | tp vs _ hl h =>
   match vs, hl with
   | [], hl => simp at hl
   | u :: us, hl =>
    have h0 := ih1 (h 0 u a rfl rfl)
    have ht := ih2 (.tp us l (by simpa using hl) (fun j v c h1 h2 => h (j + 1) v c (by simpa using h1) (by simpa using h2)))
    generalize hx : Value.tuple us.toArray = xv at ht
    generalize hy : AV.tp l' = ya at ht
    cases ht with
    | tp vs2 as2 hl2 h2 =>
     cases hy
     have : us = vs2 := by
      have := congrArg (fun v : Value => match v with | .tuple a => a.toList | _ => []) hx
      simpa using this
     subst this
     refine .tp _ _ (by simp [hl2]) (fun j v c h1 h3 => ?_)
     cases j with
     | zero => simp at h1 h3; subst h1; subst h3; exact h0
     | succ j => exact h2 j v c (by simpa using h1) (by simpa using h3)
    | _ => cases hy
theorem eN.frz {q : Nat → Bool} {st' : St} {ι : IM} {w : World} (r : eN ι w st) (h : Bv q st st') : eN ι w st' := by
 have k := h.keeps (ι := ι) (w := w)
 refine ⟨fun id o ho => ?_, r.amb, fun b ho => ?_, fun id id' o o' b h1 h2 a1 a2 e1 e2 => ?_, r.glk k⟩
 ·rcases h.old id o ho with rfl | ⟨hq, o0, ho', hbf⟩
  ·trivial
  ·have := r.obj id o0 ho'
   cases hbf with
   | box hl =>
    obtain ⟨b', vs, ty, e', hb', hL⟩ := this
    exact ⟨b', vs, ty, e', hb', hL.fzF r h hl⟩
   | same _ hb =>
    cases o with
    | dead => trivial
    | box cells =>
     obtain ⟨b', vs, ty, e', hb', hl⟩ := this
     exact ⟨b', vs, ty, e', hb', hl.mono k (q := q) (fun _ h _ => h) hb⟩
    | rel Rm ps =>
     obtain ⟨b', ob, vs0, e', hb', hr0, hl0⟩ := this
     exact ⟨b', ob, vs0, e', hb', hr0, hl0.map fun _ _ h0 => k.pure h0⟩
    | arr sz els =>
     rcases this with ⟨e', he⟩ | ⟨b', c, ty, e', hb', h1, h2, h3⟩
     ·exact .inl ⟨e', he⟩
     ·refine .inr ⟨b', c, ty, e', hb', h1, h2, fun i e' j cv a1 a2 => ?_⟩
      obtain ⟨v, hv, hr⟩ := h3 i e' j cv a1 a2
      exact ⟨v, hv, k.pure hr⟩
 ·obtain ⟨id, o, _, h2, h3, h4⟩ := h.own ho
  exact r.dis b ⟨id, o, h2, h3, h4⟩
 ·rcases h.old id o h1 with rfl | ⟨_, o0, h5, q1⟩
  ·exact absurd rfl a1
  rcases h.old id' o' h2 with rfl | ⟨_, o1, h6, q2⟩
  ·exact absurd rfl a2
  exact r.inj id id' o0 o1 b h5 h6 (q1.alive a1) (q2.alive a2) e1 e2
theorem oj.frz {q : Nat → Bool} {fr' : Fr} {st' : St} (h : Bv q st st') (hf : ∀ t, AF st q (lk fr t) (lk fr' t)) (hq : ∀ id, pD n0 loose id = true → q id = true) : oj n n0 loose fr st fr' st' :=
 fun ι w a hR hF => ⟨ι, hR.frz h, ⟨hF.defers, hF.size, fun t => (hF.slot t).fzF hR h (hf t)⟩, h.keeps.weaken hq⟩
def N5 (id : Nat) (els : List (List PV)) : CV → CV
 | .sl i sz off len => bif Nat.beq i id then .pv (.ro els) else .sl i sz off len
 | c => c
def O0 (id : Nat) (els : List (List PV)) : List CV → List CV
 | [] => []
 | c :: l => N5 id els c :: O0 id els l
def Qd (id : Nat) (els : List (List PV)) : AV → AV
 | .one c => .one (N5 id els c)
 | .ag l => .ag (O0 id els l)
 | a => a
def O5 (id : Nat) : CV → List (Nat × Nat × Nat)
 | .sl i sz off len => bif Nat.beq i id then [(sz, off, len)] else []
 | _ => []
def Nk (id : Nat) : List CV → List (Nat × Nat × Nat)
 | [] => []
 | c :: l => O5 id c ++ Nk id l
def Qt (id : Nat) : AV → List (Nat × Nat × Nat)
 | .one c => O5 id c
 | .ag l => Nk id l
 | _ => []
def P9 (id : Nat) (els : List (List PV)) : bJ → bJ
 | .box l => .box (O0 id els l)
 | b => b
def PZ (id : Nat) : bJ → List (Nat × Nat × Nat)
 | .box l => Nk id l
 | _ => []
def Ea (id : Nat) (els : List (List PV)) : Nat → St → St
 | _, [] => []
 | i, b :: l => (bif Nat.beq i id then .dead else P9 id els b) :: Ea id els (i + 1) l
def Jj (id : Nat) : St → List (Nat × Nat × Nat)
 | [] => []
 | b :: l => PZ id b ++ Jj id l
def Aa (id : Nat) : Nat → Bool := fun i => !Nat.beq i id
def Pi (id : Nat) (c : CV) : Bool := match c with
 | .sl .. => true
 | c => nC (Aa id) c
def Ob (id : Nat) : List CV → Bool
 | [] => true
 | c :: l => Pi id c && Ob id l
def PX (id : Nat) : AV → Bool
 | .one c => Pi id c
 | .ag l => Ob id l
 | a => cV (Aa id) a
def P5 (id : Nat) : bJ → Bool
 | .box l => Ob id l
 | _ => true
theorem FP {E : pr α} {xs : List α} {id : Nat} {L : List (Nat × Nat × Nat)} (h : ∀ p ∈ L, p = (E.sz, 0, xs.length)) {st : St} (hid : st[id]? = some (.arr E.sz (E.els xs))) {c : CV} (hc : ∀ p ∈ O5 id c, p ∈ L) (ho : Pi id c = true) : CF st (Aa id) c (N5 id (E.els xs) c) := by
 cases c with
 | sl i sz off len =>
  cases hb : Nat.beq i id with
  | true =>
   have := Nat.eq_of_beq_eq_true hb
   subst this
   have hp := h _ (hc (sz, off, len) (by simp [O5]))
   simp only [Prod.mk.injEq] at hp
   obtain ⟨rfl, rfl, rfl⟩ := hp
   simp only [N5, hb, cond_true]
   exact Oj E xs hid (by simp [Aa]) rfl
  | false =>
   simp only [N5, hb, cond_false]
   exact .rfl _ (by simp [nC, Aa, hb])
 | _ => exact .rfl _ ho
theorem Ep {E : pr α} {xs : List α} {id : Nat} {L : List (Nat × Nat × Nat)} (h : ∀ p ∈ L, p = (E.sz, 0, xs.length)) {st : St} (hid : st[id]? = some (.arr E.sz (E.els xs))) : ∀ {l : List CV}, (∀ p ∈ Nk id l, p ∈ L) → Ob id l = true → LF st (Aa id) l (O0 id (E.els xs) l)
 | [], _, _ => .nil
 | c :: l, hc, ho => by
  simp only [Ob, Bool.and_eq_true] at ho
  exact .cons (FP h hid (fun p hp => hc p (by simp [Nk, hp])) ho.1) (Ep h hid (fun p hp => hc p (by simp [Nk, hp])) ho.2)
theorem LX {E : pr α} {xs : List α} {id : Nat} {L : List (Nat × Nat × Nat)} (h : ∀ p ∈ L, p = (E.sz, 0, xs.length)) {st : St} (hid : st[id]? = some (.arr E.sz (E.els xs))) {a : AV} (hc : ∀ p ∈ Qt id a, p ∈ L) (ho : PX id a = true) : AF st (Aa id) a (Qd id (E.els xs) a) := by
 cases a with
 | one c => exact .one (FP h hid hc ho)
 | ag l => exact .ag (Ep h hid hc ho)
 | _ => exact AF.same ho
theorem yS (id : Nat) (els : List (List PV)) : ∀ (st : St) (i j : Nat), (Ea id els i st)[j]? = (st[j]?).map fun b => bif Nat.beq (i + j) id then bJ.dead else P9 id els b
 | [], i, j => by simp [Ea]
 | b :: l, i, 0 => by simp [Ea]
 | b :: l, i, j + 1 => by simp only [Ea, List.getElem?_cons_succ]; rw [yS id els l (i + 1) j, show i + 1 + j = i + (j + 1) by omega]
theorem CI {id : Nat} : ∀ {st : St} {j : Nat} {b : bJ}, st[j]? = some b → ∀ p ∈ PZ id b, p ∈ Jj id st
 | [], j, b, h, p, hp => by simp at h
 | x :: l, 0, b, h, p, hp => by simp at h; subst h; simp [Jj, hp]
 | x :: l, j + 1, b, h, p, hp => by simp only [Jj, List.mem_append]; exact .inr (CI (by simpa using h) p hp)
def H6 (id : Nat) (els : List (List PV)) (fr : Fr) : List Nat → Fr
 | [] => kM (Aa id) fr
 | t :: ts => (t, Qd id els (lk fr t)) :: H6 id els fr ts
def H0 (id : Nat) (fr : Fr) : List Nat → List (Nat × Nat × Nat)
 | [] => []
 | t :: ts => Qt id (lk fr t) ++ H0 id fr ts
def HU (id : Nat) (fr : Fr) : List Nat → Bool
 | [] => true
 | t :: ts => PX id (lk fr t) && HU id fr ts
theorem EZ {E : pr α} {xs : List α} {id : Nat} {L : List (Nat × Nat × Nat)} (h : ∀ p ∈ L, p = (E.sz, 0, xs.length)) {st : St} (hid : st[id]? = some (.arr E.sz (E.els xs))) : ∀ {ts : List Nat}, (∀ p ∈ H0 id fr ts, p ∈ L) → HU id fr ts = true → ∀ t, AF st (Aa id) (lk fr t) (lk (H6 id (E.els xs) fr ts) t)
 | [], _, _, t => by
  simp only [H6]
  rw [so]
  cases hi : cV (Aa id) (lk fr t) with
  | false => exact .j _
  | true => exact AF.same hi
 | u :: ts, hc, ho, t => by
  simp only [HU, Bool.and_eq_true] at ho
  simp only [H6, lk]
  cases hb : Nat.beq u t with
  | true =>
   have := Nat.eq_of_beq_eq_true hb
   subst this
   exact LX h hid (fun p hp => hc p (by simp [H0, hp])) ho.1
  | false => exact EZ h hid (fun p hp => hc p (by simp [H0, hp])) ho.2 t
def Dt (n0 id : Nat) (ts : List Nat) (s : SS) : Option (Nat × List (List PV) × List (Nat × Nat × Nat)) :=
 match s.st[id]? with
 | some (.arr sz els) => bif Nat.ble n0 id && (HU id s.fr ts && s.st.all (P5 id)) then some (sz, els, H0 id s.fr ts ++ Jj id s.st) else none
 | _ => none
def yg (id : Nat) (els : List (List PV)) (ts : List Nat) (s : SS) : SS := match s with
 | ⟨ks, fr, st, kn⟩ => fF (H6 id els fr ts) fun fr => fS (Ea id els 0 st) fun st => ⟨ks, fr, st, kn⟩
theorem Du {E : pr α} {xs : List α} {id : Nat} {ts : List Nat} {L : List (Nat × Nat × Nat)} (he : Dt n0 id ts s = some (E.sz, E.els xs, L)) (hL : ∀ p ∈ L, p = (E.sz, 0, xs.length)) :
  oj n n0 loose s.fr s.st (yg id (E.els xs) ts s).fr (yg id (E.els xs) ts s).st := by
 unfold Dt at he
 split at he
 ·rename_i sz els hid
  cases hb : Nat.ble n0 id && (HU id s.fr ts && s.st.all (P5 id)) with
  | false => simp [hb] at he
  | true =>
   simp only [hb, cond_true, Option.some.injEq, Prod.mk.injEq] at he
   obtain ⟨rfl, rfl, rfl⟩ := he
   simp only [Bool.and_eq_true] at hb
   obtain ⟨h1, h2, h3⟩ := hb
   obtain ⟨ks, fr, st, kn⟩ := s
   simp only [yg, rU, pm]
   simp only at hid h2 h3 hL
   refine oj.frz (q := Aa id) ⟨fun i o' ho => ?_, fun i hq hi => ?_⟩ (EZ hL hid (fun p hp => by simp [hp]) h2) (fun i hi => ?_)
   ·rw [yS, Nat.zero_add, Option.map_eq_some_iff] at ho
    obtain ⟨b, hb, e⟩ := ho
    cases hbi : Nat.beq i id with
    | true => simp only [hbi, cond_true] at e; exact .inl e.symm
    | false =>
     simp only [hbi, cond_false] at e
     refine .inr ⟨by simp [Aa, hbi], b, hb, ?_⟩
     subst e
     have hok := List.all_eq_true.1 h3 b (List.mem_of_getElem? hb)
     cases b with
     | box l => exact .box (Ep hL hid (fun p hp => by simp only [List.mem_append]; exact .inr (CI hb p hp)) hok)
     | _ => exact .same _ rfl
   ·have : (Ea id (E.els xs) 0 st)[i]? ≠ none := by
     rw [yS]
     simp [hi]
    simp only [ne_eq, List.getElem?_eq_none_iff] at this
    omega
   ·have h4 := Nat.le_of_ble_eq_true h1
    simp only [pD, Bool.and_eq_true] at hi
    have h5 := Nat.le_of_ble_eq_true hi.1
    have : i ≠ id := by omega
    simp only [Aa, rY this, Bool.not_false]
 ·cases he
theorem Dv {id : Nat} {els : List (List PV)} {ts : List Nat} : (yg id els ts s).ks = s.ks := by
 obtain ⟨ks, fr, st, kn⟩ := s
 simp only [yg, rU, pm]
def GP {γ : Type} (y : γ) (l : List γ) : List γ := l.map fun _ => y
theorem Fd {γ : Type} {y : γ} {l : List γ} (h : l = GP y l) : ∀ p ∈ l, p = y := by
 intro p hp
 rw [h] at hp
 simp only [GP, List.mem_map] at hp
 obtain ⟨_, _, e⟩ := hp
 exact e.symm
def xZ (n0 id : Nat) (ts : List Nat) (s : SS) : List (Nat × Nat × Nat) := match Dt n0 id ts s with
 | some (_, _, L) => L
 | none => []
theorem ou (E : pr α) (xs : List α) (id : Nat) (ts : List Nat) (k : GG P n n0 loose an r Q T (yg id (E.els xs) ts (run P n an s))) (he : Dt n0 id ts (run P n an s) = some (E.sz, E.els xs, GP (E.sz, 0, xs.length) (xZ n0 id ts (run P n an s))) := by kernel_rfl)
  (ht : vr (run P n an s).ks = true := by kernel_rfl) : GG P n n0 loose an r Q T s := by
 refine ⟨fun h => bM (an := an) ?_⟩
 have hL := he
 have e : xZ n0 id ts (run P n an s) = GP (E.sz, 0, xs.length) (xZ n0 id ts (run P n an s)) := by
  conv => lhs; unfold xZ; rw [he]
 have hs := Du (n := n) (loose := loose) he (by rw [← e]; exact Fd e)
 have k := k h
 refine QK.sub ht hs ?_
 have : XK P n n0 loose Q (yg id (E.els xs) ts (run P n an s)) := k
 unfold XK at this
 rw [Dv] at this
 exact this
theorem rP {K : KP n n0 loose} (E : pr α) (xs : List α) (id : Nat) (ts : List Nat) (k : GG P n n0 loose an r (jK K.p Q1) T (yg id (E.els xs) ts (run P n an s))) (he : Dt n0 id ts (run P n an s) = some (E.sz, E.els xs, GP (E.sz, 0, xs.length) (xZ n0 id ts (run P n an s))) := by kernel_rfl)
  (ht : (run P n an s).ks.isEmpty = true := by kernel_rfl) : GG P n n0 loose an r (jK K.p Q1) T s := by
 refine ⟨fun h => bM (an := an) ?_⟩
 have e : xZ n0 id ts (run P n an s) = GP (E.sz, 0, xs.length) (xZ n0 id ts (run P n an s)) := by
  conv => lhs; unfold xZ; rw [he]
 have hs := Du (n := n) (loose := loose) he (by rw [← e]; exact Fd e)
 have k := k h
 have hk : (run P n an s).ks = [] := List.isEmpty_iff.1 ht
 unfold XK at k ⊢
 rw [Dv] at k
 rw [hk] at k ⊢
 exact K.cl hs k
def Ki : List CV → List PV
 | .pv p :: l => p :: Ki l
 | _ => []
def Pt (id : Nat) (ps : List PV) : CV → CV
 | .pt i sz k off => bif Nat.beq i id then .pv (.rp [ps] k off) else .pt i sz k off
 | .fn f [.pt i sz k off] => bif Nat.beq i id then .fn f [.pv (.rp [ps] k off)] else .fn f [.pt i sz k off]
 | c => c
def PA (id : Nat) (ps : List PV) : AV → AV
 | .one c => .one (Pt id ps c)
 | a => a
def Qb (id : Nat) : AV → Bool
 | .one (.pt i _ k _) => Nat.beq i id && Nat.beq k 0
 | .one (.fn _ [.pt i _ k _]) => Nat.beq i id && Nat.beq k 0
 | _ => false
def Jd (id : Nat) (ps : List PV) (fr : Fr) : List Nat → Fr
 | [] => kM (Aa id) fr
 | t :: ts => (t, PA id ps (lk fr t)) :: Jd id ps fr ts
def KS (id : Nat) (fr : Fr) : List Nat → Bool
 | [] => true
 | t :: ts => Qb id (lk fr t) && KS id fr ts
def Pc (id : Nat) (s : SS) : List PV := match s.st[id]? with
 | some (.box cells) => Ki cells
 | _ => []
def PB (n0 id : Nat) (ts : List Nat) (s : SS) : Bool := match s.st[id]? with
 | some (.box cells) => Nat.beq (Ki cells).length cells.length && (Nat.ble n0 id && (KS id s.fr ts && dL (Aa id) (s.st.set id .dead)))
 | _ => false
def LQ (id : Nat) (ts : List Nat) (s : SS) : SS := match s with
 | ⟨ks, fr, st, kn⟩ => fF (Jd id (Pc id ⟨ks, fr, st, kn⟩) fr ts) fun fr => fS (st.set id .dead) fun st => ⟨ks, fr, st, kn⟩
theorem Fz : ∀ (l : List CV), (Ki l).length = l.length → l = (Ki l).map .pv
 | [], _ => rfl
 | c :: l, h => by
  cases c with
  | pv p =>
   simp only [Ki, List.length_cons, Nat.add_right_cancel_iff] at h
   simp only [Ki, List.map_cons]
   rw [← Fz l h]
  | _ => simp [Ki] at h
theorem FG {id : Nat} {ps : List PV} {st : St} (hid : st[id]? = some (.box (ps.map .pv))) : ∀ {ts : List Nat}, KS id fr ts = true → ∀ t, AF st (Aa id) (lk fr t) (lk (Jd id ps fr ts) t)
 | [], _, t => by
  simp only [Jd]
  rw [so]
  cases hi : cV (Aa id) (lk fr t) with
  | false => exact .j _
  | true => exact AF.same hi
 | u :: ts, ho, t => by
  simp only [KS, Bool.and_eq_true] at ho
  simp only [Jd, lk]
  cases hb : Nat.beq u t with
  | false => exact FG hid ho.2 t
  | true =>
   have := Nat.eq_of_beq_eq_true hb
   subst this
   have ho := ho.1
   simp only [cond_true]
   unfold Qb at ho
   split at ho
   ·rename_i i sz k off e
    simp only [Bool.and_eq_true] at ho
    have h1 := Nat.eq_of_beq_eq_true ho.1
    have h2 := Nat.eq_of_beq_eq_true ho.2
    subst h1; subst h2
    rw [e]
    simp only [PA, Pt, Nat.beq_refl, cond_true]
    exact .one (.pt hid (by simp [Aa]))
   ·rename_i f i sz k off e
    simp only [Bool.and_eq_true] at ho
    have h1 := Nat.eq_of_beq_eq_true ho.1
    have h2 := Nat.eq_of_beq_eq_true ho.2
    subst h1; subst h2
    rw [e]
    simp only [PA, Pt, Nat.beq_refl, cond_true]
    exact .one (.fnp hid (by simp [Aa]))
   ·cases ho
theorem Nf {id : Nat} {ts : List Nat} (he : PB n0 id ts s = true) : oj n n0 loose s.fr s.st (LQ id ts s).fr (LQ id ts s).st := by
 obtain ⟨ks, fr, st, kn⟩ := s
 unfold PB at he
 split at he
 ·rename_i cells hid
  simp only [Bool.and_eq_true] at he
  obtain ⟨h1, h2, h3, h4⟩ := he
  have h1 := Nat.eq_of_beq_eq_true h1
  have hps : Pc id ⟨ks, fr, st, kn⟩ = Ki cells := by simp only [Pc]; simp only at hid; rw [hid]
  simp only [LQ, rU, pm, hps]
  simp only at hid h3 h4
  rw [Fz cells h1] at hid
  refine oj.frz (q := Aa id) ⟨fun i o' ho => ?_, fun i hq hi => by simpa using hi⟩ (FG hid h3) (fun i hi => ?_)
  ·rw [List.getElem?_set] at ho
   by_cases hii : id = i
   ·subst hii
    simp only [if_true] at ho
    split at ho
    ·exact .inl (Option.some.inj ho).symm
    ·cases ho
   ·rw [if_neg hii] at ho
    refine .inr ⟨by simp only [Aa, Bool.not_eq_true', rY (fun e : i = id => hii e.symm)], o', ho, .same _ ?_⟩
    exact iL h4 i o' (by rw [List.getElem?_set, if_neg hii]; exact ho)
  ·have h5 := Nat.le_of_ble_eq_true h2
   simp only [pD, Bool.and_eq_true] at hi
   have h6 := Nat.le_of_ble_eq_true hi.1
   have : i ≠ id := by omega
   simp only [Aa, rY this, Bool.not_false]
 ·cases he
theorem MG {id : Nat} {ts : List Nat} : (LQ id ts s).ks = s.ks := by
 obtain ⟨ks, fr, st, kn⟩ := s
 simp only [LQ, rU, pm]
theorem P6 (id : Nat) (ts : List Nat) (k : GG P n n0 loose an r Q T (LQ id ts (run P n an s))) (he : PB n0 id ts (run P n an s) = true := by kernel_rfl)
  (ht : vr (run P n an s).ks = true := by kernel_rfl) : GG P n n0 loose an r Q T s := by
 refine ⟨fun h => bM (an := an) ?_⟩
 have hs := Nf (n := n) (loose := loose) he
 have k := k h
 refine QK.sub ht hs ?_
 have : XK P n n0 loose Q (LQ id ts (run P n an s)) := k
 unfold XK at this
 rw [MG] at this
 exact this
inductive Cv where
 | li (t sz : Nat)
 | sf (t : Nat)
 | lb (bx j sz : Nat)
 | sb (bx j : Nat)
 | stl (bx j : Nat)
 | sw (a b : Nat)
 | dd (k : Nat)
def Ko (n0 : Nat) (loose : List Nat) (c : Cv) (fr : Fr) (st : St) : Option (Fr × St) := match c with
 | .li t sz => (match lk fr t with
  | .one (.pv (.s (.slice none 0 0))) => some ((t, .one (.sl st.length sz 0 0)) :: fr, st ++ [.arr sz []])
  | _ => none)
 | .sf t => some ((t, Nu (lk fr t)) :: fr, st)
 | .lb bx j sz => (match st[bx]? with
  | some (.box cells) => (match cells[j]? with
   | some (.pv (.s (.slice none 0 0))) => some (fr, (st ++ [bJ.arr sz []]).set bx (.box (cells.set j (.sl st.length sz 0 0))))
   | _ => none)
  | _ => none)
 | .sb bx j => (match st[bx]? with
  | some (.box cells) => (match cells[j]? with
   | some (.pv (.s (.slice none 0 0))) => some (fr, st.set bx (.box (cells.set j (.pv (.ro [])))))
   | _ => none)
  | _ => none)
 | .stl bx j => (match st[bx]? with
  | some (.box cells) => (match cells[j]? with
   | some (.sl id sz off len) => some (fr, (st ++ [bJ.dead]).set bx (.box (cells.set j (.sl st.length sz off len))))
   | _ => none)
  | _ => none)
 | .dd k => some (fr, st ++ List.replicate k .dead)
 | .sw a b => bif (Nat.ble (a + 1) st.length && Nat.ble (b + 1) st.length) && !(pD n0 loose a || pD n0 loose b) then some (Ff a b fr, vt a b st) else none
theorem Ij {c : Cv} {fr' : Fr} {st' : St} (h : Ko n0 loose c fr st = some (fr', st')) : oj n n0 loose fr st fr' st' := by
 unfold Ko at h
 cases c with
 | li t sz =>
  simp only at h
  split at h
  ·rename_i hl
   simp only [Option.some.injEq, Prod.mk.injEq] at h
   obtain ⟨rfl, rfl⟩ := h
   exact oj.list hl
  ·cases h
 | sf t =>
  simp only [Option.some.injEq, Prod.mk.injEq] at h
  obtain ⟨rfl, rfl⟩ := h
  intro ι w a hR hF
  refine ⟨ι, hR, ⟨hF.defers, hF.size, fun t' => ?_⟩, .refl⟩
  simp only [lk]
  cases hb : Nat.beq t t' with
  | true =>
   have := Nat.eq_of_beq_eq_true hb
   subst this
   exact (hF.slot t).le (JE _)
  | false => exact hF.slot t'
 | lb bx j sz =>
  simp only at h
  split at h
  ·rename_i cells hb
   split at h
   ·rename_i hj
    simp only [Option.some.injEq, Prod.mk.injEq] at h
    obtain ⟨rfl, rfl⟩ := h
    exact oj.listb bx j sz cells hb hj _ rfl
   ·cases h
  ·cases h
 | sb bx j =>
  simp only at h
  split at h
  ·rename_i cells hb
   split at h
   ·rename_i hj
    simp only [Option.some.injEq, Prod.mk.injEq] at h
    obtain ⟨rfl, rfl⟩ := h
    exact oj.softb bx j cells hb hj _ rfl
   ·cases h
  ·cases h
 | stl bx j =>
  simp only at h
  split at h
  ·rename_i cells hb
   split at h
   ·rename_i id sz off len hj
    simp only [Option.some.injEq, Prod.mk.injEq] at h
    obtain ⟨rfl, rfl⟩ := h
    exact oj.stale bx j id sz off len cells hb hj _ rfl
   ·cases h
  ·cases h
 | dd k =>
  simp only [Option.some.injEq, Prod.mk.injEq] at h
  obtain ⟨rfl, rfl⟩ := h
  exact oj.dead k
 | sw a b =>
  simp only at h
  cases hb : (Nat.ble (a + 1) st.length && Nat.ble (b + 1) st.length) && !(pD n0 loose a || pD n0 loose b) with
  | false => rw [hb] at h; cases h
  | true =>
   rw [hb] at h
   simp only [cond_true, Option.some.injEq, Prod.mk.injEq] at h
   obtain ⟨rfl, rfl⟩ := h
   simp only [Bool.and_eq_true, Bool.not_eq_true'] at hb
   exact oj.swap a b _ _ (by simp only [Bool.and_eq_true]; exact hb.1) hb.2 rfl rfl
def Nl (n0 : Nat) (loose : List Nat) (c : Cv) (s : SS) : SS := match s with
 | ⟨ks, fr, st, kn⟩ => match Ko n0 loose c fr st with
  | some (fr', st') => fF fr' fun fr' => fS st' fun st' => ⟨ks, fr', st', kn⟩
  | none => ⟨ks, fr, st, kn⟩
theorem I5 (c : Cv) (s : SS) : (Nl n0 loose c s).ks = s.ks ∧ oj n n0 loose s.fr s.st (Nl n0 loose c s).fr (Nl n0 loose c s).st := by
 obtain ⟨ks, fr, st, kn⟩ := s
 unfold Nl
 simp only
 cases hd : Ko n0 loose c fr st with
 | none => exact ⟨rfl, fun ι w a hR hF => ⟨ι, hR, hF, .refl⟩⟩
 | some p =>
  obtain ⟨fr', st'⟩ := p
  simp only [rU, pm]
  exact ⟨trivial, Ij hd⟩
theorem pq (c : Cv) (k : GG P n n0 loose an r Q T (Nl n0 loose c (run P n an s))) (ht : vr (run P n an s).ks = true := by kernel_rfl) : GG P n n0 loose an r Q T s := by
 refine ⟨fun h => bM (an := an) ?_⟩
 have k := k h
 obtain ⟨e, hs⟩ := I5 (n := n) (n0 := n0) (loose := loose) c (run P n an s)
 unfold XK at k
 rw [e] at k
 exact QK.sub ht hs k
theorem NZ {K : KP n n0 loose} (c : Cv) (k : GG P n n0 loose an r (jK K.p Q1) T (Nl n0 loose c (run P n an s))) (ht : (run P n an s).ks.isEmpty = true := by kernel_rfl) : GG P n n0 loose an r (jK K.p Q1) T s := by
 refine ⟨fun h => bM (an := an) ?_⟩
 have k := k h
 obtain ⟨e, hs⟩ := I5 (n := n) (n0 := n0) (loose := loose) c (run P n an s)
 have hk : (run P n an s).ks = [] := List.isEmpty_iff.1 ht
 unfold XK at k ⊢
 rw [e] at k
 rw [hk] at k ⊢
 exact K.cl hs k
end
end Go.SX
namespace Go.SX
open Go
section
variable {P : Program} {n n0 : Nat} {loose an : List Nat} {Q Q1 : QT} {α β : Type} {T x y : Option β} {r : β} {s : SS} {fr : Fr} {st : St} {ops : Array Oper} {l : List Oper}
def JP (X : List Nat) (ops : Array Oper) (o : Oper) (fr : Fr) (st : St) (mv : Option Nat) : List Nat × List Nat := match mv with
 | none => (pG X (bK ops o fr), bK ops o fr ++ [])
 | some id => (match st[id]? with
  | some .dead => (pG X (id :: bK ops o fr), (id :: bK ops o fr) ++ [id + 1000])
  | _ => (pG X (bK ops o fr), bK ops o fr ++ [id + 1000]))
def En (st : St) (mv : Option Nat) : Bool := match mv with
 | none => true
 | some id => (match st[id]? with
  | some .dead => false
  | _ => true)
def dN (o : Oper) : Nat := match o.dst with
 | some d => d + 1
 | none => 0
def L4 (P : Program) (an X : List Nat) (ops : Array Oper) (o : Oper) (fr : Fr) (st : St) (hs : HS) : Option vC :=
 match ev P (sA an o) o (cw ops o fr) (j0 (aM (bK ops o fr)) 0 st) hs with
 | some out => bif Nat.beq out.st.length st.length then
   bif (!sA an o && LA (dN o) ops X o fr st (bK ops o fr) out) && (E1 st (bK ops o fr) && En st out.mv) then some ⟨out.av, hY (aM (bK ops o fr)) 0 st out.st, out.ob, out.hs, out.mv⟩ else none
  else (match G3 X st, out.st.drop st.length with
   | some id, [b] => bif KT (dN o) ops X id o fr st (bK ops o fr) out b && E1 st (id :: bK ops o fr) then some ⟨pX (zi st.length id) out.av, (hY (aM (bK ops o fr)) 0 st (out.st.take st.length)).set id b, out.ob, out.hs, some id⟩ else none
   | _, _ => none)
 | none => none
theorem DN {o : Oper} (h : ∀ d, o.dst = some d → d < n) : ot n o = true := by
 unfold ot
 cases hd : o.dst with
 | none => rfl
 | some d => exact Nat.ble_eq_true_of_le (h d hd)
theorem NA {X T : List Nat} {o : Oper} {out : vC} (h : LA (dN o) ops X o fr st T out = true) (hd : ot n o = true) : LA n ops X o fr st T out = true := by
 unfold LA at h ⊢
 simp only [Bool.and_eq_true] at h ⊢
 exact ⟨⟨⟨hd, h.1.1.2⟩, h.1.2⟩, h.2⟩
theorem OH {X T : List Nat} {id : Nat} {o : Oper} {out : vC} {b : bJ} (h : KT (dN o) ops X id o fr st T out b = true) (hd : ot n o = true) : KT n ops X id o fr st T out b = true := by
 unfold KT at h ⊢
 simp only [Bool.and_eq_true] at h ⊢
 exact ⟨⟨⟨⟨⟨hd, h.1.1.1.1.2⟩, h.1.1.1.2⟩, h.1.1.2⟩, h.1.2⟩, h.2⟩
theorem Fm (m : Nat) : (fun id => !aM [m] id) = kq (some m) := by funext id; simp [aM, kq]
def IS (P : Program) (an : List Nat) (hs : HS) (s : SS) : Option vC := match s.ks with
 | .g X ops (o :: _) _ :: _ => (match JM ops s.kn o (cw ops o s.fr) with
  | some true => L4 P an X ops o s.fr s.st hs
  | _ => none)
 | .o ops (o :: _) :: _ => (match JM ops s.kn o s.fr with
  | some true => ev P (sA an o) o s.fr s.st hs
  | _ => none)
 | _ => none
def zY {β : Type} (q : Nat → Bool) : Fr → (Fr → β) → β
 | [], K => K []
 | (d, av) :: fr, K => match cV q av with
  | true => zY q fr fun fr => K ((d, av) :: fr)
  | false => zY q fr fun fr => K ((d, .j) :: fr)
theorem wI {β : Type} (q : Nat → Bool) : ∀ (fr : Fr) (K : Fr → β), zY q fr K = K (kM q fr)
 | [], K => rfl
 | (d, av) :: fr, K => by
  simp only [zY, kM]
  cases cV q av <;> simp only [wI q fr, cond_true, cond_false]
def Pv {β : Type} (mv : Option Nat) (fr : Fr) (K : Fr → β) : β := match mv with
 | none => K fr
 | some m => zY (kq (some m)) fr K
theorem Jc {β : Type} (mv : Option Nat) (fr : Fr) (K : Fr → β) : Pv mv fr K = K (JN mv fr) := by
 cases mv with
 | none => rfl
 | some m => exact wI _ _ _
def Hs (n : Nat) (av : AV) (st' : St) (mv : Option Nat) (s : SS) : SS := match s with
 | ⟨.o ops (o :: l) :: k, fr, _, kn⟩ => fA av fun av => fS st' fun st' => Pv mv fr fun fr => tC n o.dst av fr (fun fr' => wa false o.dst kn fun kn' => ⟨.o ops l :: k, fr', st', kn'⟩) s
 | ⟨.g X ops (o :: l) tw :: k, fr, st, kn⟩ => fA av fun av => fS st' fun st' => Pv mv fr fun fr' => tC n o.dst av fr' (fun fr2 => wa false o.dst kn fun kn' => ⟨.g X ops l (tw ++ [JP X ops o fr st mv]) :: k, fr2, st', kn'⟩) s
 | s => s
theorem GK.ev {X : List Nat} {tw : List (List Nat × List Nat)} {R : Fr → St → Prop} {o : Oper} {hs : HS} {out : vC} {fr2 : Fr} (hg : cY ops o (cw ops o fr) = some true) (he : L4 P an X ops o fr st hs = some out) (hob : gb out.ob) (hp : sv n o.dst out.av (JN out.mv fr) = some fr2)
  (k : GK P n X ops l (tw ++ [JP X ops o fr st out.mv]) R fr2 out.st) : GK P n X ops (o :: l) tw R fr st := by
 obtain ⟨p1, p2⟩ := pZ hp
 have hd := DN (n := n) p1
 unfold L4 at he
 split at he
 ·rename_i out0 hev
  cases hb : Nat.beq out0.st.length st.length with
  | true =>
   simp only [hb, cond_true] at he
   cases hc : (!sA an o && LA (dN o) ops X o fr st (bK ops o fr) out0) && (E1 st (bK ops o fr) && En st out0.mv) with
   | false => rw [hc] at he; cases he
   | true =>
    rw [hc] at he
    simp only [cond_true, Option.some.injEq] at he
    subst he
    simp only [Bool.and_eq_true, Bool.not_eq_true'] at hc
    obtain ⟨⟨c1, c2⟩, c3, c4⟩ := hc
    rw [c1] at hev
    have hw := NA c2 hd
    have hE : Oq P n ops X (o :: l) fr st hs = some (pI o ⟨out0.av, bK ops o fr, bK ops o fr, out0.mv.toList, hY (aM (bK ops o fr)) 0 st out0.st⟩ fr, bK ops o fr, out0.mv.toList, hY (aM (bK ops o fr)) 0 st out0.st, out0.ob) := by
     unfold Oq
     simp only [Aq, hg, hev, hw, cond_true]
    have hn : pI o ⟨out0.av, bK ops o fr, bK ops o fr, out0.mv.toList, hY (aM (bK ops o fr)) 0 st out0.st⟩ fr = fr2 := by
     unfold pI
     cases hm : out0.mv with
     | none => rw [hm] at p2; simp only [Option.toList, JN] at p2 ⊢; rw [xn]; exact p2
     | some m => rw [hm] at p2; simp only [Option.toList, JN] at p2 ⊢; rw [Fm]; exact p2
    rw [hn] at hE
    have ht : JP X ops o fr st out0.mv = (pG X (bK ops o fr), bK ops o fr ++ out0.mv.toList.map (· + 1000)) := by
     unfold JP
     unfold En at c4
     cases hm : out0.mv with
     | none => rfl
     | some m =>
      rw [hm] at c4
      simp only at c4 ⊢
      split
      ·rename_i hd'; rw [hd'] at c4; cases c4
      ·rfl
    refine GK.of (tw1 := JP X ops o fr st out0.mv) (fun h2 => ?_) k
    rw [ht]
    exact GX.wr hs fr2 _ _ _ _ hE hob c3 h2
  | false =>
   simp only [hb, cond_false] at he
   split at he
   ·rename_i id b hf hd2
    cases hc : KT (dN o) ops X id o fr st (bK ops o fr) out0 b && E1 st (id :: bK ops o fr) with
    | false => rw [hc] at he; cases he
    | true =>
     rw [hc] at he
     simp only [cond_true, Option.some.injEq] at he
     subst he
     rw [Bool.and_eq_true] at hc
     have hw := OH hc.1 hd
     have hdd : st[id]? = some .dead := by
      have h := hc.1
      unfold KT at h
      simp only [Bool.and_eq_true] at h
      exact yR h.1.2.1.1.1.1
     have hE : NE P n ops X (sA an o) id (o :: l) fr st hs = some (pI o ⟨pX (zi st.length id) out0.av, id :: bK ops o fr, id :: bK ops o fr, [id], (hY (aM (bK ops o fr)) 0 st (out0.st.take st.length)).set id b⟩ fr, id :: bK ops o fr, (hY (aM (bK ops o fr)) 0 st (out0.st.take st.length)).set id b, out0.ob) := by
      unfold NE
      simp only [Aq, hg, hev, hd2, hw, cond_true]
     have hn : pI o ⟨pX (zi st.length id) out0.av, id :: bK ops o fr, id :: bK ops o fr, [id], (hY (aM (bK ops o fr)) 0 st (out0.st.take st.length)).set id b⟩ fr = fr2 := by
      unfold pI
      simp only [JN] at p2
      rw [← p2]
      simp only
      rw [Fm]
     rw [hn] at hE
     have ht : JP X ops o fr st (some id) = (pG X (id :: bK ops o fr), (id :: bK ops o fr) ++ [id + 1000]) := by
      unfold JP
      simp only [hdd]
     refine GK.of (tw1 := JP X ops o fr st (some id)) (fun h2 => ?_) k
     rw [ht]
     exact GX.new _ id hs fr2 _ _ _ hE hob hc.2 h2
   ·cases he
 ·cases he
theorem IF {out : vC} {hs : HS} (he : IS P an hs s = some out) (hob : gb out.ob) (hm : yT n0 loose out.mv = true) (k : XK P n n0 loose Q (Hs n out.av out.st out.mv s)) : XK P n n0 loose Q s := by
 obtain ⟨ks, fr, st, kn⟩ := s
 unfold IS at he
 split at he
 ·rename_i X ops o l tw k' hk
  simp only at hk
  subst hk
  split at he
  ·rename_i hg
   have hg := qA hg
   simp only [Hs, ug, pm, Jc] at k
   rcases lp (n := n) o.dst out.av (JN out.mv fr) (fun fr' => wa false o.dst kn fun kn' => (⟨.g X ops l (tw ++ [JP X ops o fr st out.mv]) :: k', fr', out.st, kn'⟩ : SS)) ⟨.g X ops (o :: l) tw :: k', fr, st, kn⟩ with ⟨fr', hp, e⟩ | e
   ·obtain ⟨kn', ek⟩ := na false o.dst kn fun kn' => (⟨.g X ops l (tw ++ [JP X ops o fr st out.mv]) :: k', fr', out.st, kn'⟩ : SS)
    rw [e, ek] at k
    exact GK.ev hg he hob hp k
   ·rw [e] at k; exact k
  ·cases he
 ·rename_i ops o l k' hk
  simp only at hk
  subst hk
  split at he
  ·rename_i hg
   have hg := qA hg
   simp only [Hs, ug, pm, Jc] at k
   rcases lp (n := n) o.dst out.av (JN out.mv fr) (fun fr' => wa false o.dst kn fun kn' => (⟨.o ops l :: k', fr', out.st, kn'⟩ : SS)) ⟨.o ops (o :: l) :: k', fr, st, kn⟩ with ⟨fr', hp, e⟩ | e
   ·obtain ⟨kn', ek⟩ := na false o.dst kn fun kn' => (⟨.o ops l :: k', fr', out.st, kn'⟩ : SS)
    rw [e, ek] at k
    have he : ev P (sA an o) o fr st hs = some out := he
    have hg : cY ops o fr = some true := hg
    have h0 : nV P n n0 loose an ops [o] fr st hs = some ⟨.normal, fr', out.st, out.hs, out.ob ++ []⟩ := by simp only [nV, hg, he, hm, cond_true, hp]
    exact XO.run (l := [o]) (rest := l) h0 (by rw [List.append_nil]; exact hob) k
   ·rw [e] at k; exact k
  ·cases he
 ·cases he
theorem Lw {hs hs' : HS} {av av' : AV} {st1 st' : St} {ob : List Prop} {mv : Option Nat} (he : IS P an hs (run P n an s) = some ⟨av, st1, ob, hs', mv⟩) (hob : gb ob) (hm : yT n0 loose mv = true) (e1 : av = av') (e2 : st1 = st')
  (k : GG P n n0 loose an r Q T (Hs n av' st' mv (run P n an s))) : GG P n n0 loose an r Q T s := by
 subst e1; subst e2
 exact ⟨fun h => bM (an := an) (IF he hob hm (k h))⟩
def PT (s : SS) : Nat := match s.ks with
 | .g X _ _ _ :: _ => (G3 X s.st).getD 0
 | _ => s.st.length
def Qc (s : SS) (b : bJ) : St := match s.ks with
 | .g X _ _ _ :: _ => s.st.set ((G3 X s.st).getD 0) b
 | _ => s.st ++ [b]
def Ps (s : SS) : Option Nat := match s.ks with
 | .g X _ _ _ :: _ => some ((G3 X s.st).getD 0)
 | _ => none
theorem kl (E : pr α) (id : Nat) (xs : List α) {ys : List α} {N L : Nat} (k : GG P n n0 loose an r Q x (Hs n (.one (.sl id E.sz 0 (ys ++ xs).length)) ((run P n an s).st.set id (.arr E.sz (E.els (ys ++ xs)))) (some id) (run P n an s))) (hL : L = ys.length := by rfl) (hN : N = xs.length := by rfl)
  (he : IS P an [] (run P n an s) = some ⟨.one (.sl id E.sz 0 (L + (E.els xs).length)), (run P n an s).st.set id (.arr E.sz (E.els ys ++ E.els xs)), [dX E.sz (E.els xs), L = (E.els ys).length, L + (E.els xs).length ≤ 4294967296], [], some id⟩ := by kernel_rfl)
  (hm : yT n0 loose (some id) = true := by kernel_rfl) : GG P n n0 loose an r Q (cr (ys.length + N ≤ 4294967296) x) s := by
 subst hL; subst hN
 refine ⟨fun h => ?_⟩
 obtain ⟨hp, h⟩ := dB h
 exact Lw he ⟨E.ok _, (E.len _).symm, by rw [E.len]; exact hp, trivial⟩ hm (by rw [E.len, List.length_append]) (by rw [E.app2]) k h
theorem OO (id : Nat) (t : ByteArray) {ys : List Int} {L : Nat} (k : GG P n n0 loose an r Q x (Hs n (.one (.sl id 1 0 (ys ++ cK t).length)) ((run P n an s).st.set id (.arr 1 ((eK .u8).els (ys ++ cK t)))) (some id) (run P n an s))) (hL : L = ys.length := by rfl)
  (he : IS P an [] (run P n an s) = some ⟨.one (.sl id 1 0 (L + (ef t).length)), (run P n an s).st.set id (.arr 1 ((eK .u8).els ys ++ ef t)), [dX 1 (ef t), L = ((eK .u8).els ys).length, L + (ef t).length ≤ 4294967296], [], some id⟩ := by kernel_rfl)
  (hm : yT n0 loose (some id) = true := by kernel_rfl) : GG P n n0 loose an r Q (cr (ys.length + (cK t).length ≤ 4294967296) x) s := by
 subst hL
 refine ⟨fun h => ?_⟩
 obtain ⟨hp, h⟩ := dB h
 exact Lw he ⟨EL _, ((eK .u8).len _).symm, by rw [xY]; exact hp, trivial⟩ hm (by rw [Bk]) (by rw [Cg]) k h
theorem DR (E : pr α) (id : Nat) {ys : List α} {i : Int} {L : Nat} {f : α → Option β} (k : ∀ e, at? ys i = some e → GG P n n0 loose an r Q (f e) (xm n (.one (.pt id E.sz (0 + i.toNat) 0)) (run P n an s))) (hL : L = ys.length := by rfl)
  (he : Cd P (run P n an s) = some (.one (.pt id E.sz (0 + i.toNat) 0), [0 ≤ i ∧ i < ((L : Nat) : Int)]) := by kernel_rfl) : GG P n n0 loose an r Q (aw (at? ys i) f) s := by
 subst hL
 refine ⟨fun h => ?_⟩
 obtain ⟨e, ha, h⟩ := lG h
 exact uV _ _ (ob := [_]) ⟨pr.inb' ha, trivial⟩ rfl (k e ha) he h
theorem L6 (E : pr α) (id : Nat) {ys : List α} {i : Int} {e : α} {L : Nat} (ha : at? ys i = some e) (k : GG P n n0 loose an r Q T (xm n (.one (.pt id E.sz (0 + i.toNat) 0)) (run P n an s))) (hL : L = ys.length := by rfl)
  (he : Cd P (run P n an s) = some (.one (.pt id E.sz (0 + i.toNat) 0), [0 ≤ i ∧ i < ((L : Nat) : Int)]) := by kernel_rfl) : GG P n n0 loose an r Q T s := by
 subst hL
 exact uV _ _ (ob := [_]) ⟨pr.inb' ha, trivial⟩ rfl k he
def Hi (P : Program) (hs : HS) (s : SS) : Option (AV × List Prop) :=
 match vp s with
 | some (o, f) => bif jU o.op then (match ev P false o f (zP s) hs with
  | some out => some (out.av, out.ob)
  | none => none) else none
 | none => none
theorem Gi {hs : HS} {av : AV} {ob : List Prop} (he : Hi P hs s = some (av, ob)) (hob : gb ob) : ∃ o f, vp s = some (o, f) ∧ Yd P n (zP s) o f av := by
 unfold Hi at he
 split at he
 ·rename_i o f hd
  cases hq : jU o.op with
  | false => simp [hq] at he
  | true =>
   simp only [hq, cond_true] at he
   split at he
   ·rename_i out hev
    simp only [Option.some.injEq, Prod.mk.injEq] at he
    obtain ⟨rfl, rfl⟩ := he
    exact ⟨o, f, hd, Yd.ev hq hev hob⟩
   ·cases he
 ·cases he
def NF (o : Option (AV × List Prop)) : AV := match o with
 | some (av, _) => av
 | none => .j
theorem Fo (E : pr α) {ys : List α} {i : Int} {e : α} (ha : at? ys i = some e) (k : GG P n n0 loose an r Q T (xm n (NF (Hi P [E.cells e] (run P n an s))) (run P n an s)))
  (he : Hi P [E.cells e] (run P n an s) = some (NF (Hi P [E.cells e] (run P n an s)), [(E.els ys)[0 + i.toNat]? = some (E.cells e)]) := by kernel_rfl) : GG P n n0 loose an r Q T s := by
 refine ⟨fun h => ?_⟩
 obtain ⟨o, g, h1, h2⟩ := Gi (n := n) he ⟨E.get0 ha, trivial⟩
 exact bM (an := an) (lR h1 h2 (k h))
theorem JT (E : pr α) (id : Nat) {ys : List α} {i : Int} {e : α} (ha : at? ys i = some e) (v : α) (k : GG P n n0 loose an r Q T (Hs n .j ((run P n an s).st.set id (.arr E.sz (E.els (ys.set i.toNat v)))) none (run P n an s)))
  (he : IS P an [E.cells e] (run P n an s) = some ⟨.j, (run P n an s).st.set id (.arr E.sz ((E.els ys).set (0 + i.toNat) (E.cells v))), [(E.els ys)[0 + i.toNat]? = some (E.cells e)], [], none⟩ := by kernel_rfl) : GG P n n0 loose an r Q T s :=
 Lw he ⟨E.get0 ha, trivial⟩ rfl rfl (by rw [E.set0]) k
theorem No (E : pr α) (v : α) {N M : Int} (k : GG P n n0 loose an r Q x (Hs n (.one (.sl (PT (run P n an s)) E.sz 0 N.toNat)) (Qc (run P n an s) (.arr E.sz (E.els (List.replicate N.toNat v)))) (Ps (run P n an s)) (run P n an s)))
  (he : IS P an [] (run P n an s) = some ⟨.one (.sl (PT (run P n an s)) E.sz 0 N.toNat), Qc (run P n an s) (.arr E.sz (List.replicate N.toNat (E.cells v))), [0 ≤ N, N ≤ M, M ≤ 4294967296], [], Ps (run P n an s)⟩ := by kernel_rfl) (hm : yT n0 loose (Ps (run P n an s)) = true := by kernel_rfl) : GG P n n0 loose an r Q (cr (0 ≤ N ∧ N ≤ M ∧ M ≤ 4294967296) x) s := by
 refine ⟨fun h => ?_⟩
 obtain ⟨⟨h1, h2, h3⟩, h⟩ := dB h
 exact Lw he ⟨h1, h2, h3, trivial⟩ hm rfl (by rw [E.rep]) k h
theorem uW (d : Nat) (E : pr α) (xs : List α) (k : GG P n n0 loose an r Q T (xm n (vl E xs) (Ae P n an d s))) (he : Cd P (Ae P n an d s) = some (.one (.pv (.ro (xs.map E.cells))), []) := by kernel_rfl) : GG P n n0 loose an r Q T s := by
 refine ⟨fun h => ?_⟩
 rw [← E.hels] at he
 obtain ⟨o, g, h1, h2⟩ := EQ (n := n) he trivial
 exact sr (lR h1 h2 (k h))
def CX (P : Program) (f : Nat) (args : List AV) (sc : St) (lo : List Nat) {β : Type} (T : Option β) (rv : β → AV) (nb : β → St) : Prop := ∀ r, T = some r → MX P f args sc lo (rv r) (nb r)
theorem yv {f : Nat} {args : List AV} {sc : St} {lo : List Nat} {rv : β → AV} {nb : β → St} (k m n : Nat) (an : List Nat) (fn : Func) (g : ∀ r, GG P n k lo an r (wi P fn m rv nb r) T ⟨[.c (cd fn [])], Nv args, OQ sc, []⟩)
  (hf : P.funcs[f]? = some fn := by kernel_rfl) (hb : fn.body = some (cd fn []) := by kernel_rfl) (hn : fn.ntmps = n := by kernel_rfl) (hl : Nat.ble args.length n = true := by rfl) (hk : sc.length = k := by rfl) (hkm : Nat.ble k m = true := by rfl) : CX P f args sc lo T rv nb := by
 intro r hT
 refine MX.of k m hkm hf hb hn (Nat.le_of_ble_eq_true hl) hk ?_
 have := g r hT
 unfold Nv OQ at this
 rw [rU, pm] at this
 refine XW.mono (show XW P n k lo (cd fn []) (QK P n k lo [] (wi P fn m rv nb r)) (lK args 0) sc from ?_) (fun e f s h => h)
 have e : jK (XW P n k lo (cd fn []) (wi P fn m rv nb r)) (wi P fn m rv nb r) .normal (lK args 0) sc := this
 exact e
theorem XO.calxS (g : Nat) (avs avs0 : List AV) (sc sc' : St) (lo : List Nat) (r : AV) (rs : List Nat) (L : List Nat) (fr' : Fr) (st' : St) (hc : s6 P n ops l fr = some (g, avs0)) (b : Bool) (hs : avs0.map (Nh b) = avs.map (pX (i9 rs st.length))) (h : MX P g avs sc lo r sc') (hb : Aw st.length rs sc sc' avs = true)
  (hL : lo.map (i9 rs st.length) = L) (hbx : wY rs L 0 st = true) (hfx : B3 n0 loose L = true)
  (hst : rs.map (fun x => st[x]?) = sc.map (fun o => some (mo (i9 rs st.length) o))) (hst' : dx st rs ((sc'.take sc.length).map (mo (i9 rs st.length))) ++ (sc'.drop sc.length).map (mo (i9 rs st.length)) = st') (hput : AU n l (pX (i9 rs st.length) r) (kM (fun id => !aM L id) fr) = some fr')
  (hk : XO P n n0 loose ops (l.drop 1) Q fr' st') : XO P n n0 loose ops l Q fr st := by
 cases l with
 | nil => simp [s6] at hc
 | cons o rest =>
  simp only [s6] at hc
  split at hc
  ·rename_i hg
   intro ι w a hR hF
   obtain ⟨vs, hrun, hA⟩ := qc hc hF
   have hA := hA.soft b
   rw [hs] at hA
   have hw := dU hg hF
   refine wpList_step fun K hK => ?_
   rw [if_pos hw]
   simp only [Oper.wp, hrun, Oper.upon]
   refine (h.use' rs hb hst (by rw [hL]; exact fun id o ho hn => yc hbx id o ho (by rwa [Nat.zero_add])) hR hA).mono ?_
   rintro e w' ⟨v, ι', rfl, hR', hv, k⟩
   rw [hst', hL] at k
   rw [hst'] at hR' hv
   refine hK _ _ (gK (fun e a w h => h.trans (k.weaken (fun id hf => ?_))) (hk ι' w' _ hR' (mz hput (hF.keep k (q := fun id => !aM L id) (fun id hq _ hm => by rw [ec.2 hm] at hq; cases hq)) hv)))
   intro hm
   have := List.all_eq_true.1 hfx id hm
   have hf' : pD n0 loose id = true := hf
   rw [hf'] at this
   cases this
  ·simp at hc
def Qq (n : Nat) (rs lo : List Nat) (len : Nat) (av : AV) (sc' : St) (s : SS) : SS := match s with
 | ⟨.o ops (o :: l) :: k, fr, st, kn⟩ => fA (pX (i9 rs st.length) av) fun av => fS (dx st rs ((sc'.take len).map (mo (i9 rs st.length))) ++ (sc'.drop len).map (mo (i9 rs st.length))) fun st' => zY (fun id => !aM (lo.map (i9 rs st.length)) id) fr fun fr => tC n o.dst av fr (fun fr' => wa false o.dst kn fun kn' => ⟨.o ops l :: k, fr', st', kn'⟩) s
 | s => s
theorem we (b : Bool) (rs : List Nat) {o : Option α} {f : α → Option β} {g : Nat} {avs : List AV} {sc : St} {lo : List Nat} {rv : α → AV} {nb : α → St} (c : CX P g avs sc lo o rv nb)
  (k : ∀ v, o = some v → GG P n n0 loose an r Q (f v) (Qq n rs lo sc.length (rv v) (nb v) (run P n an s)))
  (h1 : cQ b P n (run P n an s) = some (g, avs.map (pX (i9 rs (run P n an s).st.length))) := by kernel_rfl) (h2 : ∀ v, Aw (run P n an s).st.length rs sc (nb v) avs = true := by intro v; kernel_rfl)
  (h4 : (wY rs (lo.map (i9 rs (run P n an s).st.length)) 0 (run P n an s).st && B3 n0 loose (lo.map (i9 rs (run P n an s).st.length))) = true := by kernel_rfl)
  (h3 : rs.map (fun x => (run P n an s).st[x]?) = sc.map (fun o => some (mo (i9 rs (run P n an s).st.length) o)) := by kernel_rfl) : GG P n n0 loose an r Q (aw o f) s := by
 refine ⟨fun h => ?_⟩
 obtain ⟨v, ho, h⟩ := lG h
 refine bM (an := an) ?_
 have k := k v ho h
 have h2 := h2 v
 generalize run P n an s = s' at *
 obtain ⟨ks, fr, st, kn⟩ := s'
 simp only [Bool.and_eq_true] at h4
 unfold cQ at h1
 split at h1
 ·rename_i ops l k' hk
  simp only at hk
  subst hk
  split at h1
  ·rename_i g' avs' hc
   simp only [Option.some.injEq, Prod.mk.injEq] at h1
   obtain ⟨rfl, h1⟩ := h1
   cases l with
   | nil => simp [s6] at hc
   | cons o' l =>
    simp only [Qq, ug, pm, wI] at k
    rcases lp (n := n) o'.dst (pX (i9 rs st.length) (rv v)) (kM (fun id => !aM (lo.map (i9 rs st.length)) id) fr) (fun fr' => wa false o'.dst kn fun kn' => (⟨.o ops l :: k', fr', dx st rs (((nb v).take sc.length).map (mo (i9 rs st.length))) ++ ((nb v).drop sc.length).map (mo (i9 rs st.length)), kn'⟩ : SS)) ⟨.o ops (o' :: l) :: k', fr, st, kn⟩ with ⟨fr', hp, e⟩ | e
    ·obtain ⟨kn', ek⟩ := na false o'.dst kn fun kn' => (⟨.o ops l :: k', fr', dx st rs (((nb v).take sc.length).map (mo (i9 rs st.length))) ++ ((nb v).drop sc.length).map (mo (i9 rs st.length)), kn'⟩ : SS)
     rw [e, ek] at k
     exact XO.calxS _ _ _ _ _ _ _ _ _ fr' _ hc b h1 (c v ho) h2 rfl h4.1 h4.2 h3 rfl hp k
    ·rw [e] at k; exact k
  ·cases h1
 ·cases h1
def cG (P : Program) (n : Nat) (s : SS) : Option (Nat × List AV) := match s.ks with
 | .g _ ops l _ :: _ => Bl P n ops l s.fr
 | _ => none
def Fl (rs : List Nat) (ops : Array Oper) (o : Oper) (fr : Fr) : List Nat := bK ops o fr ++ rs
def P2 (rs L : List Nat) (av : AV) (st' : St) (s : SS) : Bool := match s.ks with
 | .g X ops (o :: _) _ :: _ => ((E1 s.st (Fl rs ops o s.fr) && xK ops o s.fr (Fl rs ops o s.fr)) && (cV (aM (Fl rs ops o s.fr)) av && rs.all (aM (Fl rs ops o s.fr)))) && (dL (fun i => !aM X i) st' && (L.all (aM X) && L.all (aM (Fl rs ops o s.fr))))
 | _ => false
def P0 (n : Nat) (rs L : List Nat) (av : AV) (st' : St) (s : SS) : SS := match s with
 | ⟨.g X ops (o :: l) tw :: k, fr, st, kn⟩ => fA av fun av => fS st' fun st' => zY (fun id => !aM L id) fr fun fr' => tC n o.dst av fr' (fun fr2 => wa false o.dst kn fun kn' => ⟨.g X ops l (tw ++ [(pG X (Fl rs ops o fr), Fl rs ops o fr ++ L.map (· + 1000))]) :: k, fr2, st', kn'⟩) s
 | s => s
theorem Pe (rs : List Nat) {o : Option α} {f : α → Option β} {g : Nat} {avs : List AV} {sc : St} {lo : List Nat} {rv : α → AV} {nb : α → St} (c : CX P g avs sc lo o rv nb)
  (k : ∀ v, o = some v → GG P n n0 loose an r Q (f v) (P0 n rs (lo.map (i9 rs (run P n an s).st.length)) (pX (i9 rs (run P n an s).st.length) (rv v)) (dx (run P n an s).st rs ((nb v).map (mo (i9 rs (run P n an s).st.length)))) (run P n an s)))
  (h1 : cG P n (run P n an s) = some (g, avs.map (pX (i9 rs (run P n an s).st.length))) := by kernel_rfl)
  (h2 : ∀ v, (yZ (run P n an s).st.length rs sc (nb v) avs && P2 rs (lo.map (i9 rs (run P n an s).st.length)) (pX (i9 rs (run P n an s).st.length) (rv v)) (dx (run P n an s).st rs ((nb v).map (mo (i9 rs (run P n an s).st.length)))) (run P n an s)) = true := by intro v; kernel_rfl)
  (h3 : rs.map (fun x => (run P n an s).st[x]?) = sc.map (fun o => some (mo (i9 rs (run P n an s).st.length) o)) := by kernel_rfl) : GG P n n0 loose an r Q (aw o f) s := by
 refine ⟨fun h => ?_⟩
 obtain ⟨v, ho, h⟩ := lG h
 refine bM (an := an) ?_
 have k := k v ho h
 have hcm := h2 v
 generalize run P n an s = s' at *
 obtain ⟨ks, fr, st, kn⟩ := s'
 rw [Bool.and_eq_true] at hcm
 obtain ⟨hcm, h4⟩ := hcm
 clear h2
 unfold P2 at h4
 split at h4
 ·rename_i X ops o' l tw k' hk
  simp only at hk
  subst hk
  simp only [Bool.and_eq_true] at h4
  obtain ⟨⟨⟨q1, q2⟩, q3, q4⟩, q5, q6, q7⟩ := h4
  simp only [P0, ug, pm, wI] at k
  generalize hL : lo.map (i9 rs st.length) = L at *
  rcases lp (n := n) o'.dst (pX (i9 rs st.length) (rv v)) (kM (fun id => !aM L id) fr) (fun fr' => wa false o'.dst kn fun kn' => (⟨.g X ops l (tw ++ [(pG X (Fl rs ops o' fr), Fl rs ops o' fr ++ L.map (· + 1000))]) :: k', fr', dx st rs ((nb v).map (mo (i9 rs st.length))), kn'⟩ : SS)) ⟨.g X ops (o' :: l) tw :: k', fr, st, kn⟩ with ⟨fr', hp, e⟩ | e
  ·obtain ⟨kn', ek⟩ := na false o'.dst kn fun kn' => (⟨.g X ops l (tw ++ [(pG X (Fl rs ops o' fr), Fl rs ops o' fr ++ L.map (· + 1000))]) :: k', fr', dx st rs ((nb v).map (mo (i9 rs st.length))), kn'⟩ : SS)
   rw [e, ek] at k
   obtain ⟨p1, p2⟩ := pZ hp
   refine GK.of (tw1 := (pG X (Fl rs ops o' fr), Fl rs ops o' fr ++ L.map (· + 1000))) (fun hg => ?_) k
   exact GY.calx g avs sc (nb v) lo (rv v) rs L fr' (Fl rs ops o' fr) _ rfl q1 h1 (c v ho) (by simp only [Bool.and_eq_true]; exact ⟨hcm, q6, q7⟩) hL h3 rfl (by simp only [Aq, Bool.and_eq_true]; exact ⟨⟨q2, DN p1⟩, q3, q4⟩) q5 (by simp only [Aq]; exact p2) hg
  ·rw [e] at k; exact k
 ·cases h4
def Qp (id : Nat) (m : Nat) : CV → CV
 | .sl i sz off len => bif Nat.beq i id then .sl i sz off m else .sl i sz off len
 | c => c
def Qw (id m : Nat) : AV → AV
 | .one c => .one (Qp id m c)
 | a => a
def O7 (id m : Nat) : bJ → bJ
 | .box cs => .box (cs.map (Qp id m))
 | b => b
def O6 (id m : Nat) (fr : Fr) : Fr := fr.map fun x => (x.1, Qw id m x.2)
def Pa (id m : Nat) (s : SS) : SS := match s with
 | ⟨ks, fr, st, kn⟩ => fF (O6 id m fr) fun fr => fS (st.map (O7 id m)) fun st => ⟨ks, fr, st, kn⟩
theorem Bt (id : Nat) {L m : Nat} (h : L = m) (k : GG P n n0 loose an r Q T (Pa id m (run P n an s))) (he : (run P n an s).fr = O6 id L (run P n an s).fr := by kernel_rfl) (he' : (run P n an s).st = (run P n an s).st.map (O7 id L) := by kernel_rfl) : GG P n n0 loose an r Q T s := by
 subst h
 refine ⟨fun h => bM (an := an) ?_⟩
 have k := k.go h
 generalize run P n an s = s' at *
 obtain ⟨ks, fr, st, kn⟩ := s'
 simp only [Pa, rU, pm] at k he he'
 rw [← he, ← he'] at k
 exact k
theorem PF (id : Nat) {L m : Nat} (k : GG P n n0 loose an r Q x (Pa id m (run P n an s))) (he : (run P n an s).fr = O6 id L (run P n an s).fr := by kernel_rfl) (he' : (run P n an s).st = (run P n an s).st.map (O7 id L) := by kernel_rfl) : GG P n n0 loose an r Q (cr (m = L) x) s := by
 refine ⟨fun h => ?_⟩
 obtain ⟨hp, h⟩ := dB h
 exact (Bt id hp.symm k he he').go h
theorem Yd.ext {st : St} {o : Oper} {f : Fr} {g : Nat} {vs us : List Value} (hc : AY P o f = some (g, vs)) (h : Gr P g vs (.tuple us.toArray)) (hp : us.all nS = true) : Yd P n st o f (G1 us) := by
 intro ι w a hR hF K Q hK
 have hrun := ut hc h hF (w := w)
 simp only [Oper.wp, hrun, Oper.upon]
 exact hK _ w ι (u0 hp) hR .refl
def NK (ts : List Nat) : Fr → Fr
 | [] => []
 | (d, av) :: fr => (d, bif ts.any (Nat.beq d) then .j else av) :: NK ts fr
theorem Ju (ts : List Nat) : ∀ (fr : Fr) (t : Nat), lk (NK ts fr) t = lk fr t ∨ lk (NK ts fr) t = .j
 | [], t => .inl rfl
 | (d, av) :: fr, t => by
  simp only [NK, lk]
  cases Nat.beq d t with
  | true =>
   cases ts.any (Nat.beq d) with
   | true => exact .inr rfl
   | false => exact .inl rfl
  | false => exact Ju ts fr t
def Ng (ts : List Nat) (s : SS) : SS := match s with
 | ⟨ks, fr, st, kn⟩ => fF (NK ts fr) fun fr => ⟨ks, fr, st, kn⟩
theorem MW {ts : List Nat} : oj n n0 loose s.fr s.st (Ng ts s).fr (Ng ts s).st := by
 obtain ⟨ks, fr, st, kn⟩ := s
 simp only [Ng, rU]
 exact fun ι w a hR hF => ⟨ι, hR, ⟨hF.defers, hF.size, fun t => by
  rcases Ju ts fr t with h | h
  ·rw [h]; exact hF.slot t
  ·rw [h]; exact .j _⟩, be.refl⟩
theorem LW {ts : List Nat} : (Ng ts s).ks = s.ks := by
 obtain ⟨ks, fr, st, kn⟩ := s
 simp only [Ng, rU]
theorem Hr {K : KP n n0 loose} (ts : List Nat) (k : GG P n n0 loose an r (jK K.p Q1) T (Ng ts (run P n an s))) (ht : (run P n an s).ks.isEmpty = true := by kernel_rfl) : GG P n n0 loose an r (jK K.p Q1) T s := by
 refine ⟨fun h => bM (an := an) ?_⟩
 have hs := MW (n := n) (n0 := n0) (loose := loose) (ts := ts) (s := run P n an s)
 have k := k h
 have hk : (run P n an s).ks = [] := List.isEmpty_iff.1 ht
 unfold XK at k ⊢
 rw [LW] at k
 rw [hk] at k ⊢
 exact K.cl hs k
theorem Ni (id sz off : Nat) {ln : Nat} {L : Int} (hb : decide (L < ((ln : Nat) : Int)) = true) (k : GG P n n0 loose an r Q x (xm n (.one (.sl id sz (off + L.toNat) (ln - L.toNat))) (run P n an s)))
  (he : Cd P (run P n an s) = some (.one (.sl id sz (off + L.toNat) (ln - L.toNat)), [(0 ≤ L ∧ L ≤ ((ln : Nat) : Int) ∧ ((ln : Nat) : Int) ≤ ((ln : Nat) : Int)) ∧ (L.toNat = 0 ∨ L.toNat < ln)]) := by kernel_rfl) : GG P n n0 loose an r Q (cr (0 ≤ L ∧ L ≤ ((ln : Nat) : Int)) x) s := by
 refine ⟨fun h => ?_⟩
 obtain ⟨hp, h⟩ := dB h
 exact uV _ _ (ob := [_]) ⟨⟨⟨hp.1, hp.2, Int.le_refl _⟩, .inr (by have := of_decide_eq_true hb; omega)⟩, trivial⟩ rfl k he h
theorem Nq {ln : Nat} {L : Int} (hb : decide (L < ((ln : Nat) : Int)) = false) (k : GG P n n0 loose an r Q x (xm n (.one (.pv (.ro []))) (run P n an s)))
  (he : Hi P [[.rp [] 0 0]] (run P n an s) = some (.one (.pv (.ro [])), [(0 ≤ L ∧ L ≤ ((ln : Nat) : Int) ∧ ((ln : Nat) : Int) ≤ ((ln : Nat) : Int)) ∧ L.toNat = ((ln : Nat) : Int).toNat]) := by kernel_rfl) : GG P n n0 loose an r Q (cr (0 ≤ L ∧ L ≤ ((ln : Nat) : Int)) x) s := by
 refine ⟨fun h => ?_⟩
 obtain ⟨hp, h⟩ := dB h
 obtain ⟨o, g, h1, h2⟩ := Gi (n := n) he ⟨⟨⟨hp.1, hp.2, Int.le_refl _⟩, by have := of_decide_eq_false hb; omega⟩, trivial⟩
 exact bM (an := an) (lR h1 h2 (k h))
theorem Qr (E : pr α) (id : Nat) (ys xs : List α) (off ln off2 ln2 : Nat) (h1 : off + ln ≤ ys.length) (h2 : off2 + ln2 ≤ xs.length)
  (k : GG P n n0 loose an r Q T (Hs n (vi ((min (((E.els xs).drop off2).take ln2).length ln : Nat) : Int)) ((run P n an s).st.set id (.arr 1 (E.els (qK ys off (((xs.drop off2).take ln2).take (min ((xs.drop off2).take ln2).length ln)))))) none (run P n an s)))
  (he : IS P an [] (run P n an s) = some ⟨vi ((min (((E.els xs).drop off2).take ln2).length ln : Nat) : Int), (run P n an s).st.set id (.arr 1 (ua (E.els ys) off ((((E.els xs).drop off2).take ln2).take (min (((E.els xs).drop off2).take ln2).length ln)))), [dX 1 (((E.els xs).drop off2).take ln2), off + ln ≤ (E.els ys).length, off2 + ln2 ≤ (E.els xs).length], [], none⟩ := by kernel_rfl)
  (hz : E.sz = 1 := by rfl) : GG P n n0 loose an r Q T s :=
 Lw he ⟨by rw [← hz]; exact E.okc _ _ _, by rw [E.len]; exact h1, by rw [E.len]; exact h2, trivial⟩ rfl rfl (by rw [E.cpy _ _ _ _ _ _ h1]) k
theorem Qh (E : pr α) (id : Nat) (ys xs : List α) (off ln : Nat) (h1 : off + ln ≤ ys.length)
  (k : GG P n n0 loose an r Q T (Hs n (vi ((min (E.els xs).length ln : Nat) : Int)) ((run P n an s).st.set id (.arr 1 (E.els (qK ys off (xs.take (min xs.length ln)))))) none (run P n an s)))
  (he : IS P an [] (run P n an s) = some ⟨vi ((min (E.els xs).length ln : Nat) : Int), (run P n an s).st.set id (.arr 1 (ua (E.els ys) off ((E.els xs).take (min (E.els xs).length ln)))), [dX 1 (E.els xs), off + ln ≤ (E.els ys).length, True], [], none⟩ := by kernel_rfl)
  (hz : E.sz = 1 := by rfl) : GG P n n0 loose an r Q T s :=
 Lw he ⟨by rw [← hz]; exact E.ok _, by rw [E.len]; exact h1, trivial, trivial⟩ rfl rfl (by rw [E.cpyR _ _ _ _ h1]) k
theorem PR (E : pr α) (xs : List α) (off2 ln2 : Nat) (h2 : off2 + ln2 ≤ xs.length)
  (k : GG P n n0 loose an r Q T (Hs n (vi 0) (run P n an s).st none (run P n an s)))
  (he : IS P an [] (run P n an s) = some ⟨vi 0, (run P n an s).st, [dX 1 (((E.els xs).drop off2).take ln2), off2 + ln2 ≤ (E.els xs).length], [], none⟩ := by kernel_rfl)
  (hz : E.sz = 1 := by rfl) : GG P n n0 loose an r Q T s :=
 Lw he ⟨by rw [← hz]; exact E.okc _ _ _, by rw [E.len]; exact h2, trivial⟩ rfl rfl rfl k
theorem Qn (E : pr α) (xs : List α)
  (k : GG P n n0 loose an r Q T (Hs n (vi 0) (run P n an s).st none (run P n an s)))
  (he : IS P an [] (run P n an s) = some ⟨vi 0, (run P n an s).st, [dX 1 (E.els xs), True], [], none⟩ := by kernel_rfl)
  (hz : E.sz = 1 := by rfl) : GG P n n0 loose an r Q T s :=
 Lw he ⟨by rw [← hz]; exact E.ok _, trivial, trivial⟩ rfl rfl rfl k
end
end Go.SX
namespace Go.SX
open Go
structure cC where
 leaves : Int
 deriving DecidableEq
structure ac where
 b : List Int
 bad : Bool
 deriving DecidableEq
structure ar where
 b : List Int
 bad : Bool
 deriving DecidableEq
structure nz where
 below : Bool
 d : List Int
 deriving DecidableEq
structure rG (α : Type) where
 id : Int
 name : ByteArray
 need : Bool
 type : α
structure ae where
 kind : Int
 scale : Int
 fields : List (rG ae)
abbrev aV := rG ae
structure aa where
 kind : Int
 n : Int
 scale : Int
 s : ByteArray
 items : List aa
mutual
def ae.cells : ae → List PV
 | ⟨k, s, fs⟩ => [pi k, pi s, .ro (ae.fcells fs)]
def ae.fcells : List (rG ae) → List (List PV)
 | [] => []
 | f :: l => ae.fcell f :: ae.fcells l
def ae.fcell : rG ae → List PV
 | ⟨i, n, q, t⟩ => pi i :: .s (.string n) :: .s (.bool q) :: ae.cells t
end
mutual
def aa.cells : aa → List PV
 | ⟨k, n, sc, s, it⟩ => [pi k, pi n, pi sc, .s (.string s), .ro (aa.lcells it)]
def aa.lcells : List aa → List (List PV)
 | [] => []
 | v :: l => aa.cells v :: aa.lcells l
end
theorem ae.fcells_eq : ∀ l : List (rG ae), ae.fcells l = l.map ae.fcell
 | [] => rfl
 | f :: l => by rw [ae.fcells, ae.fcells_eq l]; rfl
theorem aa.lcells_eq : ∀ l : List aa, aa.lcells l = l.map aa.cells
 | [] => rfl
 | f :: l => by rw [aa.lcells, aa.lcells_eq l]; rfl
abbrev HJ (f : aV) : List PV := [pi f.id, .s (.string f.name), .s (.bool f.need), pi f.type.kind, pi f.type.scale, .ro (ae.fcells f.type.fields)]
abbrev Il (v : aa) : List PV := [pi v.kind, pi v.n, pi v.scale, .s (.string v.s), .ro (aa.lcells v.items)]
theorem GI : ae.fcell = HJ := funext fun ⟨_, _, _, ⟨_, _, _⟩⟩ => rfl
theorem GV : aa.cells = Il := funext fun ⟨_, _, _, _, _⟩ => rfl
def aI : pr aV := ⟨6, HJ, ae.fcells, fun l => by rw [ae.fcells_eq, GI], fun _ => rfl⟩
def ap : pr aa := ⟨5, Il, aa.lcells, fun l => by rw [aa.lcells_eq, GV], fun _ => rfl⟩
end Go.SX
namespace Go.SX
open Go Go.Shelf Go.Lib Go.Proofs Go.RowKit
theorem zQ {ι : IM} {w : World} {st : St} : ∀ {us vs : List Value}, vs.length = us.length → (∀ (j : Nat) v a, vs[j]? = some v → (us.map fun u => AV.one (.pv (.s u)))[j]? = some a → aD ι w st v a) → vs = us
 | [], [], _, _ => rfl
 | [], _ :: _, h, _ => by simp at h
 | _ :: _, [], h, _ => by simp at h
 | u :: us, v :: vs, h, hA => by
  have h0 := bB (hA 0 v _ rfl rfl)
  subst h0
  rw [zQ (us := us) (vs := vs) (by simpa using h) (fun j x a h1 h2 => hA (j + 1) x a (by simpa using h1) (by simpa using h2))]
theorem PC.below {P : Program} {f : Nat} {us : List Value} {v : Value} (hv : nS v = true)
  (h : ∀ w : World, (∀ (b : Nat) (l : List Value), C2 b = some l → ∀ (i : Nat) x, l[i]? = some x → w.cell? ⟨b, i, none⟩ = some x) → Calls P f us.toArray w fun e w' => e = .returned v ∧ Below w.heap.size w w') :
  PC P f (us.map fun u => .one (.pv (.s u))) (.one (.pv (.s v))) := by
 intro ι w vs hR hA
 obtain rfl := zQ (by simpa using hA.1) hA.2
 refine (h w (fun b l hb => (hR.gl b l hb).2.2)).mono ?_
 rintro e w' ⟨rfl, hb⟩
 have hx : oh w w' := ⟨hb.os, hb.tape, hb.output, hb.size, fun b hlt => hb.block b hlt⟩
 exact ⟨v, _, [], ι, rfl, ⟨rfl, rfl⟩, hR.ext hx, .one _ _ (.pv _ _ (.s _ hv)), (hx.keeps ι []).weaken (fun _ _ => trivial)⟩
theorem Kz {g3 g4 : Nat} {w : World} (h3 : ∀ (i : Nat) x, vM[i]? = some x → w.cell? ⟨g3, i, none⟩ = some x) (h4 : ∀ (i : Nat) x, C5[i]? = some x → w.cell? ⟨g4, i, none⟩ = some x) : Utf8Tabs g3 g4 w := by
 refine ⟨fun c hc => h3 c _ ?_, fun i hi => ⟨h4 _ _ ?_, h4 _ _ ?_⟩⟩
 ·simp [vM, hc]
 ·simp [C5, show 2 * i < 32 by omega]
 ·simp [C5, show 2 * i + 1 < 32 by omega, show (2 * i + 1) / 2 = i by omega]
theorem Km {g3 g4 : Nat} {w : World} (h : Utf8Tabs g3 g4 w) : (∀ (i : Nat) x, vM[i]? = some x → w.cell? ⟨g3, i, none⟩ = some x) ∧ (∀ (i : Nat) x, C5[i]? = some x → w.cell? ⟨g4, i, none⟩ = some x) := by
 refine ⟨fun i x hx => ?_, fun i x hx => ?_⟩
 ·by_cases hi : i < 256
  ·simp [vM, hi] at hx; subst hx; exact h.1 i hi
  ·simp [vM, hi] at hx
 ·by_cases hi : i < 32
  ·simp only [C5, List.getElem?_map, List.getElem?_range hi, Option.map_some, Option.some.injEq] at hx
   by_cases e : i % 2 = 0
   ·rw [if_pos e] at hx
    have := (h.2 (i / 2) (by omega)).1
    rw [show 2 * (i / 2) = i by omega, hx] at this
    exact this
   ·rw [if_neg e] at hx
    have := (h.2 (i / 2) (by omega)).2
    rw [show 2 * (i / 2) + 1 = i by omega, hx] at this
    exact this
  ·simp [C5, hi] at hx
theorem zc {P : Program} {ρ : Ren} (L : Lays.n196 P ρ) (h3 : C2 (ρ.g 3) = some vM) (h4 : C2 (ρ.g 4) = some C5) (s : ByteArray) (hs : s.size ≤ 9223372036854775807) :
  PC P (ρ.f 196) [.one (.pv (.s (.string s)))] (.one (.pv (.s (.bool (validD s.data.toList))))) :=
 PC.below (us := [.string s]) rfl fun w hw => Go.Proofs.Any.utf8_ValidString L s w hs (Kz (hw _ _ h3) (hw _ _ h4))
end Go.SX
namespace Go.SX
open Go
def JJ (a b : List Int) : Int := Lib.compareBytes (strOfNums a).data.toList (strOfNums b).data.toList
def Mw (P : Program) (g : Nat) (asv : List AV) (r : AV) : Prop :=
 ∀ (ι : IM) (w : World) (st : St) (vs : List Value), eN ι w st → rk ι w st vs asv → ∃ v, (callFunc g vs.toArray).run P w = .ok (.value v) w ∧ aD ι w st v r
section
variable {P : Program} {n n0 : Nat} {loose : List Nat} {Q : QT} {fr : Fr} {st : St} {ops : Array Oper}
def Fg (o : Oper) (fr : Fr) : Option (Nat × List AV) :=
 match o.op with
 | .call ⟨.value f, args, _⟩ =>
  match rv fr f with
  | .one (.pv (.fn g [])) => some (g, args.toList.map (rv fr))
  | _ => none
 | _ => none
theorem GN {o : Oper} {g : Nat} {asv : List AV} {r : AV} (h : Fg o fr = some (g, asv)) (hx : Mw P g asv r) {ι : IM} {w : World} {a : Act} (hR : eN ι w st) (hF : jt n ι w st a fr) :
  ∃ v, (execOp a.eval o).run P w = .ok (.value v) w ∧ aD ι w st v r := by
 unfold Fg at h
 cases hop : o.op <;> simp only [hop] at h <;> try (cases h; done)
 rename_i cl
 obtain ⟨callee, args, tys⟩ := cl
 cases callee <;> simp only at h <;> try (cases h; done)
 rename_i f
 have hf := cA hF f
 split at h
 ·rename_i g' hq
  simp only [Option.some.injEq, Prod.mk.injEq] at h
  obtain ⟨rfl, rfl⟩ := h
  rw [hq] at hf
  have hp := pS (kN hf)
  obtain ⟨v, e4, e5⟩ := hx ι w st (args.toList.map a.eval) hR ⟨by simp, fun j v av h1 h2 => by
   rw [List.getElem?_map, Option.map_eq_some_iff] at h1 h2
   obtain ⟨x, hx, rfl⟩ := h1
   obtain ⟨y, hy, rfl⟩ := h2
   rw [hx] at hy; cases hy
   exact cA hF x⟩
  generalize hu : a.eval f = u at *
  cases hp with
  | fn _ _ ws hl hv =>
   have : ws = [] := List.length_eq_zero_iff.1 (by simpa using hl)
   subst this
   refine ⟨v, ?_, e5⟩
   have e3 : args.map a.eval ++ (#[] : Array Value) = (args.toList.map a.eval).toArray := by
    apply Array.ext'
    simp
   simp [execOp, hop, resolve, hu, Deferred.ofValue, invoke]
   rw [← e3, Array.append_empty] at e4
   exact e4
 ·cases h
end
theorem qp {P : Program} (w : World) : ∀ (ns : List Int) (a : Addr) (acc : ByteArray), (∀ (j : Nat) u, (ns.map (Value.int .u8))[j]? = some u → w.cell? (a.add j) = some u) →
  (Extern.Bytes.loadBytes a ns.length acc).run P w = .ok (ns.foldl (fun r n => r.push (UInt8.ofNat n.toNat)) acc) w
 | [], a, acc, h => rfl
 | x :: ns, a, acc, h => by
  have h0 := h 0 _ rfl
  have ih := qp (P := P) w ns (a.add 1) (acc.push (UInt8.ofNat x.toNat)) (fun j u hu => by
   have := h (j + 1) u (by simpa using hu)
   rw [rc, Nat.add_comm 1 j]
   exact this)
  have ea : a.add 0 = a := by unfold Addr.add; rw [if_pos rfl]
  rw [ea] at h0
  rw [List.length_cons, Extern.Bytes.loadBytes]
  simp only [Sem.run_bind, run_load, h0, Result.andThen_ok]
  rw [List.foldl_cons]
  exact ih
theorem zh {P : Program} {ι : IM} {w : World} {st : St} {v : Value} {xs : List Int} (hR : eN ι w st) (hv : aD ι w st v (vl (eK .u8) xs)) : (Extern.Bytes.bytesOf v).run P w = .ok (strOfNums xs) w := by
 have hbo := zC xs
 obtain ⟨us, hr⟩ := qD (P := P) (sz := 1) (els := (eK .u8).els xs) rfl hR (kN hv) (fun e he => by
  rw [hbo] at he
  simp only [List.mem_map] at he
  obtain ⟨n, _, rfl⟩ := he
  rfl)
 have hl := hr.len
 rw [Nat.mul_one] at hl
 unfold ux at hbo
 rw [xV] at hbo
 have hel : ((eK .u8).els xs).length = xs.length := by rw [hbo]; simp
 have hus : us = xs.map (Value.int .u8) := by
  refine List.ext_getElem? (fun j => ?_)
  by_cases hj : j < xs.length
  ·have e1 : ((eK .u8).els xs)[j]? = some [.s (.int .u8 (xs[j]))] := by
    rw [hbo, List.getElem?_map, List.getElem?_eq_getElem hj]; rfl
   obtain ⟨u, g1, g2⟩ := hr.each j _ 0 _ e1 rfl
   rw [Nat.mul_one, Nat.add_zero] at g1
   rw [g1, List.getElem?_map, List.getElem?_eq_getElem hj]
   cases g2; rfl
  ·rw [List.getElem?_eq_none (by omega), List.getElem?_eq_none (by simp; omega)]
 rcases hr.shape with ⟨e1, e2⟩ | ⟨ad, cap, e1, e2, e3⟩
 ·have : xs = [] := List.length_eq_zero_iff.1 (by rw [← hel, e2]; rfl)
  subst this
  rw [e1]; rfl
 ·rw [e1, hel]
  rw [hus] at e3
  rw [Extern.Bytes.bytesOf, qp w xs ad _ e3, foldl_push_bytes]
  simp [strOfNums, ByteArray.empty, ByteArray.emptyWithCapacity]
  rfl
theorem xg {P : Program} {g : Nat} {fn : Func} (hf : P.funcs[g]? = some fn) (hname : (fn.name == "runtime.NumGoroutine") = false) (hb : fn.body.isNone = true) (hn : Extern.findNext fn = none) (he : Extern.find fn = some Extern.BytealgCompare.compare)
  (a b : List Int) : Mw P g [vl (eK .u8) a, vl (eK .u8) b] (vi (JJ a b)) := by
 intro ι w st vs hR hA
 obtain ⟨hl, hA⟩ := hA
 match vs, hl with
 | [x, y], _ =>
  have hx := hA 0 x _ rfl rfl
  have hy := hA 1 y _ rfl rfl
  refine ⟨.int .i64 (JJ a b), ?_, .one _ _ (.pv _ _ (.s _ rfl))⟩
  rw [run_callFunc_extern hf hname hb hn he]
  show (Sem.run P (do pure (goInt (Extern.BytealgCompare.cmp (← Extern.Bytes.bytesOf x) (← Extern.Bytes.bytesOf y)))) w).andThen _ = _
  simp only [Sem.run_bind, zh hR hx, zh hR hy, Sem.run_pure, Result.andThen_ok, Lib.cmp_eq]
  rfl
section
variable {P : Program} {n n0 : Nat} {loose an : List Nat} {Q : QT} {β : Type} {T : Option β} {r : β} {s : SS}
theorem Yd.exa {st : St} {o : Oper} {f : Fr} {g : Nat} {asv : List AV} {av : AV} (hc : Fg o f = some (g, asv)) (h : Mw P g asv av) : Yd P n st o f av := by
 intro ι w a hR hF K Q hK
 obtain ⟨v, hrun, hv⟩ := GN hc h hR hF
 simp only [Oper.wp, hrun, Oper.upon]
 exact hK v w ι hv hR .refl
def Qm (s : SS) : Option (Nat × List AV) := match vp s with
 | some (o, f) => Fg o f
 | none => none
theorem Qx (a b : List Int) (g : Nat) (fn : Func) (k : GG P n n0 loose an r Q T (xm n (vi (JJ a b)) (run P n an s))) (he : Qm (run P n an s) = some (g, [vl (eK .u8) a, vl (eK .u8) b]) := by kernel_rfl) (hf : P.funcs[g]? = some fn := by kernel_rfl)
  (hx : ((!(fn.name == "runtime.NumGoroutine") && fn.body.isNone) && (Extern.findNext fn).isNone) = true := by kernel_rfl) (hx' : Extern.find fn = some Extern.BytealgCompare.compare := by kernel_rfl) : GG P n n0 loose an r Q T s := by
 simp only [Bool.and_eq_true, Bool.not_eq_true', Option.isNone_iff_eq_none] at hx
 refine ⟨fun h' => ?_⟩
 unfold Qm at he
 split at he
 ·rename_i o f hd
  exact bM (an := an) (lR hd (Yd.exa he (xg hf hx.1.1 (by rw [hx.1.2]; rfl) hx.2 hx' a b)) (k h'))
 ·cases he
end
end Go.SX
namespace Go.SX
open Go Go.Sort Go.Lib Go.RowKit Go.Shelf Go.Proofs
structure Nj {α : Type} (E : pr α) (e : α → Value) : Prop where
 els : ∀ l : List α, E.els l = l.map fun x => [PV.s (e x)]
 ok : ∀ x, nS (e x) = true
section
variable {α : Type} {E : pr α} {e : α → Value}
theorem AG [Inhabited α] {w : World} {b n : Nat} {d : Array α} : wj w (putRow e (Sort.ahead w n) b 0 d) b := by
 refine ⟨rfl, rfl, rfl, ?_, fun x hx => ?_, fun c ty fz h => ?_⟩
 ·simp [putRow, mapBlock, Sort.ahead]
 ·simp [putRow, mapBlock, Sort.ahead, Array.getElem?_modify, Ne.symm hx]
 ·refine ⟨putCells e 0 d c, ?_, by simp [putCells]⟩
  simp [putRow, mapBlock, Sort.ahead, Array.getElem?_modify, h, onCells]
theorem zD (w : World) (os : Array Obj) : oh w (grow w os) := by
 refine ⟨rfl, rfl, rfl, by simp [grow], fun b hb => ?_⟩
 show (w.heap ++ os)[b]? = _
 rw [Array.getElem?_append_left hb]
structure Lb (e : α → Value) (w : World) (b : Nat) (l : List α) (c : Array Value) (ty : TypeId) : Prop where
 at_ : w.heap[b]? = some (.cells c ty (0, 0))
 sz : l.length ≤ c.size
 val : ∀ (i : Nat) x, l[i]? = some x → c[i]? = some (e x)
theorem Gn (H : Nj E e) {ι : IM} {w : World} {l : List α} {b : Nat} (hR : eN ι w [.arr 1 (E.els l)]) (hb : ι 0 = some b) : ∃ c ty, Lb e w b l c ty := by
 have h := hR.obj 0 _ rfl
 rcases h with ⟨h, _⟩ | ⟨b', c, ty, hb', hat, hsz, _, hv⟩
 ·rw [hb] at h; cases h
 ·rw [hb] at hb'; cases hb'
  refine ⟨c, ty, hat, by rw [E.len] at hsz; omega, fun i x hx => ?_⟩
  obtain ⟨v, h1, h2⟩ := hv i [.s (e x)] 0 (.s (e x)) (by rw [H.els]; simp [hx]) rfl
  cases h2
  simpa using h1
theorem Lb.holds [Inhabited α] {w : World} {b : Nat} {l : List α} {c : Array Value} {ty : TypeId} (h : Lb e w b l c ty) : Holds e w b 0 l.toArray := by
 intro j hj
 have hj' : j < l.length := by simpa using hj
 refine ⟨?_, by simp [World.frozen?, h.at_]⟩
 rw [Nat.zero_add, ly h.at_, h.val j l[j] (List.getElem?_eq_getElem hj')]
 simp [hj']
theorem FY [Inhabited α] (H : Nj E e) {ι : IM} {w : World} {l : List α} {b n : Nat} {c : Array Value} {ty : TypeId} {d : Array α} (hR : eN ι w [.arr 1 (E.els l)]) (hb : ι 0 = some b) (h : Lb e w b l c ty) (hd : d.size = l.length) :
  eN ι (putRow e (Sort.ahead w n) b 0 d) [.arr 1 (E.els d.toList)] ∧ be all ι w [.arr 1 (E.els l)] ι (putRow e (Sort.ahead w n) b 0 d) [.arr 1 (E.els d.toList)] := by
 have ha : bJ.alive (.arr 1 (E.els l)) := by simp [bJ.alive]
 have k := nw (body' := .arr 1 (E.els d.toList)) (st := [.arr 1 (E.els l)]) (id := 0) rfl ha hb (AG (e := e) (w := w) (b := b) (n := n) (d := d))
 refine ⟨eN.set (body' := .arr 1 (E.els d.toList)) hR (id := 0) rfl ha hb AG ?_, k⟩
 refine .inr ⟨b, putCells e 0 d c, ty, hb, by simp [putRow, mapBlock, Sort.ahead, Array.getElem?_modify, h.at_, onCells], ?_, ?_, ?_⟩
 ·have := h.sz; rw [E.len]; simp [putCells, hd]; omega
 ·intro x he; rw [H.els, List.mem_map] at he; obtain ⟨x, _, rfl⟩ := he; rfl
 ·intro i x0 j p he hp
  rw [H.els, List.getElem?_map, Option.map_eq_some_iff] at he
  obtain ⟨x, hx, rfl⟩ := he
  have hi : i < d.size := by have := (List.getElem?_eq_some_iff.1 hx).1; simpa using this
  have hj : j = 0 := by
   cases j with
   | zero => rfl
   | succ j => simp at hp
  subst hj
  have hp2 : p = .s (e x) := by simpa using hp.symm
  subst hp2
  refine ⟨e x, ?_, .s _ (H.ok x)⟩
  have hc : i < c.size := by have := h.sz; omega
  have hx2 : d[i]! = x := by
   rw [getElem!_pos d i hi]
   have : d.toList[i]? = some d[i] := by simp [hi]
   rw [this] at hx; exact Option.some.inj hx
  rw [getElem!_pos d i hi] at hx2
  simp [putCells, hc, hi, hx2]
theorem F3 {ι : IM} {w : World} {st : St} {vs : List Value} {a b : AV} (h : rk ι w st vs [a, b]) : ∃ x y, vs = [x, y] ∧ aD ι w st x a ∧ aD ι w st y b := by
 obtain ⟨hl, hv⟩ := h
 match vs, hl with
 | [x, y], _ => exact ⟨x, y, rfl, hv 0 x a rfl rfl, hv 1 y b rfl rfl⟩
theorem N4 {ι : IM} {w : World} {st : St} {vs : List Value} {a : AV} (h : rk ι w st vs [a]) : ∃ x, vs = [x] ∧ aD ι w st x a := by
 obtain ⟨hl, hv⟩ := h
 match vs, hl with
 | [x], _ => exact ⟨x, rfl, hv 0 x a rfl rfl⟩
theorem Qa {ι : IM} {w : World} {st : St} {v : Value} {f : Nat} (h : aD ι w st v (.one (.pv (.fn f [])))) : v = .func (.func f) #[] #[] := by
 cases h with
 | one _ _ h => cases h with
  | pv _ _ h => cases h with
   | fn _ _ vs hl _ =>
    have : vs = [] := List.length_eq_zero_iff.1 (by simpa using hl)
    subst this; rfl
theorem PS {ι : IM} {w : World} {st : St} {v : Value} {f g : Nat} (h : aD ι w st v (.one (.fn f [.pv (.rp [[.fn g []]] 0 0)]))) :
  ∃ a : Addr, v = .func (.func f) #[] #[.pointer (some a)] ∧ w.cell? a = some (.func (.func g) #[] #[]) ∧ a.block < w.heap.size ∧ ¬ jV ι st a.block := by
 cases h with
 | one _ _ h => cases h with
  | fn _ _ vs hl hv =>
   match vs, hl with
   | [u], _ =>
    have hu := hv 0 _ u rfl rfl
    cases hu with
    | pv _ _ hp => cases hp with
     | rp a sz _ _ _ vf hsz hb hc hq =>
      have h1 := hc 0 [.fn g []] 0 (.fn g []) rfl rfl
      have h2 := hq 0 [.fn g []] 0 (.fn g []) rfl rfl
      refine ⟨_, rfl, h1.trans ?_, by rw [nu]; exact (hb (by simp)).1, by rw [nu]; exact (hb (by simp)).2⟩
      generalize vf 0 0 = z at h2
      cases h2 with
      | fn _ _ vs hl _ =>
       have : vs = [] := List.length_eq_zero_iff.1 (by simpa using hl)
       subst this; rfl
theorem D1 {ι : IM} {w : World} {st : St} {v : Value} (h : aD ι w st v (vl E ([] : List α))) : v = .slice none 0 0 ∨ ∃ a cap, v = .slice (some a) 0 cap := by
 have hE : E.els ([] : List α) = [] := List.length_eq_zero_iff.1 (by rw [E.len]; rfl)
 cases h with
 | one _ _ h => cases h with
  | pv _ _ h =>
   have : ∀ x, x = [] → fj (jV ι st) w v (.ro x) → v = .slice none 0 0 ∨ ∃ a cap, v = .slice (some a) 0 cap := by
    intro x hx hp
    cases hp with
    | nl => exact .inl rfl
    | ro a cap sz els vf hcap hsz hb hc hv =>
     subst hx
     exact .inr ⟨a, cap, rfl⟩
   exact this _ hE h
theorem xt {ι : IM} {w : World} {st : St} (v : Value) (h : v = .slice none 0 0 ∨ ∃ a cap, v = .slice (some a) 0 cap) : aD ι w st v (vl E ([] : List α)) := by
 have hE : E.els ([] : List α) = [] := List.length_eq_zero_iff.1 (by rw [E.len]; rfl)
 unfold vl
 rw [hE]
 rcases h with rfl | ⟨a, cap, rfl⟩
 ·exact .one _ _ (.pv _ _ .nl)
 ·exact .one _ _ (.pv _ _ (fj.ro a cap 1 [] (fun _ _ => undef) (by simp) (by simp) (by simp) (fun i e j c h => by simp at h) (fun i e j c h => by simp at h)))
variable {P : Program}
theorem EX [Inhabited α] (H : Nj E e) {f g : Nat} {p1 q : List α} (hlen : q.length = p1.length)
  (h0 : ∀ (p : Option Addr) (cap : Nat) (w : World), Calls P f #[.slice p 0 cap, .func (.func g) #[] #[]] w fun ev w' => ev = .returned (.tuple #[]) ∧ w' = w)
  (h1 : ∀ (b cap : Nat) (w : World), Holds e w b 0 p1.toArray → b < w.heap.size → Calls P f #[.slice (some ⟨b, 0, none⟩) p1.length cap, .func (.func g) #[] #[]] w fun ev w' => ev = .returned (.tuple #[]) ∧ ∃ n os, w' = grow (putRow e (Sort.ahead w n) b 0 q.toArray) os) :
  MC P f [.one (.sl 0 1 0 p1.length), .one (.pv (.fn g []))] [.arr 1 (E.els p1)] (.tp []) [.arr 1 (E.els q)] := by
 intro ι w vs hR hA
 obtain ⟨x, y, rfl, hx, hy⟩ := F3 hA
 obtain rfl := Qa hy
 have he : aD ι w [.arr 1 (E.els q)] (.tuple #[]) (.tp []) := .tp [] [] rfl (fun j v a h _ => by simp at h)
 have none_ : ∀ (p : Option Addr) (cap : Nat), p1.length = 0 → Calls P f #[.slice p 0 cap, .func (.func g) #[] #[]] w fun e w' => ∃ v av st' ι', e = .returned v ∧ (av = .tp [] ∧ st' = [.arr 1 (E.els q)]) ∧ eN ι' w' st' ∧ aD ι' w' st' v av ∧ be (fun id => id ∉ ([] : List Nat)) ι w [.arr 1 (E.els p1)] ι' w' st' := by
  intro p cap h00
  have e0 : p1 = [] := List.length_eq_zero_iff.1 h00
  have e1 : q = [] := List.length_eq_zero_iff.1 (hlen.trans h00)
  subst e0; subst e1
  refine (h0 p cap w).mono ?_
  rintro e w' ⟨rfl, rfl⟩
  exact ⟨_, _, _, ι, rfl, ⟨rfl, rfl⟩, hR, he, by simpa using be.refl⟩
 have hxc := Ba hx
 clear hx
 generalize hL : p1.length = L at hxc
 cases hxc with
 | sn _ _ hid hb => exact none_ none 0 hL
 | sl _ _ _ _ b cap hid hb hcap hc =>
  subst hL
  by_cases h00 : p1.length = 0
  ·rw [h00]; exact none_ _ _ h00
  ·obtain ⟨c, ty, hl⟩ := Gn H hR hb
   have hlt : b < w.heap.size := (Array.getElem?_eq_some_iff.1 hl.at_).1
   have := h1 b cap w hl.holds hlt
   refine this.mono ?_
   rintro e w' ⟨rfl, n, os, rfl⟩
   obtain ⟨r1, k1⟩ := FY H (n := n) (d := q.toArray) hR hb hl (by simpa using hlen)
   exact ⟨_, _, _, ι, rfl, ⟨rfl, rfl⟩, r1.ext (zD _ _), .tp [] [] rfl (fun j v a h _ => by simp at h), (k1.trans ((zD _ _).keeps ι _)).weaken (fun _ _ => trivial)⟩
theorem Eh [Inhabited α] [DecidableEq α] (p1 : List α) : (compact p1).length ≤ p1.length := by
 unfold compact compactUpTo
 rw [List.length_map]
 exact Nat.le_trans (List.length_filter_le _ _) (by simp)
theorem yQ [Inhabited α] [DecidableEq α] (H : Nj E e) {f g k : Nat} {p1 : List α} (z : α)
  (h0 : ∀ (p : Option Addr) (cap : Nat) (a : Addr) (w : World), Calls P f #[.slice p 0 cap, .func (.func g) #[] #[.pointer (some a)]] w fun ev w' => ev = .returned (.slice p 0 cap) ∧ w' = w)
  (h1 : ∀ (b cap : Nat) (w : World) (a : Addr), w.cell? a = some (.func (.func k) #[] #[]) → a.block ≠ b → a.block < w.heap.size → Holds e w b 0 p1.toArray → b < w.heap.size → p1.length ≤ cap →
   Calls P f #[.slice (some ⟨b, 0, none⟩) p1.length cap, .func (.func g) #[] #[.pointer (some a)]] w fun ev w' => ev = .returned (.slice (some ⟨b, 0, none⟩) (compact p1).length cap) ∧ ∃ n os, w' = grow (putRow e (Sort.ahead w n) b 0 (compact p1 ++ List.replicate (p1.length - (compact p1).length) z).toArray) os) :
  MC P f [.one (.sl 0 1 0 p1.length), .one (.fn g [.pv (.rp [[.fn k []]] 0 0)])] [.arr 1 (E.els p1)] (vl E (compact p1)) [.dead] := by
 intro ι w vs hR hA
 obtain ⟨x, y, rfl, hx, hy⟩ := F3 hA
 obtain ⟨a, rfl, ha, hsa, hnm⟩ := PS hy
 have hkill := fun (w' : World) (l' : List α) (r1 : eN ι w' [.arr 1 (E.els l')]) => eN.kill r1 0
 have none_ : ∀ (p : Option Addr) (cap : Nat), p1.length = 0 → aD ι w [.dead] (.slice p 0 cap) (vl E ([] : List α)) → Calls P f #[.slice p 0 cap, .func (.func g) #[] #[.pointer (some a)]] w fun e w' => ∃ v av st' ι', e = .returned v ∧ (av = vl E (compact p1) ∧ st' = [.dead]) ∧ eN ι' w' st' ∧ aD ι' w' st' v av ∧ be (fun id => id ∉ ([] : List Nat)) ι w [.arr 1 (E.els p1)] ι' w' st' := by
  intro p cap h00 hv
  have e0 : p1 = [] := List.length_eq_zero_iff.1 h00
  subst e0
  refine (h0 p cap a w).mono ?_
  rintro e w' ⟨rfl, rfl⟩
  exact ⟨_, _, _, ι, rfl, ⟨rfl, rfl⟩, (hkill _ _ hR).1, hv, (hkill _ _ hR).2.weaken (fun _ _ => trivial)⟩
 have hxc := Ba hx
 clear hx
 generalize hL : p1.length = L at hxc
 cases hxc with
 | sn _ _ hid hb => exact none_ none 0 hL (xt _ (.inl rfl))
 | sl _ _ _ _ b cap hid hb hcap hc =>
  subst hL
  have hown : qG ι [.arr 1 (E.els p1)] b := ⟨0, _, rfl, by simp [bJ.alive], hb⟩
  by_cases h00 : p1.length = 0
  ·rw [h00]
   exact none_ _ _ h00 (xt _ (.inr ⟨_, _, rfl⟩))
  ·obtain ⟨c, ty, hl⟩ := Gn H hR hb
   have hlt : b < w.heap.size := (Array.getElem?_eq_some_iff.1 hl.at_).1
   have := h1 b cap w a ha (fun e => hnm (by rw [e]; exact .inr hown)) hsa hl.holds hlt hcap
   have hcl := Eh p1
   refine this.mono ?_
   rintro ev w' ⟨rfl, q, os, rfl⟩
   have hds : (compact p1 ++ List.replicate (p1.length - (compact p1).length) z).toArray.size = p1.length := by simp; omega
   obtain ⟨r1, k1⟩ := FY H (n := q) (d := (compact p1 ++ List.replicate (p1.length - (compact p1).length) z).toArray) hR hb hl hds
   obtain ⟨r2, k2⟩ := hkill _ _ r1
   have hcells := holds_putRow e (Sort.ahead w q) b 0 p1.toArray (compact p1 ++ List.replicate (p1.length - (compact p1).length) z).toArray (holds_ahead e w q b 0 _ hl.holds) (by rw [hds]; simp)
   have hlW : b < (putRow e (Sort.ahead w q) b 0 (compact p1 ++ List.replicate (p1.length - (compact p1).length) z).toArray).heap.size := by
    simp [putRow, mapBlock, Sort.ahead]; exact hlt
   have hx := zD (putRow e (Sort.ahead w q) b 0 (compact p1 ++ List.replicate (p1.length - (compact p1).length) z).toArray) os
   refine ⟨_, _, _, ι, rfl, ⟨rfl, rfl⟩, r2.ext hx, ?_, ((k1.trans k2).trans (hx.keeps ι _)).weaken (fun _ _ => trivial)⟩
   suffices h : aD ι (putRow e (Sort.ahead w q) b 0 (compact p1 ++ List.replicate (p1.length - (compact p1).length) z).toArray) [.dead] (.slice (some ⟨b, 0, none⟩) (compact p1).length cap) (vl E (compact p1)) from
    h.mono (hx.keeps ι _) (q := fun _ => true) (fun _ h _ => trivial) rfl
   refine .one _ _ (.pv _ _ ?_)
   clear r1 k1 r2 k2 hx
   generalize putRow e (Sort.ahead w q) b 0 (compact p1 ++ List.replicate (p1.length - (compact p1).length) z).toArray = W at hcells hlW ⊢
   have hlen : (compact p1).length = (E.els (compact p1)).length := by rw [E.len]
   rw [hlen]
   refine fj.ro ⟨b, 0, none⟩ cap 1 _ (fun i j => e ((compact p1)[i]!)) (by rw [E.len]; exact Nat.le_trans hcl hcap) ?_ (fun _ => ⟨?_, ?_⟩) ?_ ?_
   ·intro x he; rw [H.els, List.mem_map] at he; obtain ⟨x, _, rfl⟩ := he; rfl
   ·exact hlW
   ·rintro (h | ⟨id, o, h1, h2, _⟩)
    ·exact hR.dis b hown h
    ·cases id with
     | zero => cases h1; exact h2 rfl
     | succ id => simp at h1
   ·intro i x0 j c he hj
    rw [H.els, List.getElem?_map, Option.map_eq_some_iff] at he
    obtain ⟨x, hx, rfl⟩ := he
    have hj0 : j = 0 := by
     cases j with
     | zero => rfl
     | succ j => simp at hj
    subst hj0
    have hi : i < (compact p1).length := (List.getElem?_eq_some_iff.1 hx).1
    have := (hcells i (by rw [hds]; omega)).1
    rw [Nat.zero_add] at this
    rw [add_lit, show 0 + (i * 1 + 0) = i by omega, this]
    have e1 : (compact p1 ++ List.replicate (p1.length - (compact p1).length) z).toArray[i]! = (compact p1)[i]! := by
     rw [getElem!_pos _ i (by rw [hds]; omega), getElem!_pos _ i hi]
     simp [List.getElem_append_left hi]
    rw [e1]
   ·intro i x0 j c he hj
    rw [H.els, List.getElem?_map, Option.map_eq_some_iff] at he
    obtain ⟨x, hx, rfl⟩ := he
    have hj0 : j = 0 := by
     cases j with
     | zero => rfl
     | succ j => simp at hj
    subst hj0
    have hc : c = .s (e x) := by simpa using hj.symm
    subst hc
    have hi : i < (compact p1).length := (List.getElem?_eq_some_iff.1 hx).1
    have : (compact p1)[i]! = x := by rw [getElem!_pos _ i hi]; exact (List.getElem?_eq_some_iff.1 hx).2
    rw [this]
    exact .s _ (H.ok x)
theorem De {f g : Nat} (h0 : ∀ (p : Option Addr) (cap : Nat) (w : World), Calls P f #[.slice p 0 cap, .func (.func g) #[] #[]] w fun ev w' => ev = .returned (.tuple #[]) ∧ w' = w) : PC P f [vl E ([] : List α), .one (.pv (.fn g []))] (.tp []) := by
 intro ι w vs hR hA
 obtain ⟨x, y, rfl, hx, hy⟩ := F3 hA
 obtain rfl := Qa hy
 have key : ∀ p cap, Calls P f #[.slice p 0 cap, .func (.func g) #[] #[]] w fun e w' => ∃ v av st' ι', e = .returned v ∧ (av = .tp [] ∧ st' = []) ∧ eN ι' w' st' ∧ aD ι' w' st' v av ∧ be (fun id => id ∉ ([] : List Nat)) ι w [] ι' w' st' := fun p cap => by
  refine (h0 p cap w).mono ?_
  rintro e w' ⟨rfl, rfl⟩
  exact ⟨_, _, _, ι, rfl, ⟨rfl, rfl⟩, hR, .tp [] [] rfl (fun j v a h _ => by simp at h), be.refl⟩
 rcases D1 hx with rfl | ⟨a, cap, rfl⟩
 ·exact key none 0
 ·exact key _ cap
theorem yl {f g k : Nat} (h0 : ∀ (p : Option Addr) (cap : Nat) (a : Addr) (w : World), Calls P f #[.slice p 0 cap, .func (.func g) #[] #[.pointer (some a)]] w fun ev w' => ev = .returned (.slice p 0 cap) ∧ w' = w) : PC P f [vl E ([] : List α), .one (.fn g [.pv (.rp [[.fn k []]] 0 0)])] (vl E ([] : List α)) := by
 intro ι w vs hR hA
 obtain ⟨x, y, rfl, hx, hy⟩ := F3 hA
 obtain ⟨a, rfl, ha, hsa, hnm⟩ := PS hy
 have key : ∀ p cap, (∀ v, v = .slice p 0 cap → aD ι w [] v (vl E ([] : List α))) → Calls P f #[.slice p 0 cap, .func (.func g) #[] #[.pointer (some a)]] w fun e w' => ∃ v av st' ι', e = .returned v ∧ (av = vl E ([] : List α) ∧ st' = []) ∧ eN ι' w' st' ∧ aD ι' w' st' v av ∧ be (fun id => id ∉ ([] : List Nat)) ι w [] ι' w' st' := fun p cap hp => by
  refine (h0 p cap a w).mono ?_
  rintro e w' ⟨rfl, rfl⟩
  exact ⟨_, _, _, ι, rfl, ⟨rfl, rfl⟩, hR, hp _ rfl, be.refl⟩
 rcases D1 hx with rfl | ⟨b, cap, rfl⟩
 ·exact key none 0 (fun v hv => xt v (.inl hv))
 ·exact key _ cap (fun v hv => xt v (.inr ⟨_, _, hv⟩))
def Ax (w : World) (v : Value) (w' : World) : Prop := (v = .slice none 0 0 ∨ ∃ a cap, v = .slice (some a) 0 cap) ∧ oh w w'
theorem Az {f : Nat} (h0 : ∀ w, Calls P f #[.slice none 0 0] w fun ev w' => ∃ v, ev = .returned v ∧ Ax w v w') (h1 : ∀ a cap w, Calls P f #[.slice (some a) 0 cap] w fun ev w' => ∃ v, ev = .returned v ∧ Ax w v w') : PC P f [vl E ([] : List α)] (vl E ([] : List α)) := by
 intro ι w vs hR hA
 obtain ⟨x, rfl, hx⟩ := N4 hA
 rcases D1 hx with rfl | ⟨a, cap, rfl⟩
 ·refine (h0 w).mono ?_
  rintro ev w' ⟨v, rfl, hv, hx⟩
  exact ⟨_, _, _, ι, rfl, ⟨rfl, rfl⟩, hR.ext hx, xt _ hv, (hx.keeps ι []).weaken (fun _ _ => trivial)⟩
 ·refine (h1 a cap w).mono ?_
  rintro ev w' ⟨v, rfl, hv, hx⟩
  exact ⟨_, _, _, ι, rfl, ⟨rfl, rfl⟩, hR.ext hx, xt _ hv, (hx.keeps ι []).weaken (fun _ _ => trivial)⟩
end
end Go.SX
namespace Go.SX.Cal
open Go Go.Lib
theorem E3 : ∀ a : List UInt8, compareBytes a a = 0
 | [] => rfl
 | x :: a => by
  rw [compareBytes, if_neg (by simp [UInt8.lt_irrefl]), if_neg (by simp [UInt8.lt_irrefl])]
  exact E3 a
theorem FQ : ∀ a b : List UInt8, compareBytes a b = 0 → a = b
 | [], [], _ => rfl
 | [], _ :: _, h => by simp [compareBytes] at h
 | _ :: _, [], h => by simp [compareBytes] at h
 | x :: a, y :: b, h => by
  rw [compareBytes] at h
  split at h
  ·simp at h
  ·split at h
   ·simp at h
   ·rename_i h1 h2
    rw [FQ a b h, UInt8.le_antisymm (UInt8.not_lt.1 h2) (UInt8.not_lt.1 h1)]
theorem Fx : ∀ a b : List UInt8, compareBytes a b = - compareBytes b a
 | [], [] => rfl
 | [], _ :: _ => rfl
 | _ :: _, [] => rfl
 | x :: a, y :: b => by
  rw [compareBytes, compareBytes]
  by_cases h1 : x < y
  ·rw [if_pos h1, if_neg (UInt8.lt_asymm h1), if_pos h1]
  ·rw [if_neg h1]
   by_cases h2 : y < x
   ·rw [if_pos h2, if_pos h2]; rfl
   ·rw [if_neg h2, if_neg h2, if_neg h1]; exact Fx a b
theorem Dp : ∀ a b c : List UInt8, compareBytes a b < 0 → compareBytes b c < 0 → compareBytes a c < 0
 | [], [], _, h, _ => by simp [compareBytes] at h
 | [], _ :: _, [], _, h => by simp [compareBytes] at h
 | [], _ :: _, _ :: _, _, _ => by simp [compareBytes]
 | _ :: _, [], _, h, _ => by simp [compareBytes] at h
 | _ :: _, _ :: _, [], _, h => by simp [compareBytes] at h
 | x :: a, y :: b, z :: c, h, k => by
  rw [compareBytes] at h k ⊢
  by_cases h1 : x < y
  ·by_cases h2 : y < z
   ·rw [if_pos (UInt8.lt_trans h1 h2)]; decide
   ·rw [if_neg h2] at k
    by_cases h3 : z < y
    ·rw [if_pos h3] at k; simp at k
    ·have : y = z := UInt8.le_antisymm (UInt8.not_lt.1 h3) (UInt8.not_lt.1 h2)
     subst this
     rw [if_pos h1]; decide
  ·rw [if_neg h1] at h
   by_cases h4 : y < x
   ·rw [if_pos h4] at h; simp at h
   ·rw [if_neg h4] at h
    have : x = y := UInt8.le_antisymm (UInt8.not_lt.1 h4) (UInt8.not_lt.1 h1)
    subst this
    by_cases h2 : x < z
    ·rw [if_pos h2]; decide
    ·rw [if_neg h2] at k ⊢
     by_cases h3 : z < x
     ·rw [if_pos h3] at k; simp at k
     ·rw [if_neg h3] at k ⊢
      exact Dp a b c h k
def jC (a b : ByteArray) : Int := compareBytes a.data.toList b.data.toList
theorem ur (a : ByteArray) : jC a a = 0 := E3 _
theorem rT {a b : ByteArray} (h : jC a b = 0) : a = b := by
 have := FQ _ _ h
 exact ByteArray.ext (Array.toList_inj.1 this)
theorem lZ (a b : ByteArray) : jC a b = - jC b a := Fx _ _
theorem oL {a b c : ByteArray} (h : jC a b < 0) (k : jC b c < 0) : jC a c < 0 := Dp _ _ _ h k
end Go.SX.Cal
namespace Go.SX
open Go
structure Aj where
 f : {H : Type} → DataW H → Nat
 one : ∀ {H : Type} (d : DataW H), 1 ≤ f d
 str : ∀ {H : Type} (b : List UInt8), b.length + 1 ≤ f (DataW.lit (H := H) (.string b))
 sl : ∀ {H : Type} (e s : List (DataW H)), (e.map f).sum + 1 ≤ f (.slice e s)
 ag : ∀ {H : Type} (ps : List (DataW H)), (ps.map f).sum + 1 ≤ f (.agg ps)
abbrev DM : Nat → Prop := fun _ => False
def tq (w : World) (cs : List Value) (ps : List PV) : Prop :=
 cs.length = ps.length ∧ ∀ (j : Nat) v p, cs[j]? = some v → ps[j]? = some p → fj DM w v p
theorem tq.one {w : World} {v : Value} {p : PV} (h : fj DM w v p) : tq w [v] [p] := by
 refine ⟨rfl, fun j v' p' h1 h2 => ?_⟩
 cases j with
 | zero => simp at h1 h2; subst h1; subst h2; exact h
 | succ j => simp at h1
theorem tq.nil {w : World} : tq w [] [] := ⟨rfl, fun j v p h => by simp at h⟩
theorem tq.app {w : World} {cs : List Value} {p q : List PV} {n : Nat} (h : tq w (cs.take n) p) (k : tq w (cs.drop n) q) (hn : p.length = n) : tq w cs (p ++ q) := by
 have e : cs = cs.take n ++ cs.drop n := (List.take_append_drop n cs).symm
 refine ⟨?_, fun j v x h1 h2 => ?_⟩
 ·have h1 := h.1; have h2 := k.1
  rw [List.length_append, ← h1, ← h2, ← List.length_append, ← e]
 ·by_cases hj : j < n
  ·rw [List.getElem?_append_left (by omega)] at h2
   refine h.2 j v x ?_ h2
   rw [List.getElem?_take, if_pos hj]; exact h1
  ·rw [List.getElem?_append_right (by omega)] at h2
   refine k.2 (j - n) v x ?_ (by rw [← hn]; exact h2)
   rw [List.getElem?_drop, show n + (j - n) = j by omega]; exact h1
section
variable (B : Aj) (P : Program)
def qH (N : Nat) (t : TypeId) {α : Type} (cells : α → List PV) (wf : α → Prop) (size : α → Nat) : Prop :=
 ∀ ⦃H : Type⦄ ⦃enc : TypeId × Value → H⦄ ⦃w : World⦄ ⦃base : Nat⦄ ⦃spare : Nat → Bool⦄ ⦃held : Bool⦄ ⦃aL : Nat⦄ ⦃cs : List Value⦄ ⦃d : DataW H⦄ ⦃ps : List MemPlace⦄,
  DataW.trod enc P w base spare held aL t cs = some (d, ps) → B.f d ≤ N → ∃ x, tq w cs (cells x) ∧ wf x ∧ size x ≤ B.f d
variable {B P}
theorem qH.int {N : Nat} {t : TypeId} {k : IntKind} (ht : P.underlying t = some (.int k)) : qH B P N t (fun n : Int => [.s (.int k n)]) (fun n => k.min ≤ n ∧ n ≤ k.max) (fun _ => 1) := by
 intro H enc w base spare held aL cs d ps h hN
 obtain ⟨n, rfl, hx, hw⟩ := DataW.trod_int ht h
 refine ⟨n, .one (.s _ rfl), ?_, B.one d⟩
 simpa [Lit.wf] using hw
theorem qH.bool {N : Nat} {t : TypeId} (ht : P.underlying t = some .bool) : qH B P N t (fun b : Bool => [.s (.bool b)]) (fun _ => True) (fun _ => 1) := by
 intro H enc w base spare held aL cs d ps h hN
 obtain ⟨b, rfl, hx⟩ := DataW.trod_bool ht h
 exact ⟨b, .one (.s _ rfl), trivial, B.one d⟩
theorem qH.str {N : Nat} {t : TypeId} (ht : P.underlying t = some .string) : qH B P N t (fun s : ByteArray => [.s (.string s)]) (fun _ => True) (fun s => s.size + 1) := by
 intro H enc w base spare held aL cs d ps h hN
 obtain ⟨s, rfl, hx, hs⟩ := DataW.trod_string ht h
 simp only [Prod.mk.injEq] at hx
 obtain ⟨rfl, rfl⟩ := hx
 refine ⟨s, .one (.s _ rfl), trivial, ?_⟩
 have := B.str (H := H) s.data.toList
 simpa using this
theorem Kx {w : World} {a : Addr} {v : Value} (h : w.cell? a = some v) : a.block < w.heap.size := by
 unfold World.cell? at h
 split at h
 ·rename_i h1; exact (Array.getElem?_eq_some_iff.1 h1).1
 ·cases h
theorem Mt {α : Type} {f : α → Nat} {l : List α} {x : α} (h : x ∈ l) : f x ≤ (l.map f).sum := by
 induction l with
 | nil => cases h
 | cons y l ih =>
  simp only [List.map_cons, List.sum_cons]
  rcases List.mem_cons.1 h with rfl | h
  ·omega
  ·have := ih h; omega
theorem CU {α β : Type} {q : Nat → α → β → Prop} : ∀ {l : List α} , (∀ (i : Nat) a, l[i]? = some a → ∃ b, q i a b) → ∃ bs : List β, bs.length = l.length ∧ ∀ (i : Nat) a b, l[i]? = some a → bs[i]? = some b → q i a b := by
 intro l
 induction l generalizing q with
 | nil => intro _; exact ⟨[], rfl, fun i a b h => by simp at h⟩
 | cons x l ih =>
  intro h
  obtain ⟨b0, h0⟩ := h 0 x rfl
  obtain ⟨bs, hl, hb⟩ := ih (q := fun i => q (i + 1)) (fun i a hi => h (i + 1) a (by simpa using hi))
  refine ⟨b0 :: bs, by simp [hl], fun i a b h1 h2 => ?_⟩
  cases i with
  | zero => simp at h1 h2; subst h1; subst h2; exact h0
  | succ i => exact hb i a b (by simpa using h1) (by simpa using h2)
theorem AE {α β : Type} {f : α → Nat} {g : β → Nat} : ∀ {l : List α} {m : List β}, m.length = l.length → (∀ (i : Nat) a b, l[i]? = some a → m[i]? = some b → g b ≤ f a) → (m.map g).sum ≤ (l.map f).sum
 | [], [], _, _ => by simp
 | [], _ :: _, h, _ => by simp at h
 | _ :: _, [], h, _ => by simp at h
 | a :: l, b :: m, h, hk => by
  have h0 := hk 0 a b rfl rfl
  have := AE (f := f) (g := g) (l := l) (m := m) (by simpa using h) (fun i x y h1 h2 => hk (i + 1) x y (by simpa using h1) (by simpa using h2))
  simp only [List.map_cons, List.sum_cons]
  omega
theorem qH.slice {N : Nat} {t e : TypeId} {α : Type} {cells : α → List PV} {wf : α → Prop} {size : α → Nat} (ht : P.underlying t = some (.slice e)) (hc : ∀ x, (cells x).length = P.cellsOf e)
  (hpos : 0 < P.cellsOf e) (h : ∀ N', N' < N → qH B P N' e cells wf size) :
  qH B P N t (fun xs : List α => [.ro (xs.map cells)]) (fun xs => ∀ x ∈ xs, wf x) (fun xs => (xs.map size).sum + 1) := by
 intro H enc w base spare held aL cs d ps hd hN
 rcases DataW.trod_slice ht hd with ⟨rfl, hx⟩ | ⟨a, len, cap, elems, rest, n, _, rfl, hx, hb, hl, hm, hlen, hel, _, _⟩
 ·exact ⟨[], .one .nl, by simp, by simpa using B.one d⟩
 simp only [Prod.mk.injEq] at hx
 obtain ⟨rfl, rfl⟩ := hx
 have hsum := B.sl (elems.map (·.1)) (rest.map (·.1))
 have hel' : ∀ (i : Nat) z, elems[i]? = some z → ∃ x : α, (∃ cs', w.cells? base (a.add (i * P.cellsOf e)) (P.cellsOf e) = some cs' ∧ tq w cs' (cells x)) ∧ wf x ∧ size x ≤ B.f z.1 := by
  intro i z hz
  have hi : i < len := by rw [← hlen]; exact (List.getElem?_eq_some_iff.1 hz).1
  have hk := hel i hi
  rw [hz] at hk
  obtain ⟨cs', h1, h2⟩ := Option.bind_eq_some_iff.1 hk
  have hle : B.f z.1 ≤ ((elems.map (·.1)).map B.f).sum := Mt (f := B.f) (List.mem_map.2 ⟨z, List.mem_of_getElem? hz, rfl⟩)
  obtain ⟨x, k1, k2, k3⟩ := h (B.f z.1) (by omega) (d := z.1) (ps := z.2) h2 (Nat.le_refl _)
  exact ⟨x, ⟨cs', h1, k1⟩, k2, k3⟩
 obtain ⟨xs, hxl, hxs⟩ := CU hel'
 have hxlen : xs.length = len := by omega
 have key : ∀ (i : Nat) x, xs[i]? = some x → ∃ z, elems[i]? = some z ∧ (∃ cs', w.cells? base (a.add (i * P.cellsOf e)) (P.cellsOf e) = some cs' ∧ tq w cs' (cells x)) ∧ wf x ∧ size x ≤ B.f z.1 := by
  intro i x hx
  have hi : i < elems.length := by rw [← hxl]; exact (List.getElem?_eq_some_iff.1 hx).1
  exact ⟨_, List.getElem?_eq_getElem hi, hxs i _ x (List.getElem?_eq_getElem hi) hx⟩
 refine ⟨xs, .one ?_, ?_, ?_⟩
 ·have hcell : ∀ (i : Nat) (ee : List PV) (j : Nat) c, (xs.map cells)[i]? = some ee → ee[j]? = some c → ∃ v, w.cell? (a.add (i * P.cellsOf e + j)) = some v ∧ fj DM w v c := by
   intro i ee j c h1 h2
   rw [List.getElem?_map, Option.map_eq_some_iff] at h1
   obtain ⟨x, hx, rfl⟩ := h1
   obtain ⟨z, _, ⟨cs', hcs, hrd⟩, _, _⟩ := key i x hx
   obtain ⟨_, hcl, hcc⟩ := World.cells?_some hcs
   have hj : j < P.cellsOf e := by rw [← hc x]; exact (List.getElem?_eq_some_iff.1 h2).1
   have := hcc j hj
   rw [rc] at this
   have hget : cs'[j]? = some cs'[j] := List.getElem?_eq_getElem (by omega)
   exact ⟨cs'[j], this.trans hget, hrd.2 j _ c hget h2⟩
  have := fj.ro (μ := DM) (w := w) a cap (P.cellsOf e) (xs.map cells) (fun i j => (w.cell? (a.add (i * P.cellsOf e + j))).getD undef) (by simpa [hxlen] using hl)
   (fun ee he => by obtain ⟨x, _, rfl⟩ := List.mem_map.1 he; exact hc x)
   (fun hne => by
    refine ⟨?_, fun h => h⟩
    cases xs with
    | nil => simp at hne
    | cons x0 r0 =>
     have h0 : 0 < (cells x0).length := by rw [hc]; exact hpos
     obtain ⟨v, hv, _⟩ := hcell 0 (cells x0) 0 _ rfl (List.getElem?_eq_getElem h0)
     have := Kx hv
     rwa [nu] at this)
   (fun i ee j c h1 h2 => by obtain ⟨v, hv, _⟩ := hcell i ee j c h1 h2; simp [hv])
   (fun i ee j c h1 h2 => by obtain ⟨v, hv, hr⟩ := hcell i ee j c h1 h2; simpa [hv] using hr)
  rw [List.length_map, hxlen] at this
  exact this
 ·intro x hx
  obtain ⟨i, hi, rfl⟩ := List.getElem_of_mem hx
  obtain ⟨_, _, _, k, _⟩ := key i _ (List.getElem?_eq_getElem hi)
  exact k
 ·have : (xs.map size).sum ≤ ((elems.map (·.1)).map B.f).sum := by
   rw [List.map_map]
   exact AE (f := B.f ∘ Prod.fst) (g := size) hxl (fun i z x h1 h2 => (hxs i z x h1 h2).2.2)
  show (xs.map size).sum + 1 ≤ _
  omega
def Ab (B : Aj) (P : Program) (N : Nat) (off : Nat) (fs : List Field) {α : Type} (cells : α → List PV) (wf : α → Prop) (size : α → Nat) : Prop :=
 ∀ ⦃H : Type⦄ ⦃enc : TypeId × Value → H⦄ ⦃w : World⦄ ⦃base : Nat⦄ ⦃spare : Nat → Bool⦄ ⦃held : Bool⦄ ⦃n : Nat⦄ ⦃cs : List Value⦄ ⦃xs : List (DataW H × List MemPlace)⦄,
  xs.length = fs.length → (∀ (i : Nat) f, fs[i]? = some f → DataW.trod enc P w base spare held n f.type ((cs.drop f.offset).take (P.cellsOf f.type)) = xs[i]?) → ((xs.map (·.1)).map B.f).sum ≤ N →
  cs.length = off + (fs.map fun f => P.cellsOf f.type).sum →
  ∃ x, tq w (cs.drop off) (cells x) ∧ wf x ∧ size x ≤ ((xs.map (·.1)).map B.f).sum
theorem Ab.nil {N off : Nat} : Ab B P N off [] (fun _ : Unit => []) (fun _ => True) (fun _ => 0) := by
 intro H enc w base spare held n cs xs hl h hN hc
 refine ⟨(), ?_, trivial, Nat.zero_le _⟩
 have : cs.drop off = [] := by simp at hc ⊢; omega
 rw [this]
 exact .nil
theorem Ab.cons {N off : Nat} {f : Field} {fs : List Field} {α β : Type} {c1 : α → List PV} {w1 : α → Prop} {s1 : α → Nat} {c2 : β → List PV} {w2 : β → Prop} {s2 : β → Nat} (ho : f.offset = off) (hc : ∀ x, (c1 x).length = P.cellsOf f.type)
  (h : qH B P N f.type c1 w1 s1) (k : Ab B P N (off + P.cellsOf f.type) fs c2 w2 s2) : Ab B P N off (f :: fs) (fun p : α × β => c1 p.1 ++ c2 p.2) (fun p => w1 p.1 ∧ w2 p.2) (fun p => s1 p.1 + s2 p.2) := by
 intro H enc w base spare held n cs xs hl hx hN hlen
 match xs, hl with
 | z :: zs, hl =>
  simp only [List.map_cons, List.sum_cons] at hN hlen ⊢
  have h0 := hx 0 f rfl
  obtain ⟨x, a1, a2, a3⟩ := h (d := z.1) (ps := z.2) h0 (by omega)
  obtain ⟨y, b1, b2, b3⟩ := k (xs := zs) (cs := cs) (by simpa using hl) (fun i g hg => hx (i + 1) g (by simpa using hg)) (by omega) (by omega)
  refine ⟨(x, y), ?_, ⟨a2, b2⟩, by simp only; omega⟩
  rw [ho] at a1
  refine tq.app (n := P.cellsOf f.type) a1 ?_ (hc x)
  rw [List.drop_drop]
  exact b1
theorem qH.struct {N : Nat} {t : TypeId} {fs : Array Field} {α β : Type} {c : β → List PV} {wf : β → Prop} {s : β → Nat} {cells : α → List PV} {wf' : α → Prop} {size : α → Nat} (ht : P.underlying t = some (.struct fs)) (hsz : P.cellsOf t = 0 + (fs.toList.map fun f => P.cellsOf f.type).sum)
  (h : ∀ N', N' < N → Ab B P N' 0 fs.toList c wf s) (mk : β → α) (h1 : ∀ y, cells (mk y) = c y) (h2 : ∀ y, wf y → wf' (mk y)) (h3 : ∀ y, size (mk y) ≤ s y + 1) : qH B P N t cells wf' size := by
 intro H enc w base spare held aL cs d ps hd hN
 obtain ⟨xs, n, _, hx, hlen, hxl, hf⟩ := DataW.trod_struct ht hd
 simp only [Prod.mk.injEq] at hx
 obtain ⟨rfl, rfl⟩ := hx
 have hag := B.ag (xs.map (·.1))
 obtain ⟨y, a1, a2, a3⟩ := h _ (show ((xs.map (·.1)).map B.f).sum < N by omega) (xs := xs) (cs := cs) (by simpa using hxl) (fun i f hi => hf i f (by simpa using hi)) (Nat.le_refl _) (hlen.trans hsz)
 refine ⟨mk y, ?_, h2 y a2, ?_⟩
 ·rw [h1]; simpa using a1
 ·have := h3 y; omega
theorem qH.conv {N : Nat} {t : TypeId} {α : Type} {c c' : α → List PV} {wf wf' : α → Prop} {s s' : α → Nat} (h : qH B P N t c wf s) (h1 : ∀ x, c' x = c x) (h2 : ∀ x, wf x → wf' x) (h3 : ∀ x, s' x ≤ s x) : qH B P N t c' wf' s' := by
 intro H enc w base spare held aL cs d ps hd hN
 obtain ⟨x, a1, a2, a3⟩ := h hd hN
 exact ⟨x, by rw [h1]; exact a1, h2 x a2, Nat.le_trans (h3 x) a3⟩
end
theorem fj.toVRel {w : World} {v : Value} {p : PV} (h : fj DM w v p) : cy ⟨fun _ => none, fun _ => False⟩ w [] v (.pv p) :=
 .pv v p (h.mono (Nat.le_refl _) (fun b _ _ => ⟨rfl, fun hm => by
  rcases hm with hm | ⟨id, o, h1, _, _⟩
  ·exact hm
  ·simp at h1⟩))
theorem JV {w : World} {v : Value} {p : PV} (h : tq w [v] [p]) : aD ⟨fun _ => none, fun _ => False⟩ w [] v (.one (.pv p)) := .one _ _ (h.2 0 v p rfl rfl).toVRel
theorem LS {w : World} {cs : List Value} {ps : List PV} (h : tq w cs ps) : aD ⟨fun _ => none, fun _ => False⟩ w [] (.agg cs.toArray) (.ag (ps.map .pv)) := by
 refine .ag _ _ ⟨by simpa using h.1, fun j v c h1 h2 => ?_⟩
 rw [List.getElem?_map, Option.map_eq_some_iff] at h2
 obtain ⟨p, h2, rfl⟩ := h2
 exact (h.2 j v p h1 h2).toVRel
theorem wJ {B : Aj} {P : Program} {H : Type} {enc : TypeId × Value → H} {w : World} {base b0 : Nat} {spare : Nat → Bool} {held : Bool} {r : Reach} {t : TypeId} {v : Value} {d : DataW H} {ps : List MemPlace} {α : Type} {cells : α → List PV} {wf : α → Prop} {size : α → Nat}
  (h : ∀ N, qH B P N t cells wf size) (hval : Value.okWide P w r b0 t v) (hd : DataW.Trod enc P w base spare held t v d ps) :
  ∃ x, tq w v.cells.toList (cells x) ∧ wf x ∧ size x ≤ B.f d := by
 obtain ⟨aL, hd⟩ := hd
 exact h _ hd (Nat.le_refl _)
theorem Gt {P : Program} {w : World} {r : Reach} {b0 : Nat} {t : TypeId} {v : Value} {fs : Array Field} (ht : P.underlying t = some (.struct fs)) (hval : Value.okWide P w r b0 t v) : v = .agg v.cells := by
 simp only [Value.okWide, ht] at hval
 obtain ⟨cs, rfl, _⟩ := hval
 rfl
theorem ER {w : World} {v : Value} {ps : List PV} (hv : v = .agg v.cells) (h : tq w v.cells.toList ps) : aD ⟨fun _ => none, fun _ => False⟩ w [] v (.ag (ps.map .pv)) := by
 have := LS h
 rw [hv]
 simpa [Value.cells] using this
theorem zF {w : World} {v : Value} {p : PV} (h : tq w v.cells.toList [p]) (hv : ∀ cs, v ≠ .agg cs) : aD ⟨fun _ => none, fun _ => False⟩ w [] v (.one (.pv p)) := by
 have e : v.cells = #[v] := by cases v <;> first | rfl | exact absurd rfl (hv _)
 rw [e] at h
 exact JV h
theorem BS {P : Program} {w : World} {r : Reach} {b0 : Nat} {t : TypeId} {v : Value} (ht : (match P.underlying t with | some (.int _) => true | some .bool => true | some .string => true | some (.slice _) => true | _ => false) = true) (hval : Value.okWide P w r b0 t v) : ∀ cs, v ≠ .agg cs := by
 rintro cs rfl
 cases hu : P.underlying t with
 | none => simp [hu] at ht
 | some d =>
  cases d <;> simp [hu] at ht <;> simp [Value.okWide, hu, Cell.okWide, Cell.ok] at hval
structure EN (w w' : World) : Prop where
 os : w'.os = w.os
 output : w'.output = w.output
 size : w.heap.size ≤ w'.heap.size
 blk : ∀ b : Nat, b < w.heap.size → w'.heap[b]? = w.heap[b]?
theorem PC.call {P : Program} {f : Nat} {args : List AV} {r : AV} (h : PC P f args r) {w : World} {vs : List Value} (hl : vs.length = args.length) (hA : ∀ (j : Nat) v a, vs[j]? = some v → args[j]? = some a → aD ⟨fun _ => none, fun _ => False⟩ w [] v a) (hg : ∀ (b : Nat) (l : List Value), C2 b = some l → b < w.heap.size ∧ ∀ (i : Nat) v, l[i]? = some v → w.cell? ⟨b, i, none⟩ = some v) :
  Calls P f vs.toArray w fun e w' => ∃ v ι', e = .returned v ∧ aD ι' w' [] v r ∧ EN w w' := by
 refine (h ⟨fun _ => none, fun _ => False⟩ w vs ⟨fun id o h => by simp at h, fun b h => h.elim, fun b h => fun h' => h', fun id id' o o' b h => by simp at h, fun b o h => ⟨fun hm => hm.elim id (fun ⟨_, _, h1, _⟩ => by simp at h1), hg b o h⟩⟩ ⟨hl, hA⟩).mono ?_
 rintro e w' ⟨v, av, st', ι', rfl, ⟨rfl, rfl⟩, hR, hv, k⟩
 refine ⟨v, ι', rfl, hv, k.os, k.output, k.size, fun b hb => (k.blk b hb ?_).1⟩
 rintro ⟨id, o, h1, _⟩
 simp at h1
theorem EN.keptBut {w w' : World} (k : EN w w') (may : MemPlace → Prop) : w.keptBut w' may := by
 refine ⟨k.os, k.output, fun i hi => ?_⟩
 rw [k.blk i hi]
 have : w.heap[i]? = some w.heap[i] := Array.getElem?_eq_getElem hi
 rw [this]
 cases w.heap[i] with
 | cells c t fr => exact ⟨rfl, rfl, rfl, fun _ _ => rfl⟩
 | map es clock => exact .inr ⟨rfl, rfl⟩
 | _ => rfl
theorem EN.frozen {w w' : World} (k : EN w w') {b off : Nat} (hb : b < w.heap.size) : w'.frozen? ⟨b, off, none⟩ = w.frozen? ⟨b, off, none⟩ := by
 simp [World.frozen?, k.blk b hb]
open Go.ChangeShapes Go.WideElems Go.WideShapes in
theorem AT {H : Type} {enc : TypeId × Value → H} {P : Program} {W W' : World} (hl : laidOutB P = true) (k : EN W W') {sp : Nat → Bool} : ∀ {ts : List TypeId} {vs : List Value} {ds : List (DataW H)} {ps : List MemPlace}, (ts.all fun t => P.readableRec t && Nat.ble (t + 1) P.types.size) = true →
  DataW.TrodAll enc P W 0 (fun _ => true) true ts vs ds ps → (∀ p ∈ ps, p.block < W.heap.size) → (∀ p ∈ ps, sp p.block = true) → DataW.TrodAll enc P W' 0 sp true ts vs ds ps
 | [], _, _, _, _, h, _, _ => by
  obtain ⟨rfl, rfl, rfl⟩ := trodAll_nil h
  exact rfl
 | t :: ts, _, _, _, hr, h, hp, hs => by
  obtain ⟨v, vs1, d, ds1, a, b, rfl, rfl, rfl, h1, h2⟩ := trodAll_cons h
  simp only [List.all_cons, Bool.and_eq_true] at hr
  refine ⟨a, b, Trod_stays hl hr.1.1 (Nat.le_of_ble_eq_true hr.1.2) h1 (fun p hpa => ?_) (fun p hpa => hs p (by simp [hpa])), AT hl k hr.2 h2 (fun p hpa => hp p (by simp [hpa])) (fun p hpa => hs p (by simp [hpa])), rfl⟩
  have := hp p (by simp [hpa])
  cases p with
  | cell b off => exact cell?_same (k.blk b this)
  | map b => exact k.blk b this
open Go.ChangeShapes Go.RowKit Go.WideShapes Go.ChangeAt in
theorem Hd {H : Type} {enc : TypeId × Value → H} {P : Program} {f : Func} {s : ChangeSpec} {apart fresh handsOn again : Bool} {W W' : World} {args : Array Value} {ds gs : List (DataW H)} {before : List MemPlace}
  (hW : DataW.Whole enc P f.params.toList s.vars apart W args.toList ds gs before) (hl : laidOutB P = true) (hr : (f.params.toList.all fun t => P.readableRec t && Nat.ble (t + 1) P.types.size) = true) (k : EN W W')
  (hvars : s.vars = []) (t : TypeId) (ht : f.resultTypes = #[t]) (hb : P.underlying t = some .bool) (hsp : s.fn H ds = { results := [.lit (.bool true)], args := ds }) :
  s.post enc P f apart fresh handsOn again W args (.bool true) W' := by
 have hW' := hW
 have hlt : ∀ p ∈ before, p.block < W.heap.size := fun p hp => hW.lt p hp
 obtain ⟨p, q, hA, hV, rfl, hz, hn⟩ := hW'
 rw [hvars] at hV
 obtain ⟨rfl, rfl⟩ := trodVars_none hV
 have hres : ∀ (b : Nat) (sp : Nat → Bool) (hd : Bool), DataW.TrodAll enc P W' b sp hd f.resultTypes.toList ((Value.bool true).resultList f.resultTypes.size) [.lit (.bool true)] [] := by
  intro b sp hd
  rw [ht]
  exact trodAll_cons_mk (shut_bool hb _) trodAll_mk0
 simp only [List.append_nil] at *
 have hargs : ∀ sp : Nat → Bool, (∀ x ∈ p, sp x.block = true) → DataW.TrodAll enc P W' 0 sp true f.params.toList args.toList ds p := fun sp hs => AT hl k hr hA hlt hs
 have hold : ∀ x ∈ p, (fun b => decide (b < W.heap.size)) x.block = true := fun x hx => by simpa using hlt x hx
 refine ⟨ds, [], p, [], p, [], by simpa using hW, ?_, ?_, ?_, k.keptBut _, fun _ => ⟨?_, [.lit (.bool true)] ++ ds, [], p, ⟨p, [], ?_, ?_, by simp, ?_, hn⟩, ?_⟩⟩
 ·simp only [List.append_nil, hsp]; exact hres _ _ _
 ·simp only [List.append_nil, hsp]; exact hargs _ hold
 ·simp only [List.append_nil, hsp, hvars]; rfl
 ·exact ok_one ht rfl (okWide_bool_mk hb _)
 ·have := trodAll_append (hargs (fun _ => true) (fun _ _ => rfl)) (hres 0 (fun _ => true) true)
  simpa using this
 ·rw [hvars]; rfl
 ·intro b off hp
  rw [k.frozen (b := b) (off := off) (hlt _ hp)]
  exact hz b off hp
 ·intro x hx _; exact hx
theorem Kg {ι : IM} {w : World} {v : Value} {b : Bool} (h : aD ι w [] v (.one (.pv (.s (.bool b))))) : v = .bool b := by
 cases h with
 | one _ _ h =>
  cases h with
  | pv _ _ h => cases h with | s => rfl
end Go.SX
namespace Go.SX
open Go
def fieldsOf (P : Program) (t : TypeId) : List Field := match P.underlying t with
 | some (.struct fs) => fs.toList
 | _ => []
def nJ (P : Program) (t : TypeId) : Bool := match P.underlying t with
 | some (.struct _) => true
 | _ => false
def m9 (P : Program) (t : TypeId) (i : Nat) : Field := (fieldsOf P t)[i]?.getD default
section
variable {B : Aj} {P : Program}
theorem qH.structF {N : Nat} {t : TypeId} {L : List Field} {α β : Type} {c : β → List PV} {wf : β → Prop} {s : β → Nat} {cells : α → List PV} {wf' : α → Prop} {size : α → Nat} (hu : nJ P t = true) (hL : fieldsOf P t = L) (hsz : P.cellsOf t = 0 + (L.map fun f => P.cellsOf f.type).sum)
  (h : ∀ N', N' < N → Ab B P N' 0 L c wf s) (mk : β → α) (h1 : ∀ y, cells (mk y) = c y) (h2 : ∀ y, wf y → wf' (mk y)) (h3 : ∀ y, size (mk y) ≤ s y + 1) : qH B P N t cells wf' size := by
 unfold nJ at hu
 unfold fieldsOf at hL
 cases hd : P.underlying t with
 | none => simp [hd] at hu
 | some d =>
  cases d <;> simp [hd] at hu
  rename_i fs
  simp only [hd] at hL
  subst hL
  exact qH.struct hd hsz h mk h1 h2 h3
theorem Ez {w : World} {r : Reach} {b0 : Nat} {t : TypeId} {v : Value} (hu : nJ P t = true) (hval : Value.okWide P w r b0 t v) : v = .agg v.cells := by
 unfold nJ at hu
 cases hd : P.underlying t with
 | none => simp [hd] at hu
 | some d =>
  cases d <;> simp [hd] at hu
  exact Gt hd hval
end
end Go.SX
namespace Go.SX
open Go
abbrev vv (n : Int) : Prop := IntKind.min .i64 ≤ n ∧ n ≤ IntKind.max .i64
theorem J4 {B : Aj} {P : Program} {wf : aa → Prop} {sz : aa → Nat} (tv ti ts tl : TypeId) (hi : P.underlying ti = some (.int .i64)) (hs : P.underlying ts = some .string) (hl : P.underlying tl = some (.slice tv)) (hu : nJ P tv = true)
  (hL : fieldsOf P tv = [m9 P tv 0, m9 P tv 1, m9 P tv 2, m9 P tv 3, m9 P tv 4]) (hz : P.cellsOf tv = 5 ∧ P.cellsOf ti = 1 ∧ P.cellsOf ts = 1 ∧ P.cellsOf tl = 1)
  (ht : (m9 P tv 0).type = ti ∧ (m9 P tv 1).type = ti ∧ (m9 P tv 2).type = ti ∧ (m9 P tv 3).type = ts ∧ (m9 P tv 4).type = tl)
  (ho : (m9 P tv 0).offset = 0 ∧ (m9 P tv 1).offset = 1 ∧ (m9 P tv 2).offset = 2 ∧ (m9 P tv 3).offset = 3 ∧ (m9 P tv 4).offset = 4)
  (hwf : ∀ k n sc s it, vv k → vv n → vv sc → (∀ x ∈ it, wf x) → wf ⟨k, n, sc, s, it⟩) (hsz : ∀ k n sc s it, sz ⟨k, n, sc, s, it⟩ ≤ s.size + (it.map sz).sum + 6) :
  ∀ N, qH B P N tv aa.cells wf sz := by
 obtain ⟨t0, t1, t2, t3, t4⟩ := ht
 obtain ⟨o0, o1, o2, o3, o4⟩ := ho
 obtain ⟨z0, z1, z2, z3⟩ := hz
 intro N
 induction N using Nat.strongRecOn with
 | _ N ih =>
  have I : ∀ (N : Nat) (f : Field), f.type = ti → qH B P N f.type (fun n : Int => [PV.s (.int .i64 n)]) (fun n => IntKind.min .i64 ≤ n ∧ n ≤ IntKind.max .i64) (fun _ => 1) := fun N f hf => qH.int (by rw [hf]; exact hi)
  have C : ∀ (f : Field), f.type = ti → ∀ x : Int, ([PV.s (.int .i64 x)] : List PV).length = P.cellsOf f.type := fun f hf x => by rw [hf, z1]; rfl
  refine qH.structF (α := aa) (cells := aa.cells) (wf' := wf) (size := sz) hu hL (by simp [t0, t1, t2, t3, t4, z0, z1, z2, z3]) (fun N' hN' =>
   Ab.cons o0 (C _ t0) (I N' _ t0) (Ab.cons (by rw [o1, t0, z1]) (C _ t1) (I N' _ t1) (Ab.cons (by rw [o2, t0, t1, z1]) (C _ t2) (I N' _ t2)
    (Ab.cons (c1 := fun s : ByteArray => [PV.s (.string s)]) (by rw [o3, t0, t1, t2, z1]) (fun x => by rw [t3, z2]; rfl) (qH.str (by rw [t3]; exact hs))
     (Ab.cons (c1 := fun xs : List aa => [PV.ro (xs.map aa.cells)]) (by rw [o4, t0, t1, t2, t3, z1, z2]) (fun x => by rw [t4, z3]; rfl)
      (qH.slice (e := tv) (by rw [t4]; exact hl) (fun x => by rw [z0]; cases x; rfl) (by omega) (fun N'' hN'' => ih N'' (by omega))) Ab.nil)))))
   (fun y => (⟨y.1, y.2.1, y.2.2.1, y.2.2.2.1, y.2.2.2.2.1⟩ : aa)) (fun y => ?_) (fun y h => hwf _ _ _ _ _ h.1 h.2.1 h.2.2.1 h.2.2.2.2.1) (fun y => ?_)
  ·simp only [aa.cells, aa.lcells_eq]
   rfl
  ·have := hsz y.1 y.2.1 y.2.2.1 y.2.2.2.1 y.2.2.2.2.1
   exact Nat.le_trans this (by show _ ≤ 1 + (1 + (1 + ((y.2.2.2.1).size + 1 + ((y.2.2.2.2.1.map sz).sum + 1 + 0)))) + 1; omega)
end Go.SX
namespace Go.SX
open Go
theorem KH {B : Aj} {P : Program} {wfT : ae → Prop} {szT : ae → Nat} {wfF : aV → Prop} {szF : aV → Nat} (tt tf ti ts tb : TypeId) (hi : P.underlying ti = some (.int .i64)) (hs : P.underlying ts = some .string) (hb : P.underlying tb = some .bool) (hu : nJ P tf = true)
  (hL : fieldsOf P tf = [m9 P tf 0, m9 P tf 1, m9 P tf 2, m9 P tf 3]) (hz : P.cellsOf tf = 6 ∧ P.cellsOf tt = 3 ∧ P.cellsOf ti = 1 ∧ P.cellsOf ts = 1 ∧ P.cellsOf tb = 1)
  (ht : (m9 P tf 0).type = ti ∧ (m9 P tf 1).type = ts ∧ (m9 P tf 2).type = tb ∧ (m9 P tf 3).type = tt)
  (ho : (m9 P tf 0).offset = 0 ∧ (m9 P tf 1).offset = 1 ∧ (m9 P tf 2).offset = 2 ∧ (m9 P tf 3).offset = 3)
  (hwf : ∀ i n q t, vv i → wfT t → wfF ⟨i, n, q, t⟩) (hsz : ∀ i n q t, szF ⟨i, n, q, t⟩ ≤ n.size + szT t + 4) {N : Nat} (ih : ∀ N', N' < N → qH B P N' tt ae.cells wfT szT) :
  qH B P N tf ae.fcell wfF szF := by
 obtain ⟨t0, t1, t2, t3⟩ := ht
 obtain ⟨o0, o1, o2, o3⟩ := ho
 obtain ⟨z0, z1, z2, z3, z4⟩ := hz
 refine qH.structF (α := aV) (cells := ae.fcell) (wf' := wfF) (size := szF) hu hL (by simp [t0, t1, t2, t3, z0, z1, z2, z3, z4]) (fun N' hN' =>
  Ab.cons (c1 := fun n : Int => [PV.s (.int .i64 n)]) o0 (fun x => by rw [t0, z2]; rfl) (qH.int (by rw [t0]; exact hi))
   (Ab.cons (c1 := fun s : ByteArray => [PV.s (.string s)]) (by rw [o1, t0, z2]) (fun x => by rw [t1, z3]; rfl) (qH.str (by rw [t1]; exact hs))
    (Ab.cons (c1 := fun b : Bool => [PV.s (.bool b)]) (by rw [o2, t0, t1, z2, z3]) (fun x => by rw [t2, z4]; rfl) (qH.bool (by rw [t2]; exact hb))
     (Ab.cons (c1 := ae.cells) (by rw [o3, t0, t1, t2, z2, z3, z4]) (fun x => by rw [t3, z1]; cases x; rfl) (by rw [t3]; exact ih N' hN') Ab.nil))))
  (fun y => (⟨y.1, y.2.1, y.2.2.1, y.2.2.2.1⟩ : aV)) (fun y => ?_) (fun y h => hwf _ _ _ _ h.1 h.2.2.2.1) (fun y => ?_)
 ·simp only [ae.fcell, List.append_nil]
  rfl
 ·have := hsz y.1 y.2.1 y.2.2.1 y.2.2.2.1
  exact Nat.le_trans this (by show _ ≤ 1 + ((y.2.1).size + 1 + (1 + (szT y.2.2.2.1 + 0))) + 1; omega)
theorem M3 {B : Aj} {P : Program} {wfT : ae → Prop} {szT : ae → Nat} {wfF : aV → Prop} {szF : aV → Nat} (tt tf ti ts tb tl : TypeId) (hi : P.underlying ti = some (.int .i64)) (hs : P.underlying ts = some .string) (hb : P.underlying tb = some .bool)
  (hl : P.underlying tl = some (.slice tf)) (hu : nJ P tf = true) (hu' : nJ P tt = true)
  (hL : fieldsOf P tf = [m9 P tf 0, m9 P tf 1, m9 P tf 2, m9 P tf 3]) (hL' : fieldsOf P tt = [m9 P tt 0, m9 P tt 1, m9 P tt 2]) (hz : P.cellsOf tf = 6 ∧ P.cellsOf tt = 3 ∧ P.cellsOf ti = 1 ∧ P.cellsOf ts = 1 ∧ P.cellsOf tb = 1) (hzl : P.cellsOf tl = 1)
  (ht : (m9 P tf 0).type = ti ∧ (m9 P tf 1).type = ts ∧ (m9 P tf 2).type = tb ∧ (m9 P tf 3).type = tt)
  (ho : (m9 P tf 0).offset = 0 ∧ (m9 P tf 1).offset = 1 ∧ (m9 P tf 2).offset = 2 ∧ (m9 P tf 3).offset = 3)
  (ht' : (m9 P tt 0).type = ti ∧ (m9 P tt 1).type = ti ∧ (m9 P tt 2).type = tl)
  (ho' : (m9 P tt 0).offset = 0 ∧ (m9 P tt 1).offset = 1 ∧ (m9 P tt 2).offset = 2)
  (hwf : ∀ i n q t, vv i → wfT t → wfF ⟨i, n, q, t⟩) (hsz : ∀ i n q t, szF ⟨i, n, q, t⟩ ≤ n.size + szT t + 4)
  (hwf' : ∀ k s fs, vv k → vv s → (∀ f ∈ fs, wfF f) → wfT ⟨k, s, fs⟩) (hsz' : ∀ k s fs, szT ⟨k, s, fs⟩ ≤ (fs.map szF).sum + 4) :
  ∀ N, qH B P N tt ae.cells wfT szT := by
 intro N
 induction N using Nat.strongRecOn with
 | _ N ih =>
  have hF : ∀ N', N' ≤ N → qH B P N' tf ae.fcell wfF szF := fun N' h => KH tt tf ti ts tb hi hs hb hu hL hz ht ho hwf hsz (fun N'' h'' => ih N'' (by omega))
  obtain ⟨t0, t1, t2⟩ := ht'
  obtain ⟨o0, o1, o2⟩ := ho'
  obtain ⟨z0, z1, z2, z3, z4⟩ := hz
  refine qH.structF (α := ae) (cells := ae.cells) (wf' := wfT) (size := szT) hu' hL' (by simp [t0, t1, t2, z1, z2, hzl]) (fun N' hN' =>
   Ab.cons (c1 := fun n : Int => [PV.s (.int .i64 n)]) o0 (fun x => by rw [t0, z2]; rfl) (qH.int (by rw [t0]; exact hi))
    (Ab.cons (c1 := fun n : Int => [PV.s (.int .i64 n)]) (by rw [o1, t0, z2]) (fun x => by rw [t1, z2]; rfl) (qH.int (by rw [t1]; exact hi))
     (Ab.cons (c1 := fun xs : List aV => [PV.ro (xs.map ae.fcell)]) (by rw [o2, t0, t1, z2]) (fun x => by rw [t2, hzl]; rfl)
      (qH.slice (e := tf) (by rw [t2]; exact hl) (fun x => by rw [z0]; obtain ⟨_, _, _, ⟨_, _, _⟩⟩ := x; rfl) (by omega) (fun N'' hN'' => hF N'' (by omega))) Ab.nil)))
   (fun y => (⟨y.1, y.2.1, y.2.2.1⟩ : ae)) (fun y => ?_) (fun y h => hwf' _ _ _ h.1 h.2.1 h.2.2.1) (fun y => ?_)
  ·simp only [ae.cells, ae.fcells_eq]
   rfl
  ·have := hsz' y.1 y.2.1 y.2.2.1
   exact Nat.le_trans this (by show _ ≤ 1 + (1 + ((y.2.2.1.map szF).sum + 1 + 0)) + 1; omega)
theorem HE {w : World} {v : Value} {x : ae} (h : aD ⟨fun _ => none, fun _ => False⟩ w [] v (.ag ((ae.cells x).map .pv))) : aD ⟨fun _ => none, fun _ => False⟩ w [] v (.ag [ci x.kind, ci x.scale, cl aI x.fields]) := by
 cases x; exact h
end Go.SX
namespace Go.SX
open Go
end Go.SX
namespace Go.SX
open Go
theorem HX {B : Aj} {P : Program} {wf : aa → Prop} {sz : aa → Nat} {szL : List aa → Nat} (tv ti ts tl : TypeId) (hi : P.underlying ti = some (.int .i64)) (hs : P.underlying ts = some .string) (hl : P.underlying tl = some (.slice tv)) (hu : nJ P tv = true)
  (hL : fieldsOf P tv = [m9 P tv 0, m9 P tv 1, m9 P tv 2, m9 P tv 3, m9 P tv 4]) (hz : P.cellsOf tv = 5 ∧ P.cellsOf ti = 1 ∧ P.cellsOf ts = 1 ∧ P.cellsOf tl = 1)
  (ht : (m9 P tv 0).type = ti ∧ (m9 P tv 1).type = ti ∧ (m9 P tv 2).type = ti ∧ (m9 P tv 3).type = ts ∧ (m9 P tv 4).type = tl)
  (ho : (m9 P tv 0).offset = 0 ∧ (m9 P tv 1).offset = 1 ∧ (m9 P tv 2).offset = 2 ∧ (m9 P tv 3).offset = 3 ∧ (m9 P tv 4).offset = 4)
  (hwf : ∀ k n sc s it, vv k → vv n → vv sc → (∀ x ∈ it, wf x) → wf ⟨k, n, sc, s, it⟩) (hsz : ∀ k n sc s it, sz ⟨k, n, sc, s, it⟩ ≤ s.size + (it.map sz).sum + 6) (hszl : ∀ xs, szL xs ≤ (xs.map sz).sum + 1) (N : Nat) :
  qH B P N tl (fun xs : List aa => [PV.ro (ap.els xs)]) (fun xs => ∀ x ∈ xs, wf x) szL := by
 have hV := J4 (B := B) (P := P) tv ti ts tl hi hs hl hu hL hz ht ho hwf hsz
 refine qH.conv (qH.slice (e := tv) (cells := aa.cells) hl (fun x => by rw [hz.1]; cases x; rfl) (by rw [hz.1]; omega) (fun N' _ => hV N')) (fun x => ?_) (fun x h => h) hszl
 show [PV.ro (aa.lcells x)] = _
 rw [aa.lcells_eq]
theorem CL : ∀ xs : List Int, (xs.map (fun _ => (1 : Nat))).sum = xs.length
 | [] => rfl
 | x :: l => by rw [List.map_cons, List.sum_cons, CL l, List.length_cons]; omega
theorem La {B : Aj} {P : Program} (tl ti : TypeId) (hl : P.underlying tl = some (.slice ti)) (hi : P.underlying ti = some (.int .u8)) (hz : P.cellsOf ti = 1) (N : Nat) :
  qH B P N tl (fun xs : List Int => [PV.ro ((eK .u8).els xs)]) (fun xs => ∀ x ∈ xs, IntKind.min .u8 ≤ x ∧ x ≤ IntKind.max .u8) (fun xs => xs.length) := by
 refine qH.conv (qH.slice (e := ti) (cells := fun n : Int => [PV.s (.int .u8 n)]) hl (fun x => by rw [hz]; rfl) (by rw [hz]; omega) (fun N' _ => qH.int hi)) (fun x => rfl) (fun x h => h) (fun xs => ?_)
 rw [CL]; omega
end Go.SX
