/- SX: a machine that runs the program's code over frames up to the next event (a condition, a call, a list's operation); proofs name the events only. SX: the events' rules. SX: the events' rules, second part: objects. SX: the events' rules, third part: lists of our own. SX: the events' rules, fourth part: operations on lists of our own. SX: calls that yield a number and an error, which is only held against nil. SX: maps whose elements are of several cells, by events. The program's data as Lean's, with their cells. SX: functions whose contract is given over plain worlds; utf8.ValidString by the shelf's contract. SX: functions that the model stands in for, at any arguments; bytes.Compare. SX: a pointer to an object of ours against nil, by events; new lists that a contract of the library tells. SX: runs put together by hand: pieces by events, and between them calls that change blocks which no object of the store bears. SX: the way from a given row to a contract of pure values: reading the arguments, and closing the row. SX: readings of structs by the program's own fields. SX: a struct of two integers, read. SX: a specification, read. SX: readings of values and types. Types out of rows. Lists of fields out of rows. Lists of values, of numbers, of bytes out of rows. Lists of lists of values out of rows. -/
import Derived.Shelf.Unicode.ValidAny
import Derived.Lib.Bytealg
import Derived.Laws.Pointers
import Derived.Laws.AppendOwn
import Derived.Lib.SlBytesConst
import Derived.OpenShut
import Derived.JoinedCond
import Derived.WideKeyArgs
import Derived.Test.YtikbfjpcmalmlaaGreatDoorSxB
set_option linter.unusedVariables false
set_option linter.unusedSimpArgs false
set_option linter.unnecessarySimpa false
namespace Go.SX
open Go
set_option linter.unusedVariables false
set_option linter.unusedSimpArgs false

/-! ### values in constructor form -/
section force
variable {β : Type}
def fN (n : Nat) (K : Nat → β) : β :=
 bif Nat.beq n 0 then K 0 else bif Nat.beq n 1 then K 1 else bif Nat.beq n 2 then K 2 else bif Nat.beq n 3 then K 3 else
 bif Nat.beq n 4 then K 4 else bif Nat.beq n 5 then K 5 else bif Nat.beq n 6 then K 6 else bif Nat.beq n 7 then K 7 else
 bif Nat.beq n 8 then K 8 else bif Nat.beq n 9 then K 9 else bif Nat.beq n 10 then K 10 else bif Nat.beq n 11 then K 11 else
 bif Nat.beq n 12 then K 12 else bif Nat.beq n 13 then K 13 else K n
theorem fN_eq (n : Nat) (K : Nat → β) : fN n K = K n := by
 have h : ∀ (m : Nat) (r : β), r = K n → (bif Nat.beq n m then K m else r) = K n := by
  intro m r hr
  cases hb : Nat.beq n m with
  | true => rw [Nat.eq_of_beq_eq_true hb]; rfl
  | false => exact hr
 unfold fN
 repeat first | exact rfl | apply h
def fV (v : Value) (K : Value → β) : β := match v with
 | .int k n => K (.int k n)
 | .bool b => K (.bool b)
 | .string s => K (.string s)
 | .slice none 0 0 => K (.slice none 0 0)
 | v => K v
theorem fV_eq (v : Value) (K : Value → β) : fV v K = K v := by unfold fV; split <;> rfl
def fP0 (p : PV) (K : PV → β) : β := match p with
 | .s v => fV v fun v => K (.s v)
 | .ro els => K (.ro els)
 | .rp els i off => fN off fun off => K (.rp els i off)
 | .fn f caps => K (.fn f caps)
theorem fP0_eq (p : PV) (K : PV → β) : fP0 p K = K p := by unfold fP0; split <;> simp only [fV_eq, fN_eq]
def fPL : List PV → (List PV → β) → β
 | [], K => K []
 | p :: l, K => fP0 p fun p => fPL l fun l => K (p :: l)
theorem fPL_eq : ∀ (l : List PV) (K : List PV → β), fPL l K = K l
 | [], K => rfl
 | p :: l, K => by simp only [fPL, fP0_eq, fPL_eq l]
def fP (p : PV) (K : PV → β) : β := match p with
 | .fn f caps => fPL caps fun caps => K (.fn f caps)
 | p => fP0 p K
theorem fP_eq (p : PV) (K : PV → β) : fP p K = K p := by unfold fP; split <;> simp only [fPL_eq, fP0_eq]
def fC0 (c : CV) (K : CV → β) : β := match c with
 | .pv p => fP p fun p => K (.pv p)
 | .pt id sz i off => fN id fun id => fN off fun off => K (.pt id sz i off)
 | .sl id sz off len => fN id fun id => K (.sl id sz off len)
 | .fn f caps => K (.fn f caps)
 | .mp id => fN id fun id => K (.mp id)
 | .cl els => K (.cl els)
theorem fC0_eq (c : CV) (K : CV → β) : fC0 c K = K c := by unfold fC0; split <;> simp only [fP_eq, fN_eq]
def fCL : List CV → (List CV → β) → β
 | [], K => K []
 | p :: l, K => fC0 p fun p => fCL l fun l => K (p :: l)
theorem fCL_eq : ∀ (l : List CV) (K : List CV → β), fCL l K = K l
 | [], K => rfl
 | p :: l, K => by simp only [fCL, fC0_eq, fCL_eq l]
def fC (c : CV) (K : CV → β) : β := match c with
 | .fn f caps => fCL caps fun caps => K (.fn f caps)
 | c => fC0 c K
theorem fC_eq (c : CV) (K : CV → β) : fC c K = K c := by unfold fC; split <;> simp only [fCL_eq, fC0_eq]
def fA0 (a : AV) (K : AV → β) : β := match a with
 | .j => K .j
 | .one c => fC c fun c => K (.one c)
 | .ag cs => fCL cs fun cs => K (.ag cs)
 | .tp vs => K (.tp vs)
theorem fA0_eq (a : AV) (K : AV → β) : fA0 a K = K a := by unfold fA0; split <;> simp only [fC_eq, fCL_eq]
def fAL : List AV → (List AV → β) → β
 | [], K => K []
 | p :: l, K => fA0 p fun p => fAL l fun l => K (p :: l)
theorem fAL_eq : ∀ (l : List AV) (K : List AV → β), fAL l K = K l
 | [], K => rfl
 | p :: l, K => by simp only [fAL, fA0_eq, fAL_eq l]
def fA (a : AV) (K : AV → β) : β := match a with
 | .tp vs => fAL vs fun vs => K (.tp vs)
 | a => fA0 a K
theorem fA_eq (a : AV) (K : AV → β) : fA a K = K a := by unfold fA; split <;> simp only [fAL_eq, fA0_eq]
def fB (b : Body) (K : Body → β) : β := match b with
 | .box cells => fCL cells fun cells => K (.box cells)
 | .dead => K .dead
 | .arr sz els => K (.arr sz els)
 | .rel R ps => K (.rel R ps)
theorem fB_eq (b : Body) (K : Body → β) : fB b K = K b := by unfold fB; split <;> simp only [fCL_eq]
def fS : St → (St → β) → β
 | [], K => K []
 | p :: l, K => fB p fun p => fS l fun l => K (p :: l)
theorem fS_eq : ∀ (l : St) (K : St → β), fS l K = K l
 | [], K => rfl
 | p :: l, K => by simp only [fS, fB_eq, fS_eq l]
def fF : Fr → (Fr → β) → β
 | [], K => K []
 | (d, a) :: l, K => fA a fun a => fF l fun l => K ((d, a) :: l)
theorem fF_eq : ∀ (l : Fr) (K : Fr → β), fF l K = K l
 | [], K => rfl
 | (d, a) :: l, K => by simp only [fF, fA_eq, fF_eq l]
def fPD : List PV → (List PV → β) → β
 | [], K => K []
 | p :: l, K => fP p fun p => fPD l fun l => K (p :: l)
theorem fPD_eq : ∀ (l : List PV) (K : List PV → β), fPD l K = K l
 | [], K => rfl
 | p :: l, K => by simp only [fPD, fP_eq, fPD_eq l]
def fLL : List (List PV) → (List (List PV) → β) → β
 | [], K => K []
 | p :: l, K => fPD p fun p => fLL l fun l => K (p :: l)
theorem fLL_eq : ∀ (l : List (List PV)) (K : List (List PV) → β), fLL l K = K l
 | [], K => rfl
 | p :: l, K => by simp only [fLL, fPD_eq, fLL_eq l]
def fAL2 (a : AV) (K : AV → β) : β := match a with
 | .one (.pv (.ro els)) => fLL els fun els => K (.one (.pv (.ro els)))
 | a => fA a K
theorem fAL2_eq (a : AV) (K : AV → β) : fAL2 a K = K a := by unfold fAL2; split <;> simp only [fLL_eq, fA_eq]
def fSL : St → (St → β) → β
 | [], K => K []
 | [.arr sz els], K => fLL els fun els => K [.arr sz els]
 | p :: l, K => fB p fun p => fSL l fun l => K (p :: l)
theorem fSL_eq : ∀ (l : St) (K : St → β), fSL l K = K l
 | [], K => rfl
 | [.arr sz els], K => by simp only [fSL, fLL_eq]
 | .dead :: l, K => by simp only [fSL, fB_eq, fSL_eq l]
 | .box c :: l, K => by simp only [fSL, fB_eq, fSL_eq l]
 | .rel R c :: l, K => by simp only [fSL, fB_eq, fSL_eq l]
 | .arr sz els :: x :: l, K => by simp only [fSL, fB_eq, fSL_eq (x :: l)]
inductive FM where
 | n
 | a
 | s
def fX (b : FM) (a : AV) (st : St) (K : AV → St → β) : β := match b with
 | .a => fAL2 a fun a => K a st
 | .s => fA a fun a => fSL st fun st => K a st
 | .n => fA a fun a => fS st fun st => K a st
theorem fX_eq (b : FM) (a : AV) (st : St) (K : AV → St → β) : fX b a st K = K a st := by cases b <;> simp only [fX, fA_eq, fS_eq, fAL2_eq, fSL_eq]
end force

/-! ### regions that draw, with objects: what is still to be done -/
section
variable {P : Program} {n : Nat} {an X : List Nat} {ops : Array Oper} {l : List Oper} {fr : Fr} {st : St}
def twOk (ops : Array Oper) (X : List Nat) (tw : List (List Nat × List Nat)) : Bool := confsTW ops tw && refsTW X tw
def GK (P : Program) (n : Nat) (X : List Nat) (ops : Array Oper) (l : List Oper) (tw : List (List Nat × List Nat)) (R : Fr → St → Prop) (fr : Fr) (st : St) : Prop :=
 ∃ fr' st' tw', GX P n ops X l tw' fr st fr' st' ∧ twOk ops X (tw ++ tw') = true ∧ R fr' st'
theorem GK.nil {tw : List (List Nat × List Nat)} {R : Fr → St → Prop} (h : twOk ops X tw = true) (k : R fr st) : GK P n X ops [] tw R fr st := ⟨fr, st, [], GX.done rfl, by rw [List.append_nil]; exact h, k⟩
theorem GK.of {tw : List (List Nat × List Nat)} {R : Fr → St → Prop} {fr' : Fr} {st' : St} {l' : List Oper} {tw1 : List Nat × List Nat} (h : ∀ {tw2 : List (List Nat × List Nat)} {fr2 : Fr} {st2 : St}, GX P n ops X l' tw2 fr' st' fr2 st2 → GX P n ops X l (tw1 :: tw2) fr st fr2 st2) (k : GK P n X ops l' (tw ++ [tw1]) R fr' st') : GK P n X ops l tw R fr st := by
 obtain ⟨fr2, st2, tw2, h1, h2, h3⟩ := k
 exact ⟨fr2, st2, tw1 :: tw2, h h1, by rw [show tw ++ tw1 :: tw2 = tw ++ [tw1] ++ tw2 by simp]; exact h2, h3⟩

theorem Yd.aside {o : Oper} {f : Fr} {a : AV} (T : List Nat) (h : Yd P n (maskF (inL T) 0 st) o f a) : YgP P n X o f ⟨a, T, [], [], st⟩ st := by
 intro st' ι w act hl hT hX hR hF K Q hK
 have hl : st'.length = st.length := hl
 have hT : ∀ id, inL T id = true → st'[id]? = st[id]? := hT
 rw [← mask_eq hl hT] at h
 have hRm := hR.mask (inL T)
 have hFm : FRel n (SX.aside (inL T) ι st') w (maskF (inL T) 0 st') act f :=
  ⟨hF.defers, hF.size, fun t => (hF.slot t).chg (fun b hb => mask_mut.1 hb) (by rw [maskF_len]; exact Nat.le_refl _) (fun _ => rfl)⟩
 refine h _ w act hRm hFm K Q fun v w' ι2 hv hR2 k => ?_
 obtain ⟨r1, m1, k1⟩ := hR.unmask (T := inL T) (q := fun _ => true) (by rw [maskF_len]; exact Nat.le_refl _) hR2 (k.weaken fun _ _ => trivial) (fun _ _ _ => rfl)
  (fun id o ho _ => bodyIds_mono (q := fun _ => true) (fun _ _ => rfl) o (by cases o <;> first | rfl | exact idsL_true _))
  (fun id hid hTf => by rw [maskF_get, Nat.zero_add, List.getElem?_eq_getElem hid, hTf]; rfl)
 have e1 : ovl (inL T) 0 st' (maskF (inL T) 0 st') = st' := ovl_mask
 have e2 : ovl (inL ([] : List Nat)) 0 st' st = st' := ovl_nil hl
 have hv := hv.chg m1 (by rw [e1, maskF_len]; exact Nat.le_refl _) (fun _ => rfl)
 rw [e1] at r1 k1 hv
 exact hK v w' _ (by rw [e2]; exact hv) (by rw [e2]; exact r1) (by rw [e2]; exact k1.weaken fun _ _ => rfl)

theorem keepF_nil : ∀ fr : Fr, keepF (fun id => !inL [] id) fr = fr
 | [] => rfl
 | (d, av) :: fr => by
  have h : idsA (fun id => !inL [] id) av = true := idsA_mono (q := fun _ => true) (fun _ _ => rfl) av (idsA_true av)
  simp only [keepF, h, cond_true, keepF_nil fr]

def gqOk (ops : Array Oper) (X : List Nat) (o : Oper) (fr : Fr) (av : AV) : Bool := allLksX ops X o fr (tchQ ops X o fr) && idsA (fun i => inL (tchQ ops X o fr) (i + 1000) || !inL X i) av

theorem GK.yd {o : Oper} {tw : List (List Nat × List Nat)} {R : Fr → St → Prop} {fr' : Fr} {av : AV} (hp : (∀ d, o.dst = some d → d < n) ∧ putL o.dst av fr = fr') (hc : gqOk ops X o fr av = true)
  (h : (guardOk ops o (looksR ops o fr) = some true ∧ Yd P n (maskF (inL (tchQ ops X o fr)) 0 st) o (looksR ops o fr) av) ∨ (guardOk ops o (looksR ops o fr) = some false ∧ av = .tp []))
  (k : GK P n X ops l (tw ++ [(tchQ ops X o fr, [])]) R fr' st) : GK P n X ops (o :: l) tw R fr st := by
 unfold gqOk at hc
 rw [Bool.and_eq_true] at hc
 refine GK.of (tw1 := (tchQ ops X o fr, [])) (fun h2 => GX.cons (s := ⟨av, tchQ ops X o fr, [], [], st⟩) ⟨hp.1, rfl, fun _ _ => rfl, fun id h => by simp [inL] at h, fun id h => by simp [inL] at h, allLksX_get hc.1, hc.2, fun x b h => by simp [inL] at h, ?_⟩ (by
  show GX P n ops X l _ (putL o.dst av (keepF (fun id => !inL [] id) fr)) st _ _
  rw [keepF_nil, hp.2]; exact h2)) k
 rcases h with ⟨hg, h⟩ | ⟨hg, rfl⟩
 ·exact .inl ⟨hg, h.aside⟩
 ·exact .inr ⟨hg, rfl, rfl, rfl⟩

def fstD : List Nat → St → Option Nat
 | [], _ => none
 | x :: X, st => (match st[x]? with
  | some .dead => some x
  | _ => fstD X st)

theorem evS_W {W : List Nat} {hs : HS} {fr' : Fr} {T : List Nat} {st' : St} {ob : List Prop} (h : evS P n ops X W l fr st hs = some (fr', T, st', ob)) (hl : st.length ≤ 1000) : ovl (inL W) 0 st st' = st' := by
 unfold evS at h
 split at h
 ·rename_i o ho
  split at h
  ·split at h
   ·rename_i out hev
    cases hc : sOk n ops X W o fr st ((W ++ pse X (tchOf ops o fr ++ boxRefs W st))) out with
    | false => rw [hc] at h; cases h
    | true =>
     rw [hc] at h
     simp only [cond_true, Option.some.injEq, Prod.mk.injEq] at h
     obtain ⟨_, _, rfl, _⟩ := h
     unfold sOk at hc
     simp only [Bool.and_eq_true] at hc
     have hlen := Nat.eq_of_beq_eq_true hc.1.1.2
     generalize hT : W ++ pse X (tchOf ops o fr ++ boxRefs W st) = T at *
     have z : (ovl (inL T) 0 st out.st).length = st.length := by rw [ovl_len _ _ _ (by omega)]; exact hlen
     refine st_ext (by rw [ovl_len _ _ _ (by omega)]) (fun id hid => ?_)
     rw [ovl_len _ _ _ (by omega), z] at hid
     rw [ovl_get _ _ _ _ (by omega), Nat.zero_add]
     by_cases hw : id < st.length ∧ inL W id = false
     ·have hq : inL T id = false := by
       rw [← hT, inL_app, hw.2, Bool.false_or]
       exact inL_add (by omega)
      have y : (ovl (inL T) 0 st out.st)[id]? = if id < st.length ∧ inL T id = false then st[id]? else out.st[id]? := by rw [ovl_get _ _ _ _ (by omega), Nat.zero_add]
      rw [if_pos hw, y, if_pos ⟨hw.1, hq⟩]
     ·rw [if_neg hw]
   ·cases h
  ·cases h
 ·cases h

def gW (P : Program) (n : Nat) (an X : List Nat) (ops : Array Oper) (l : List Oper) (fr : Fr) (st : St) : Option (Fr × List Nat × List Nat × St) :=
 match hdO l with
 | some o => (match o.op with
  | .alloc .. => (match fstD X st with
   | some id => (match evN P n ops X (isMu an o) id l fr st [] with
    | some (fr', T, st', []) => bif qOk st T then some (fr', extT X T, T ++ [id + 1000], st') else none
    | _ => none)
   | none => none)
  | .store _ a _ => (match rv (looksR ops o fr) a with
   | .one (.pt id _ _ _) => (match st[id]? with
    | some (.box _) => (match evS P n ops X [id] l fr st [] with
     | some (fr', T, st', []) => bif Nat.ble st.length 1000 then some (fr', T, [id], st') else none
     | _ => none)
    | _ => none)
   | _ => none)
  | _ => none)
 | none => none

theorem GK.w {fr' : Fr} {T W : List Nat} {st' : St} {tw : List (List Nat × List Nat)} {R : Fr → St → Prop} (h : gW P n an X ops l fr st = some (fr', T, W, st')) (k : GK P n X ops (l.drop 1) (tw ++ [(T, W)]) R fr' st') : GK P n X ops l tw R fr st := by
 refine GK.of (tw1 := (T, W)) (fun h2 => ?_) k
 unfold gW at h
 split at h
 ·rename_i o ho
  split at h
  ·split at h
   ·rename_i id hid
    split at h
    ·rename_i he
     cases hq : qOk st _ with
     | false => rw [hq] at h; cases h
     | true =>
      rw [hq] at h
      simp only [cond_true, Option.some.injEq, Prod.mk.injEq] at h
      obtain ⟨rfl, rfl, rfl, rfl⟩ := h
      exact GX.new _ id [] _ _ _ [] he trivial hq h2
    ·cases h
   ·cases h
  ·split at h
   ·split at h
    ·split at h
     ·rename_i he
      cases hq : Nat.ble st.length 1000 with
      | false => rw [hq] at h; cases h
      | true =>
       rw [hq] at h
       simp only [cond_true, Option.some.injEq, Prod.mk.injEq] at h
       obtain ⟨rfl, rfl, rfl, rfl⟩ := h
       exact GX.sto _ [] _ _ _ [] he trivial (evS_W he (Nat.le_of_ble_eq_true hq)) h2
     ·cases h
    ·cases h
   ·cases h
  ·cases h
 ·cases h
end

/-! ### what is still to be done -/
inductive It where
 | c (x : Code)
 | o (ops : Array Oper) (l : List Oper)
 | d (ops : Array Oper) (l : List Oper)
 | b (id : Nat)
 | s
 | r (x : Code) (j : Nat)
 | g (X : List Nat) (ops : Array Oper) (l : List Oper) (tw : List (List Nat × List Nat))

structure SS where
 ks : List It
 fr : Fr
 st : St
 kn : List Nat

section
variable (P : Program) (n n0 : Nat) (loose : List Nat)

def scopeQ (Q : QT) : QT
 | .goto _, _, _ => False
 | e, fr, st => Q e fr st

theorem XW.scope {c x : Code} {Q : QT} {fr : Fr} {st : St} (he : c = .scope x) (h : XW P n n0 loose x (scopeQ Q) fr st) : XW P n n0 loose c Q fr st := by
 subst he
 intro ι w a hR hF
 refine Go.wp_scope_straight (Go.wp_mono (h ι w a hR hF) ?_)
 rintro e a' w' ⟨ι', fr', st', h1, h2⟩
 cases e with
 | goto l => exact h1.elim
 | _ => exact ⟨ι', fr', st', h1, h2⟩

def QK : List It → QT → QT
 | [], Q => Q
 | .s :: ks, Q => scopeQ (QK ks Q)
 | .b id :: ks, Q => blockQ id (QK ks Q)
 | .c x :: ks, Q => thenQ (XW P n n0 loose x (QK ks Q)) (QK ks Q)
 | .o ops l :: ks, Q => thenQ (XO P n n0 loose ops l (QK ks Q)) (QK ks Q)
 | .d ops l :: ks, Q => thenQ (fun fr st => ∃ fr', DX P n st ops l fr fr' ∧ QK ks Q .normal fr' st) (QK ks Q)
 | .r x j :: ks, Q => thenQ (XR P n n0 loose x (QK ks Q) j) (QK ks Q)
 | .g X ops l tw :: ks, Q => thenQ (GK P n X ops l tw (QK ks Q .normal)) (QK ks Q)

def XK (Q : QT) (s : SS) : Prop := QK P n n0 loose s.ks Q .normal s.fr s.st

def unw (id : Nat) : List It → Option (List It)
 | [] => none
 | .b i :: ks => bif Nat.beq i id then some ks else unw id ks
 | _ :: ks => unw id ks

variable {P n n0 loose}

theorem beq_false {a b : Nat} (h : a ≠ b) : Nat.beq a b = false := by
 cases hq : Nat.beq a b with
 | false => rfl
 | true => exact absurd (Nat.eq_of_beq_eq_true hq) h

theorem QK_unw {id : Nat} {Q : QT} {fr : Fr} {st : St} : ∀ {ks ks' : List It}, unw id ks = some ks' → QK P n n0 loose ks' Q .normal fr st → QK P n n0 loose ks Q (.exit id) fr st
 | [], _, h, _ => by simp [unw] at h
 | .b i :: ks, ks', h, hq => by
  simp only [unw] at h
  simp only [QK, blockQ]
  cases hb : Nat.beq i id with
  | true =>
   have := Nat.eq_of_beq_eq_true hb
   subst this
   simp only [hb, cond_true, Option.some.injEq] at h
   subst h
   simpa using hq
  | false =>
   simp only [hb, cond_false] at h
   have : Nat.beq id i = false := beq_false (fun e => by subst e; simp at hb)
   simp only [this, cond_false]
   exact QK_unw h hq
 | .s :: ks, ks', h, hq => QK_unw (ks := ks) (by simpa [unw] using h) hq
 | .c x :: ks, ks', h, hq => QK_unw (ks := ks) (by simpa [unw] using h) hq
 | .o ops l :: ks, ks', h, hq => QK_unw (ks := ks) (by simpa [unw] using h) hq
 | .d ops l :: ks, ks', h, hq => QK_unw (ks := ks) (by simpa [unw] using h) hq
 | .r _ _ :: ks, ks', h, hq => QK_unw (ks := ks) (by simpa [unw] using h) hq
 | .g _ _ _ _ :: ks, ks', h, hq => QK_unw (ks := ks) (by simpa [unw] using h) hq

theorem QK_unw0 {id : Nat} {Q : QT} {fr : Fr} {st : St} : ∀ {ks : List It}, unw id ks = none → Q (.exit id) fr st → QK P n n0 loose ks Q (.exit id) fr st
 | [], h, hq => hq
 | .b i :: ks, h, hq => by
  simp only [unw] at h
  simp only [QK, blockQ]
  cases hb : Nat.beq i id with
  | true => simp [hb] at h
  | false =>
   simp only [hb, cond_false] at h
   have : Nat.beq id i = false := beq_false (fun e => by subst e; simp at hb)
   simp only [this, cond_false]
   exact QK_unw0 h hq
 | .s :: ks, h, hq => QK_unw0 (ks := ks) (by simpa [unw] using h) hq
 | .c x :: ks, h, hq => QK_unw0 (ks := ks) (by simpa [unw] using h) hq
 | .o ops l :: ks, h, hq => QK_unw0 (ks := ks) (by simpa [unw] using h) hq
 | .d ops l :: ks, h, hq => QK_unw0 (ks := ks) (by simpa [unw] using h) hq
 | .r _ _ :: ks, h, hq => QK_unw0 (ks := ks) (by simpa [unw] using h) hq
 | .g _ _ _ _ :: ks, h, hq => QK_unw0 (ks := ks) (by simpa [unw] using h) hq

theorem QK_ret {Q : QT} {fr : Fr} {st : St} : ∀ {ks : List It}, Q .ret fr st → QK P n n0 loose ks Q .ret fr st
 | [], hq => hq
 | .b i :: ks, hq => QK_ret (ks := ks) hq
 | .s :: ks, hq => QK_ret (ks := ks) hq
 | .c x :: ks, hq => QK_ret (ks := ks) hq
 | .o ops l :: ks, hq => QK_ret (ks := ks) hq
 | .d ops l :: ks, hq => QK_ret (ks := ks) hq
 | .r _ _ :: ks, hq => QK_ret (ks := ks) hq
 | .g _ _ _ _ :: ks, hq => QK_ret (ks := ks) hq

/-! ### one operation -/

def knO (kn : List Nat) : Operand → Bool
 | .tmp t => kn.any (Nat.beq t)
 | _ => true

def stopOp (kn : List Nat) (o : Oper) (fr : Fr) (st : St) : Bool :=
 match o.op with
 | .pick c a b => bif knO kn c then false else (match rv fr a with
  | .one (.pv (.s (.bool _))) => (match rv fr b with
   | .one (.pv (.s (.bool _))) => false
   | _ => true)
  | _ => true)
 | .call ⟨.builtin .len, args, _⟩ => (match args.toList with
  | [x] => (match rv fr x with
   | .one (.pv (.ro _)) => true
   | _ => false)
  | _ => true)
 | .call ⟨.builtin .max, _, _⟩ => false
 | .call ⟨.builtin .min, _, _⟩ => false
 | .call _ => true
 | .makeSlice .. => true
 | .slice .. => true
 | .convert _ _ x => (match rv fr x with
  | .one (.pv (.s (.int _ _))) => false
  | _ => true)
 | .indexAddr _ x i => (match rv fr x with
  | .one (.pv (.rp ..)) => !(knO kn i)
  | .one (.pt ..) => !(knO kn i)
  | _ => true)
 | .index _ x i => (match rv fr x with
  | .ag _ => !(knO kn i)
  | _ => true)
 | .load _ a => (match rv fr a with
  | .one (.pv (.rp ..)) => false
  | .one (.pt id _ _ _) => (match st[id]? with
   | some (.box _) => false
   | _ => true)
  | _ => true)
 | .store _ a _ => (match rv fr a with
  | .one (.pt id _ _ _) => (match st[id]? with
   | some (.box _) => false
   | _ => true)
  | _ => true)
 | _ => false

def hsOf (o : Oper) (fr : Fr) : HS :=
 match o.op with
 | .load _ a => (match rv fr a with
  | .one (.pv (.rp [c] _ _)) => [c]
  | _ => [])
 | _ => []

def arrLen (P : Program) (t : TypeId) : Nat := match P.underlying t with
 | some (.array len _) => len
 | _ => 0

def obB (P : Program) (kn : List Nat) (o : Oper) (fr : Fr) : Bool :=
 match o.op with
 | .binOp op _ _ y _ => bif knO kn y then (match rv fr y with
  | .one (.pv (.s (.int _ b))) => (match op with
   | .shl => decide (0 ≤ b)
   | .shr => decide (0 ≤ b)
   | .quo => decide (b ≠ 0)
   | .rem => decide (b ≠ 0)
   | _ => false)
  | _ => false) else false
 | .load _ a => (match rv fr a with
  | .one (.pv (.rp [_] 0 _)) => true
  | _ => false)
 | .indexAddr t x i => (match rv fr x with
  | .one (.pv (.rp ..)) => (match rv fr i with
   | .one (.pv (.s (.int _ n))) => decide (0 ≤ n) && decide (n < arrLen P t)
   | _ => false)
  | .one (.pt ..) => (match rv fr i with
   | .one (.pv (.s (.int _ n))) => decide (0 ≤ n) && decide (n < arrLen P t)
   | _ => false)
  | _ => false)
 | .index t x i => (match rv fr x with
  | .ag _ => (match rv fr i with
   | .one (.pv (.s (.int _ n))) => decide (0 ≤ n) && decide (n < arrLen P t)
   | _ => false)
  | _ => false)
 | _ => false

theorem bop_kn {op : BinOp} {t : TypeId} {a : Value} {k : IntKind} {b : Int} {v : Value} {ob : List Prop} (hb : (match op with
   | .shl => decide (0 ≤ b)
   | .shr => decide (0 ≤ b)
   | .quo => decide (b ≠ 0)
   | .rem => decide (b ≠ 0)
   | _ => false) = true) (h : bopT P op t a (.int k b) = some (v, ob)) : AllP ob := by
 have h : bop op a (.int k b) = some (v, ob) := by
  cases a <;> first | exact h | cases h
 unfold bop at h
 cases a <;> simp only at h <;> try (cases h; done)
 rename_i k1 a1 _
 cases op
 case shl => simp only [decide_eq_true_eq] at hb; simp only [Option.some.injEq, Prod.mk.injEq] at h; obtain ⟨_, rfl⟩ := h; exact ⟨hb, trivial⟩
 case shr => simp only [decide_eq_true_eq] at hb; simp only [Option.some.injEq, Prod.mk.injEq] at h; obtain ⟨_, rfl⟩ := h; exact ⟨hb, trivial⟩
 case quo =>
  simp only [decide_eq_true_eq] at hb
  cases hk : decide (k1 = k) <;> simp only [hk, cond_true, cond_false] at h
  ·cases h
  ·simp only [Option.some.injEq, Prod.mk.injEq] at h; obtain ⟨_, rfl⟩ := h; exact ⟨hb, trivial⟩
 case rem =>
  simp only [decide_eq_true_eq] at hb
  cases hk : decide (k1 = k) <;> simp only [hk, cond_true, cond_false] at h
  ·cases h
  ·simp only [Option.some.injEq, Prod.mk.injEq] at h; obtain ⟨_, rfl⟩ := h; exact ⟨hb, trivial⟩
 all_goals (cases hb; done)

theorem obB_ok {kn : List Nat} {o : Oper} {fr : Fr} {st : St} {mu : Bool} {out : Out} (hb : obB P kn o fr = true) (h : ev P mu o fr st (hsOf o fr) = some out) : AllP out.ob := by
 unfold obB at hb
 unfold ev at h
 split at hb
 ·rename_i op tt x y _ ho
  simp only [ho] at h
  cases hk : knO kn y with
  | false => simp [hk] at hb
  | true =>
   simp only [hk, cond_true] at hb
   split at hb
   ·rename_i k b hy
    rw [hy] at h
    split at h
    ·rename_i a b' e1 e2
     simp only [AV.one.injEq, CV.pv.injEq, PV.s.injEq] at e2
     subst e2
     split at h
     ·rename_i v ob hbo
      simp only [Option.some.injEq] at h
      subst h
      exact bop_kn hb hbo
     ·simp only [Option.map_eq_some_iff] at h
      obtain ⟨_, _, rfl⟩ := h
      exact trivial
    ·rename_i e2; cases e2
    ·rename_i e2; cases e2
    ·cases h
   ·cases hb
 ·rename_i t a ho
  simp only [ho, hsOf] at h
  split at hb
  ·rename_i c off hr
   simp only [hr] at h
   unfold ldAt at h
   split at h
   ·simp only [Option.map_eq_some_iff] at h
    obtain ⟨av, _, rfl⟩ := h
    exact ⟨rfl, trivial⟩
   ·cases h
  ·cases hb
 ·rename_i t x i ho
  simp only [ho] at h
  split at hb
  ·rename_i e1
   split at hb
   ·rename_i e2
    simp only [e1, e2] at h
    simp only [Bool.and_eq_true, decide_eq_true_eq] at hb
    unfold iaAt at h
    unfold arrLen at hb
    split at h
    ·rename_i q1 q2
     split at q2
     ·rename_i hu
      rw [hu] at hb
      split at q2
      ·simp only [Option.some.injEq, Prod.mk.injEq] at q2
       obtain ⟨rfl, rfl⟩ := q2
       simp only [Option.some.injEq] at h
       subst h
       exact ⟨hb, trivial⟩
      ·cases q2
     ·split at q2 <;> simp at q2
     ·cases q2
    ·cases h
   ·cases hb
  ·rename_i e1
   split at hb
   ·rename_i e2
    simp only [e1, e2] at h
    simp only [Bool.and_eq_true, decide_eq_true_eq] at hb
    unfold iaAt at h
    unfold arrLen at hb
    split at h
    ·rename_i q1 q2
     split at q2
     ·rename_i hu
      rw [hu] at hb
      split at q2
      ·simp only [Option.some.injEq, Prod.mk.injEq] at q2
       obtain ⟨rfl, rfl⟩ := q2
       simp only [Option.some.injEq] at h
       subst h
       exact ⟨hb, trivial⟩
      ·cases q2
     ·split at q2 <;> simp at q2
     ·cases q2
    ·cases h
   ·cases hb
  ·cases hb
 ·rename_i t x i ho
  simp only [ho] at h
  split at hb
  ·rename_i e1
   split at hb
   ·rename_i e2
    simp only [e1, e2] at h
    simp only [Bool.and_eq_true, decide_eq_true_eq] at hb
    unfold arrLen at hb
    split at h
    ·rename_i q1 q2 q3; cases q2
    ·rename_i q1 q2 q3
     rw [q1] at hb
     simp only [AV.one.injEq, CV.pv.injEq, PV.s.injEq, Value.int.injEq] at q3
     obtain ⟨_, rfl⟩ := q3
     split at h
     ·simp only [Option.map_eq_some_iff] at h
      obtain ⟨av, _, rfl⟩ := h
      exact ⟨hb, trivial⟩
     ·cases h
    ·cases h
   ·cases hb
  ·cases hb
 ·cases hb

def qOp (P : Program) (an kn : List Nat) (o : Oper) (fr : Fr) (st : St) : Option (AV × St) :=
 bif stopOp kn o fr st then none else
 match ev P (isMu an o) o fr st (hsOf o fr) with
 | some ⟨av, st', ob, _, none⟩ => (match ob with
  | [] => some (av, st')
  | _ => bif obB P kn o fr then some (av, st') else none)
 | _ => none

theorem qOp_ev {an kn : List Nat} {o : Oper} {fr : Fr} {st : St} {av : AV} {st' : St} (h : qOp P an kn o fr st = some (av, st')) :
  ∃ ob hs', ev P (isMu an o) o fr st (hsOf o fr) = some ⟨av, st', ob, hs', none⟩ ∧ AllP ob := by
 unfold qOp at h
 cases hs : stopOp kn o fr st with
 | true => simp [hs] at h
 | false =>
  simp only [hs, cond_false] at h
  split at h
  ·rename_i av1 st1 ob hs' he
   split at h
   ·simp only [Option.some.injEq, Prod.mk.injEq] at h
    obtain ⟨rfl, rfl⟩ := h
    exact ⟨_, _, he, trivial⟩
   ·cases hb : obB P kn o fr with
    | false => simp [hb] at h
    | true =>
     simp only [hb, cond_true, Option.some.injEq, Prod.mk.injEq] at h
     obtain ⟨rfl, rfl⟩ := h
     exact ⟨_, _, he, obB_ok hb he⟩
  ·cases h

def gOk (ops : Array Oper) (kn : List Nat) (o : Oper) (fr : Fr) : Option Bool :=
 match o.guard with
 | none => some true
 | some (j, want) =>
  match (ops[j]?).bind (·.dst) with
  | some d => (match lk fr d with
   | .one (.pv (.s (.bool b))) => bif kn.any (Nat.beq d) then some (b == want) else none
   | .tp [] => some false
   | _ => none)
  | none => none

theorem gOk_ok {ops : Array Oper} {kn : List Nat} {o : Oper} {fr : Fr} {g : Bool} (h : gOk ops kn o fr = some g) : guardOk ops o fr = some g := by
 unfold gOk at h
 unfold guardOk
 cases hg : o.guard with
 | none => simpa [hg] using h
 | some jw =>
  obtain ⟨j, want⟩ := jw
  simp only [hg] at h ⊢
  cases hd : (ops[j]?).bind (·.dst) with
  | none => simp [hd] at h
  | some d =>
   simp only [hd] at h ⊢
   split at h
   ·rename_i b hb
    cases hk : kn.any (Nat.beq d) with
    | false => simp [hk] at h
    | true => simpa [hk, hb] using h
   ·rename_i hb; simpa [hb] using h
   ·cases h

/-! ### the machine -/

def putK {β : Type} (n : Nat) (dst : Option Nat) (av : AV) (fr : Fr) (K : Fr → β) (E : β) : β := match dst with
 | none => K fr
 | some d => bif Nat.ble (d + 1) n then K ((d, av) :: fr) else E

def isDst (u : Option Nat) (o : Oper) : Bool := match u with
 | none => false
 | some t => (match o.dst with
  | some d => Nat.beq d t
  | none => false)

def isBS (an : List Nat) (o : Oper) : FM := match o.op with
 | .buildSlice .. => (match isMu an o with
  | true => .s
  | false => .a)
 | _ => .n

def knRes (kn : List Nat) (o : Oper) (fr : Fr) : Bool := match o.op with
 | .move x => knO kn x
 | .assign x => knO kn x
 | .pick c a b => bif knO kn c then (match rv fr c with
  | .one (.pv (.s (.bool t))) => (match t with
   | true => knO kn a
   | false => knO kn b)
  | _ => false) else false
 | .binOp _ _ x y _ => knO kn x && knO kn y
 | .unOp _ _ x => knO kn x
 | .convert _ _ x => knO kn x
 | _ => false

def rmvK {β : Type} (d : Nat) : List Nat → (List Nat → β) → β
 | [], K => K []
 | x :: l, K => rmvK d l fun l => bif Nat.beq x d then K l else K (x :: l)

def knK {β : Type} (b : Bool) (dst : Option Nat) (kn : List Nat) (K : List Nat → β) : β := match dst with
 | none => K kn
 | some d => rmvK d kn fun l => bif b then K (d :: l) else K l
theorem rmvK_ex {β : Type} {d : Nat} : ∀ (l : List Nat) (K : List Nat → β), ∃ l', rmvK d l K = K l'
 | [], K => ⟨[], rfl⟩
 | x :: l, K => by
  obtain ⟨l', h⟩ := rmvK_ex (d := d) l (fun l => bif Nat.beq x d then K l else K (x :: l))
  unfold rmvK
  rw [h]
  cases Nat.beq x d
  ·exact ⟨_, rfl⟩
  ·exact ⟨_, rfl⟩
theorem knK_ex {β : Type} (b : Bool) (dst : Option Nat) (kn : List Nat) (K : List Nat → β) : ∃ l, knK b dst kn K = K l := by
 unfold knK
 cases dst with
 | none => exact ⟨_, rfl⟩
 | some d =>
  obtain ⟨l', h⟩ := rmvK_ex (d := d) kn (fun l => bif b then K (d :: l) else K l)
  simp only [h]
  cases b
  ·exact ⟨_, rfl⟩
  ·exact ⟨_, rfl⟩

def stp {β : Type} (P : Program) (n : Nat) (an : List Nat) (u : Option Nat) (s : SS) (K E : SS → β) : β :=
 match s with
 | ⟨ks, fr, st, kn⟩ => match ks with
  | [] => E s
  | .b _ :: k => K ⟨k, fr, st, kn⟩
  | .s :: k => K ⟨k, fr, st, kn⟩
  | .c x :: k => (match x with
   | .scope a => K ⟨.c a :: .s :: k, fr, st, kn⟩
   | .skip => K ⟨k, fr, st, kn⟩
   | .seq a b => K ⟨.c a :: .c b :: k, fr, st, kn⟩
   | .block id a => K ⟨.c a :: .b id :: k, fr, st, kn⟩
   | .region _ ops false => K ⟨.o ops ops.toList :: k, fr, st, kn⟩
   | .cond o a b => (match knO kn o with
    | true => (match rv fr o with
     | .one (.pv (.s (.bool t))) => (match t with
      | true => K ⟨.c a :: k, fr, st, kn⟩
      | false => K ⟨.c b :: k, fr, st, kn⟩)
     | _ => E s)
    | false => E s)
   | .exit id => (match unw id k with
    | some k' => K ⟨k', fr, st, kn⟩
    | none => E s)
   | _ => E s)
  | .r x j :: k => (match j with
   | j + 1 => K ⟨.c x :: .r x j :: k, fr, st, kn⟩
   | 0 => E s)
  | .o ops l :: k => (match l with
   | [] => K ⟨k, fr, st, kn⟩
   | o :: l' => bif isDst u o then E s else (match gOk ops kn o fr with
    | some true => (match qOp P an kn o fr st with
     | some (av, st') => fX (isBS an o) av st' fun av st' => putK n o.dst av fr (fun fr' => knK (knRes kn o fr) o.dst kn fun kn' => K ⟨.o ops l' :: k, fr', st', kn'⟩) (E s)
     | none => E s)
    | some false => putK n o.dst (.tp []) fr (fun fr' => knK false o.dst kn fun kn' => K ⟨.o ops l' :: k, fr', st, kn'⟩) (E s)
    | none => E s))
  | .d ops l :: k => (match l with
   | [] => K ⟨k, fr, st, kn⟩
   | o :: l' => bif isDst u o then E s else (match gOk ops kn o (looksR ops o fr) with
    | some true => bif quietOp o.op then (match qOp P [] kn o (looksR ops o fr) st with
     | some (av, _) => fX (isBS [] o) av [] fun av _ => putK n o.dst av fr (fun fr' => knK (knRes kn o fr) o.dst kn fun kn' => K ⟨.d ops l' :: k, fr', st, kn'⟩) (E s)
     | none => E s) else E s
    | some false => putK n o.dst (.tp []) fr (fun fr' => knK false o.dst kn fun kn' => K ⟨.d ops l' :: k, fr', st, kn'⟩) (E s)
    | none => E s))
  | .g X ops l tw :: k => (match l with
   | [] => bif twOk ops X tw then K ⟨k, fr, st, kn⟩ else E s
   | o :: l' => bif isDst u o then E s else (match gOk ops kn o (looksR ops o fr) with
    | some true => bif quietOp o.op && !isMu an o then (match qOp P [] kn o (looksR ops o fr) (maskF (inL (tchQ ops X o fr)) 0 st) with
     | some (av, _) => fX (isBS [] o) av [] fun av _ => bif gqOk ops X o fr av then putK n o.dst av fr (fun fr' => knK (knRes kn o fr) o.dst kn fun kn' => K ⟨.g X ops l' (tw ++ [(tchQ ops X o fr, [])]) :: k, fr', st, kn'⟩) (E s) else E s
     | none => E s) else (match gW P n an X ops (o :: l') fr st with
      | some (fr', T, W, st') => fF fr' fun fr' => fS st' fun st' => knK false o.dst kn fun kn' => K ⟨.g X ops l' (tw ++ [(T, W)]) :: k, fr', st', kn'⟩
      | none => E s)
    | some false => bif gqOk ops X o fr (.tp []) then putK n o.dst (.tp []) fr (fun fr' => knK false o.dst kn fun kn' => K ⟨.g X ops l' (tw ++ [(tchQ ops X o fr, [])]) :: k, fr', st, kn'⟩) (E s) else E s
    | none => E s))

theorem putK_or {β : Type} (dst : Option Nat) (av : AV) (fr : Fr) (K : Fr → β) (E : β) : (∃ fr', putF n dst av fr = some fr' ∧ putK n dst av fr K E = K fr') ∨ putK n dst av fr K E = E := by
 cases dst with
 | none => exact .inl ⟨fr, rfl, rfl⟩
 | some d =>
  unfold putK putF
  cases h : Nat.ble (d + 1) n with
  | true => exact .inl ⟨(d, av) :: fr, by simp [h], by simp [h]⟩
  | false => exact .inr (by simp [h])

theorem putF_putL {dst : Option Nat} {av : AV} {fr fr' : Fr} (h : putF n dst av fr = some fr') : (∀ d, dst = some d → d < n) ∧ putL dst av fr = fr' := by
 cases dst with
 | none => simp only [putF, Option.some.injEq] at h; exact ⟨(fun d hd => nomatch hd), h⟩
 | some d =>
  simp only [putF] at h
  cases hb : Nat.ble (d + 1) n with
  | false => simp [hb] at h
  | true =>
   simp only [hb, cond_true, Option.some.injEq] at h
   exact ⟨(fun d' hd => Option.some.inj hd ▸ Nat.le_of_ble_eq_true hb), h⟩

theorem DX.cons {ops : Array Oper} {o : Oper} {l : List Oper} {fr fr' fr2 : Fr} {st : St} {a : AV} (hp : putF n o.dst a fr = some fr')
  (h : (guardOk ops o (looksR ops o fr) = some true ∧ Yd P n st o (looksR ops o fr) a) ∨ (guardOk ops o (looksR ops o fr) = some false ∧ a = .tp []))
  (k : DX P n st ops l fr' fr2) : DX P n st ops (o :: l) fr fr2 := by
 obtain ⟨h1, h2⟩ := putF_putL hp
 subst h2
 obtain ⟨asv, k1, k2⟩ := k
 exact ⟨a :: asv, ⟨⟨h1, h⟩, k1⟩, k2⟩

theorem evOps_one {an : List Nat} {ops : Array Oper} {o : Oper} {fr fr' : Fr} {st st' : St} {hs hs' : HS} {av : AV} {ob : List Prop} (hg : guardOk ops o fr = some true)
  (h : ev P (isMu an o) o fr st hs = some ⟨av, st', ob, hs', none⟩) (hp : putF n o.dst av fr = some fr') : evOps P n n0 loose an ops [o] fr st hs = some ⟨.normal, fr', st', hs', ob ++ []⟩ := by
 simp only [evOps, hg, h, mvOk, mvF, hp, cond_true]

theorem XO.op {an : List Nat} {ops : Array Oper} {o : Oper} {l : List Oper} {fr fr' : Fr} {st st' : St} {hs hs' : HS} {av : AV} {ob : List Prop} {Q : QT} (hg : guardOk ops o fr = some true)
  (h : ev P (isMu an o) o fr st hs = some ⟨av, st', ob, hs', none⟩) (hob : AllP ob) (hp : putF n o.dst av fr = some fr') (k : XO P n n0 loose ops l Q fr' st') : XO P n n0 loose ops (o :: l) Q fr st :=
 XO.run (l := [o]) (evOps_one hg h hp) (by rw [List.append_nil]; exact hob) k

theorem XO.opN {ops : Array Oper} {o : Oper} {l : List Oper} {fr fr' : Fr} {st : St} {Q : QT} (hg : guardOk ops o fr = some false)
  (hp : putF n o.dst (.tp []) fr = some fr') (k : XO P n n0 loose ops l Q fr' st) : XO P n n0 loose ops (o :: l) Q fr st := by
 have : evOps P n n0 loose [] ops [o] fr st [] = some ⟨.normal, fr', st, [], []⟩ := by simp only [evOps, hg, hp]
 exact XO.run (l := [o]) this trivial k

theorem stp_sound {an : List Nat} {u : Option Nat} {Q : QT} {β : Type} (s : SS) (K E : SS → β) : ∃ s', (stp P n an u s K E = K s' ∨ stp P n an u s K E = E s') ∧ (XK P n n0 loose Q s' → XK P n n0 loose Q s) := by
 obtain ⟨ks, fr, st, kn⟩ := s
 have stay : ∃ s', (E ⟨ks, fr, st, kn⟩ = K s' ∨ E ⟨ks, fr, st, kn⟩ = E s') ∧ (XK P n n0 loose Q s' → XK P n n0 loose Q ⟨ks, fr, st, kn⟩) := ⟨_, .inr rfl, id⟩
 have go : ∀ s', (XK P n n0 loose Q s' → XK P n n0 loose Q ⟨ks, fr, st, kn⟩) → ∃ s2, (K s' = K s2 ∨ K s' = E s2) ∧ (XK P n n0 loose Q s2 → XK P n n0 loose Q ⟨ks, fr, st, kn⟩) := fun s' h => ⟨s', .inl rfl, h⟩
 unfold stp
 match ks, stay, go with
 | [], stay, go => exact stay
 | .b id :: k, stay, go => exact go _ (fun h => h)
 | .s :: k, stay, go => exact go _ (fun h => h)
 | .r x j :: k, stay, go =>
  cases j with
  | zero => exact stay
  | succ j => exact go _ (fun h => h)
 | .c x :: k, stay, go =>
  cases x with
  | skip => exact go _ (fun h => XW.skip rfl h)
  | seq a b =>
   refine go _ (fun h => XW.seq (x := a) (y := b) rfl fun K hK => ?_)
   refine XW.mono (show XW P n n0 loose a (thenQ (XW P n n0 loose b (QK P n n0 loose k Q)) (QK P n n0 loose k Q)) fr st from h) ?_
   intro e f s hq
   cases e with
   | normal => exact hK _ _ hq
   | _ => exact hq
  | block id a => exact go _ (fun h => XW.block rfl h)
  | scope a => exact go _ (fun h => XW.scope _ _ _ _ rfl h)
  | region id ops d =>
   cases d with
   | true => exact stay
   | false => exact go _ (fun h => XO.region rfl h)
  | cond o a b =>
   simp only
   split
   ·split
    ·rename_i t hx
     cases t with
     | true => exact go _ (fun h => XW.cond (n := n) rfl hx (fun _ => h) (fun h => nomatch h))
     | false => exact go _ (fun h => XW.cond (n := n) rfl hx (fun h => nomatch h) (fun _ => h))
    ·exact stay
   ·exact stay
  | exit id =>
   simp only
   split
   ·rename_i k' hk
    exact go _ (fun h => XW.exit rfl (QK_unw hk h))
   ·exact stay
  | _ => exact stay
 | .o ops l :: k, stay, go =>
  cases l with
  | nil => exact go _ (fun h => XO.nil h)
  | cons o l' =>
   simp only
   cases hu : isDst u o with
   | true => exact stay
   | false =>
    simp only [cond_false]
    split
    ·rename_i hg
     have hg := gOk_ok hg
     split
     ·rename_i av st' hq
      obtain ⟨ob, hs', he, hob⟩ := qOp_ev hq
      rw [fX_eq]
      rcases putK_or (n := n) o.dst av fr (fun fr' => knK (knRes kn o fr) o.dst kn fun kn' => K ⟨.o ops l' :: k, fr', st', kn'⟩) (E ⟨.o ops (o :: l') :: k, fr, st, kn⟩) with ⟨fr', hp, e⟩ | e
      ·rw [e]
       obtain ⟨kn', ek⟩ := knK_ex (knRes kn o fr) o.dst kn fun kn' => K ⟨.o ops l' :: k, fr', st', kn'⟩
       rw [ek]; exact go _ (fun h => XO.op hg he hob hp h)
      ·rw [e]; exact stay
     ·exact stay
    ·rename_i hg
     have hg := gOk_ok hg
     rcases putK_or (n := n) o.dst (.tp []) fr (fun fr' => knK false o.dst kn fun kn' => K ⟨.o ops l' :: k, fr', st, kn'⟩) (E ⟨.o ops (o :: l') :: k, fr, st, kn⟩) with ⟨fr', hp, e⟩ | e
     ·rw [e]
      obtain ⟨kn', ek⟩ := knK_ex false o.dst kn fun kn' => K ⟨.o ops l' :: k, fr', st, kn'⟩
      rw [ek]; exact go _ (fun h => XO.opN hg hp h)
     ·rw [e]; exact stay
    ·exact stay
 | .d ops l :: k, stay, go =>
  cases l with
  | nil => exact go _ (fun h => ⟨fr, DX.done rfl, h⟩)
  | cons o l' =>
   simp only
   cases hu : isDst u o with
   | true => exact stay
   | false =>
    simp only [cond_false]
    split
    ·rename_i hg
     have hg := gOk_ok hg
     cases hqq : quietOp o.op with
     | false => exact stay
     | true =>
      simp only [cond_true]
      split
      ·rename_i av st' hq
       obtain ⟨ob, hs', he, hob⟩ := qOp_ev hq
       have hmu : isMu [] o = false := by unfold isMu; split <;> rfl
       rw [hmu] at he
       rw [fX_eq]
       rcases putK_or (n := n) o.dst av fr (fun fr' => knK (knRes kn o fr) o.dst kn fun kn' => K ⟨.d ops l' :: k, fr', st, kn'⟩) (E ⟨.d ops (o :: l') :: k, fr, st, kn⟩) with ⟨fr', hp, e⟩ | e
       ·rw [e]
        obtain ⟨kn', ek⟩ := knK_ex (knRes kn o fr) o.dst kn fun kn' => K ⟨.d ops l' :: k, fr', st, kn'⟩
        rw [ek]
        exact go _ (fun ⟨fr2, h1, h2⟩ => ⟨fr2, DX.cons hp (.inl ⟨hg, Yd.ev hqq he hob⟩) h1, h2⟩)
       ·rw [e]; exact stay
      ·exact stay
    ·rename_i hg
     have hg := gOk_ok hg
     rcases putK_or (n := n) o.dst (.tp []) fr (fun fr' => knK false o.dst kn fun kn' => K ⟨.d ops l' :: k, fr', st, kn'⟩) (E ⟨.d ops (o :: l') :: k, fr, st, kn⟩) with ⟨fr', hp, e⟩ | e
     ·rw [e]
      obtain ⟨kn', ek⟩ := knK_ex false o.dst kn fun kn' => K ⟨.d ops l' :: k, fr', st, kn'⟩
      rw [ek]
      exact go _ (fun ⟨fr2, h1, h2⟩ => ⟨fr2, DX.cons hp (.inr ⟨hg, rfl⟩) h1, h2⟩)
     ·rw [e]; exact stay
    ·exact stay
 | .g X ops l tw :: k, stay, go =>
  cases l with
  | nil =>
   simp only
   cases ht : twOk ops X tw with
   | false => exact stay
   | true => exact go _ (fun h => GK.nil ht h)
  | cons o l' =>
   simp only
   cases hu : isDst u o with
   | true => exact stay
   | false =>
    simp only [cond_false]
    split
    ·rename_i hg
     have hg := gOk_ok hg
     cases hqq : (quietOp o.op && !isMu an o) with
     | false =>
      simp only [cond_false]
      split
      ·rename_i fr' T W st' hw
       simp only [fF_eq, fS_eq]
       obtain ⟨kn', ek⟩ := knK_ex false o.dst kn fun kn' => K ⟨.g X ops l' (tw ++ [(T, W)]) :: k, fr', st', kn'⟩
       rw [ek]
       exact go _ (fun h => GK.w hw h)
      ·exact stay
     | true =>
      simp only [cond_true]
      rw [Bool.and_eq_true] at hqq
      split
      ·rename_i av st' hq
       obtain ⟨ob, hs', he, hob⟩ := qOp_ev hq
       have hmu : isMu [] o = false := by unfold isMu; split <;> rfl
       rw [hmu] at he
       rw [fX_eq]
       cases hc : gqOk ops X o fr av with
       | false => exact stay
       | true =>
        simp only [cond_true]
        rcases putK_or (n := n) o.dst av fr (fun fr' => knK (knRes kn o fr) o.dst kn fun kn' => K ⟨.g X ops l' (tw ++ [(tchQ ops X o fr, [])]) :: k, fr', st, kn'⟩) (E ⟨.g X ops (o :: l') tw :: k, fr, st, kn⟩) with ⟨fr', hp, e⟩ | e
        ·rw [e]
         obtain ⟨kn', ek⟩ := knK_ex (knRes kn o fr) o.dst kn fun kn' => K ⟨.g X ops l' (tw ++ [(tchQ ops X o fr, [])]) :: k, fr', st, kn'⟩
         rw [ek]
         exact go _ (fun h => GK.yd (putF_putL hp) hc (.inl ⟨hg, Yd.ev hqq.1 he hob⟩) h)
        ·rw [e]; exact stay
      ·exact stay
    ·rename_i hg
     have hg := gOk_ok hg
     cases hc : gqOk ops X o fr (.tp []) with
     | false => exact stay
     | true =>
      simp only [cond_true]
      rcases putK_or (n := n) o.dst (.tp []) fr (fun fr' => knK false o.dst kn fun kn' => K ⟨.g X ops l' (tw ++ [(tchQ ops X o fr, [])]) :: k, fr', st, kn'⟩) (E ⟨.g X ops (o :: l') tw :: k, fr, st, kn⟩) with ⟨fr', hp, e⟩ | e
      ·rw [e]
       obtain ⟨kn', ek⟩ := knK_ex false o.dst kn fun kn' => K ⟨.g X ops l' (tw ++ [(tchQ ops X o fr, [])]) :: k, fr', st, kn'⟩
       rw [ek]
       exact go _ (fun h => GK.yd (putF_putL hp) hc (.inr ⟨hg, rfl⟩) h)
      ·rw [e]; exact stay
    ·exact stay

def runK {β : Type} (P : Program) (n : Nat) (an : List Nat) (u : Option Nat) : Nat → SS → (SS → β) → β
 | 0, s, E => E s
 | f + 1, s, E => stp P n an u s (fun s' => runK P n an u f s' E) E

theorem runK_sound {an : List Nat} {u : Option Nat} {Q : QT} {β : Type} : ∀ (f : Nat) (s : SS) (E : SS → β), ∃ s', runK P n an u f s E = E s' ∧ (XK P n n0 loose Q s' → XK P n n0 loose Q s)
 | 0, s, E => ⟨s, rfl, id⟩
 | f + 1, s, E => by
  simp only [runK]
  obtain ⟨s', h1, h2⟩ := stp_sound (n0 := n0) (loose := loose) (Q := Q) (P := P) (n := n) (an := an) (u := u) s (fun s' => runK P n an u f s' E) E
  rcases h1 with h1 | h1
  ·obtain ⟨s2, k1, k2⟩ := runK_sound f s' E
   exact ⟨s2, h1.trans k1, fun h => h2 (k2 h)⟩
  ·exact ⟨s', h1, h2⟩

def run (P : Program) (n : Nat) (an : List Nat) (s : SS) : SS := runK P n an none 4000 s id
def runU (P : Program) (n : Nat) (an : List Nat) (d : Nat) (s : SS) : SS := runK P n an (some d) 4000 s id

theorem run_sound {an : List Nat} {Q : QT} {s : SS} (h : XK P n n0 loose Q (run P n an s)) : XK P n n0 loose Q s := by
 obtain ⟨s', h1, h2⟩ := runK_sound (n0 := n0) (loose := loose) (Q := Q) (P := P) (n := n) (an := an) (u := none) 4000 s id
 unfold run at h
 rw [h1] at h
 exact h2 h
theorem runU_sound {an : List Nat} {d : Nat} {Q : QT} {s : SS} (h : XK P n n0 loose Q (runU P n an d s)) : XK P n n0 loose Q s := by
 obtain ⟨s', h1, h2⟩ := runK_sound (n0 := n0) (loose := loose) (Q := Q) (P := P) (n := n) (an := an) (u := some d) 4000 s id
 unfold runU at h
 rw [h1] at h
 exact h2 h
end
set_option linter.unusedVariables false
set_option linter.unusedSimpArgs false

theorem PRel.at1 {μ : Nat → Prop} {w : World} {v : Value} {els : List (List PV)} {i off : Nat} {c : List PV} (h : PRel μ w v (.rp els i off)) (hc : els[i]? = some c) : PRel μ w v (.rp [c] 0 off) := by
 cases h with
 | rp a sz _ _ _ vf hsz hb hcell hv =>
  have hm := List.mem_of_getElem? hc
  have hne : els ≠ [] := fun e => by subst e; simp at hc
  have e1 : a.add (i * sz + off) = (a.add (i * sz)).add (0 * sz + off) := by rw [add_add]; simp
  rw [e1]
  refine .rp (a.add (i * sz)) sz [c] 0 off (fun _ j => vf i j) (fun e he => by simp at he; subst he; exact hsz _ hm) (fun _ => by rw [add_block]; exact hb hne) ?_ ?_
  ·intro i' e j p h1 h2
   cases i' with
   | zero =>
    simp at h1; subst h1
    rw [add_add]
    have := hcell i c j p hc h2
    rw [show i * sz + (0 * sz + j) = i * sz + j by simp]
    exact this
   | succ i' => simp at h1
  ·intro i' e j p h1 h2
   cases i' with
   | zero => simp at h1; subst h1; exact hv i c j p hc h2
   | succ i' => simp at h1

section
variable {P : Program} {n n0 : Nat} {loose an : List Nat} {Q Q1 : QT} {α β : Type} {T x y : Option β} {r : β} {s : SS}

structure GG (P : Program) (n n0 : Nat) (loose an : List Nat) {β : Type} (r : β) (Q : QT) (T : Option β) (s : SS) : Prop where
 go : T = some r → XK P n n0 loose Q s
instance : CoeFun (GG P n n0 loose an r Q T s) (fun _ => T = some r → XK P n n0 loose Q s) := ⟨GG.go⟩

theorem Yd.le {st : St} {o : Oper} {f : Fr} {av av' : AV} (h : Yd P n st o f av) (hl : ∀ ι w v, AVRel ι w st v av → AVRel ι w st v av') : Yd P n st o f av' :=
 fun ι w a hR hF K Q hK => h ι w a hR hF K Q fun v w' ι' h1 h2 h3 => hK v w' ι' (hl _ _ _ h1) h2 h3

def hdOp (s : SS) : Option (Oper × Fr) :=
 match s.ks with
 | .o ops (o :: _) :: _ => (match gOk ops s.kn o s.fr with
  | some true => some (o, s.fr)
  | _ => none)
 | .d ops (o :: _) :: _ => (match gOk ops s.kn o (looksR ops o s.fr) with
  | some true => some (o, looksR ops o s.fr)
  | _ => none)
 | .g _ ops (o :: _) _ :: _ => (match gOk ops s.kn o (looksR ops o s.fr) with
  | some true => some (o, looksR ops o s.fr)
  | _ => none)
 | _ => none
def hdSt (s : SS) : St := match s.ks with
 | .g X ops (o :: _) _ :: _ => maskF (inL (tchQ ops X o s.fr)) 0 s.st
 | _ => s.st

def pvS (n : Nat) (av : AV) (s : SS) : SS :=
 match s with
 | ⟨.o ops (o :: l) :: k, fr, st, kn⟩ => fA av fun av => putK n o.dst av fr (fun fr' => knK false o.dst kn fun kn' => ⟨.o ops l :: k, fr', st, kn'⟩) s
 | ⟨.d ops (o :: l) :: k, fr, st, kn⟩ => fA av fun av => putK n o.dst av fr (fun fr' => knK false o.dst kn fun kn' => ⟨.d ops l :: k, fr', st, kn'⟩) s
 | ⟨.g X ops (o :: l) tw :: k, fr, st, kn⟩ => fA av fun av => bif gqOk ops X o fr av then putK n o.dst av fr (fun fr' => knK false o.dst kn fun kn' => ⟨.g X ops l (tw ++ [(tchQ ops X o fr, [])]) :: k, fr', st, kn'⟩) s else s
 | s => s

theorem XO.yd {ops : Array Oper} {o : Oper} {l : List Oper} {fr fr' : Fr} {st : St} {av : AV} (hg : guardOk ops o fr = some true) (h : Yd P n st o fr av) (hp : putF n o.dst av fr = some fr')
  (k : XO P n n0 loose ops l Q fr' st) : XO P n n0 loose ops (o :: l) Q fr st := by
 intro ι w a hR hF
 have hw := guard_sound hg hF
 refine wpList_step fun K hK => ?_
 rw [if_pos hw]
 refine h ι w a hR hF K _ fun v w' ι' hv hR' kk => ?_
 exact hK _ _ (wpList_post (fun e a w h => h.trans (kk.weaken (fun _ _ => trivial))) (k ι' w' _ hR' (putF_rel hp (hF.mono' kk) hv)))

theorem pv_sound {o : Oper} {f : Fr} {av : AV} (he : hdOp s = some (o, f)) (h : Yd P n (hdSt s) o f av) (k : XK P n n0 loose Q (pvS n av s)) : XK P n n0 loose Q s := by
 obtain ⟨ks, fr, st, kn⟩ := s
 match ks, he with
 | .o ops (o' :: l) :: ks, he =>
  simp only [hdOp] at he
  split at he
  ·rename_i hg
   have hg := gOk_ok hg
   simp only [Option.some.injEq, Prod.mk.injEq] at he
   obtain ⟨rfl, rfl⟩ := he
   simp only [pvS, fA_eq] at k
   rcases putK_or (n := n) o'.dst av fr (fun fr' => knK false o'.dst kn fun kn' => (⟨.o ops l :: ks, fr', st, kn'⟩ : SS)) ⟨.o ops (o' :: l) :: ks, fr, st, kn⟩ with ⟨fr', hp, e⟩ | e
   ·obtain ⟨kn', ek⟩ := knK_ex false o'.dst kn fun kn' => (⟨.o ops l :: ks, fr', st, kn'⟩ : SS)
    rw [e, ek] at k; exact XO.yd hg h hp k
   ·rw [e] at k; exact k
  ·cases he
 | .d ops (o' :: l) :: ks, he =>
  simp only [hdOp] at he
  split at he
  ·rename_i hg
   have hg := gOk_ok hg
   simp only [Option.some.injEq, Prod.mk.injEq] at he
   obtain ⟨rfl, rfl⟩ := he
   simp only [pvS, fA_eq] at k
   rcases putK_or (n := n) o'.dst av fr (fun fr' => knK false o'.dst kn fun kn' => (⟨.d ops l :: ks, fr', st, kn'⟩ : SS)) ⟨.d ops (o' :: l) :: ks, fr, st, kn⟩ with ⟨fr', hp, e⟩ | e
   ·obtain ⟨kn', ek⟩ := knK_ex false o'.dst kn fun kn' => (⟨.d ops l :: ks, fr', st, kn'⟩ : SS)
    rw [e, ek] at k
    obtain ⟨fr2, k1, k2⟩ := k
    exact ⟨fr2, DX.cons hp (.inl ⟨hg, h⟩) k1, k2⟩
   ·rw [e] at k; exact k
  ·cases he
 | .g X ops (o' :: l) tw :: ks, he =>
  simp only [hdOp] at he
  split at he
  ·rename_i hg
   have hg := gOk_ok hg
   simp only [Option.some.injEq, Prod.mk.injEq] at he
   obtain ⟨rfl, rfl⟩ := he
   simp only [pvS, fA_eq] at k
   cases hc : gqOk ops X o' fr av with
   | false => simp only [hc, cond_false] at k; exact k
   | true =>
    simp only [hc, cond_true] at k
    rcases putK_or (n := n) o'.dst av fr (fun fr' => knK false o'.dst kn fun kn' => (⟨.g X ops l (tw ++ [(tchQ ops X o' fr, [])]) :: ks, fr', st, kn'⟩ : SS)) ⟨.g X ops (o' :: l) tw :: ks, fr, st, kn⟩ with ⟨fr', hp, e⟩ | e
    ·obtain ⟨kn', ek⟩ := knK_ex false o'.dst kn fun kn' => (⟨.g X ops l (tw ++ [(tchQ ops X o' fr, [])]) :: ks, fr', st, kn'⟩ : SS)
     rw [e, ek] at k
     exact GK.yd (putF_putL hp) hc (.inl ⟨hg, h⟩) k
    ·rw [e] at k; exact k
  ·cases he

def topOk : List It → Bool
 | .c _ :: _ => true
 | .o _ _ :: _ => true
 | .b _ :: k => topOk k
 | .s :: k => topOk k
 | _ => false

theorem QK.sub {fr' : Fr} {st' : St} : ∀ {ks : List It} {fr : Fr} {st : St}, topOk ks = true → Sub n n0 loose fr st fr' st' → QK P n n0 loose ks Q .normal fr' st' → QK P n n0 loose ks Q .normal fr st
 | .c _ :: _, _, _, _, hs, h => XW.sub hs h
 | .o _ _ :: _, _, _, _, hs, h => XO.sub hs h
 | .b _ :: k, _, _, ht, hs, h => QK.sub (ks := k) (by simpa [topOk] using ht) hs h
 | .s :: k, _, _, ht, hs, h => QK.sub (ks := k) (by simpa [topOk] using ht) hs h
theorem XK.sub {fr' fr : Fr} {st' st : St} {ks : List It} {kn kn' : List Nat} (ht : topOk ks = true) (hs : Sub n n0 loose fr st fr' st') (h : XK P n n0 loose Q ⟨ks, fr', st', kn'⟩) : XK P n n0 loose Q ⟨ks, fr, st, kn⟩ := QK.sub ht hs h

/-! ### conditions -/

def setF (d : Nat) (av : AV) : Fr → Fr
 | [] => []
 | (t, a) :: f => bif Nat.beq t d then (t, av) :: f else (t, a) :: setF d av f
theorem setF_eq (d : Nat) : ∀ f : Fr, setF d (lk f d) f = f
 | [] => rfl
 | (t, a) :: f => by
  simp only [setF, lk]
  cases hb : Nat.beq t d with
  | true => rfl
  | false => simp only [cond_false]; rw [setF_eq d f]

def setFK {β : Type} (d : Nat) (av : AV) : Fr → (Fr → β) → β
 | [], K => K []
 | (t, a) :: f, K => bif Nat.beq t d then K ((t, av) :: f) else setFK d av f fun f => K ((t, a) :: f)
theorem setFK_eq {β : Type} (d : Nat) (av : AV) : ∀ (f : Fr) (K : Fr → β), setFK d av f K = K (setF d av f)
 | [], K => rfl
 | (t, a) :: f, K => by
  simp only [setFK, setF]
  cases Nat.beq t d with
  | true => rfl
  | false => simp only [cond_false]; exact setFK_eq d av f _

def pkSl (kn : List Nat) (o : Oper) : Option Nat := match o.op with
 | .pick (.tmp c) _ _ => bif kn.any (Nat.beq c) then none else some c
 | _ => none
def kSl (ops : Array Oper) (kn : List Nat) (o : Oper) : Option Nat := match o.guard with
 | some (j, _) => (match (ops[j]?).bind (·.dst) with
  | some d => bif kn.any (Nat.beq d) then pkSl kn o else some d
  | none => none)
 | none => pkSl kn o
def kHd (s : SS) : Option Nat := match s.ks with
 | .o ops (o :: _) :: _ => kSl ops s.kn o
 | .d ops (o :: _) :: _ => kSl ops s.kn o
 | .g _ ops (o :: _) _ :: _ => kSl ops s.kn o
 | _ => none

def bool? (a : AV) : Option Bool := match a with
 | .one (.pv (.s (.bool t))) => some t
 | _ => none
theorem bool?_eq {a : AV} {t : Bool} (h : bool? a = some t) : a = vb t := by
 unfold bool? at h
 split at h
 ·simp only [Option.some.injEq] at h; subst h; rfl
 ·cases h

def cdOf (s : SS) : Option Bool :=
 match s.ks with
 | .c (.cond o _ _) :: _ => bool? (rv s.fr o)
 | _ => (match kHd s with
  | some d => bool? (lk s.fr d)
  | none => none)

def brS (t : Bool) (s : SS) : SS :=
 match s with
 | ⟨ks, fr, st, kn⟩ => match ks with
  | .c (.cond o a b) :: k => (match t with
   | true => ⟨.c a :: k, fr, st, kn⟩
   | false => ⟨.c b :: k, fr, st, kn⟩)
  | ks => (match kHd ⟨ks, fr, st, kn⟩ with
   | some d => setFK d (vb t) fr fun fr => ⟨ks, fr, st, d :: kn⟩
   | none => ⟨ks, fr, st, kn⟩)

theorem brS_k {ks : List It} {fr : Fr} {st : St} {kn : List Nat} {d : Nat} {t : Bool} (hd : kHd ⟨ks, fr, st, kn⟩ = some d) : brS t ⟨ks, fr, st, kn⟩ = ⟨ks, setF d (vb t) fr, st, d :: kn⟩ := by
 cases ks with
 | nil => simp [kHd] at hd
 | cons x k =>
  cases x with
  | c x => simp [kHd] at hd
  | b => simp [kHd] at hd
  | s => simp [kHd] at hd
  | r => simp [kHd] at hd
  | o ops l => simp only [brS, hd, setFK_eq]
  | d ops l => simp only [brS, hd, setFK_eq]
  | g X ops l tw => simp only [brS, hd, setFK_eq]

theorem br_sound {t : Bool} (he : cdOf s = some t) (k : XK P n n0 loose Q (brS t s)) : XK P n n0 loose Q s := by
 obtain ⟨ks, fr, st, kn⟩ := s
 unfold cdOf at he
 split at he
 ·rename_i o a b ks' hk
  simp only at hk
  subst hk
  have hx := bool?_eq he
  simp only [brS] at k
  refine XW.cond (n := n) rfl hx (fun h => ?_) (fun h => ?_)
  ·subst h; exact k
  ·subst h; exact k
 ·rename_i hk
  split at he
  ·rename_i d hd
   have hx := bool?_eq he
   rw [brS_k hd, ← hx] at k
   have k : QK P n n0 loose ks Q .normal (setF d (lk fr d) fr) st := k
   rw [setF_eq] at k
   exact k
  ·cases he

theorem uC {t : Bool} (ht : GG P n n0 loose an r Q x (brS true (run P n an s))) (hf : GG P n n0 loose an r Q y (brS false (run P n an s)))
  (he : cdOf (run P n an s) = some t := by kernel_rfl) : GG P n n0 loose an r Q (ift t x y) s := by
 refine ⟨fun h => ?_⟩
 refine run_sound (an := an) ?_
 cases t with
 | true => exact br_sound he (ht h)
 | false => exact br_sound he (hf h)

theorem uT (k : GG P n n0 loose an r Q T (brS true (run P n an s))) (he : cdOf (run P n an s) = some true := by kernel_rfl) : GG P n n0 loose an r Q T s :=
 ⟨fun h => run_sound (an := an) (br_sound he (k h))⟩
theorem uF (k : GG P n n0 loose an r Q T (brS false (run P n an s))) (he : cdOf (run P n an s) = some false := by kernel_rfl) : GG P n n0 loose an r Q T s :=
 ⟨fun h => run_sound (an := an) (br_sound he (k h))⟩

theorem uE0 {o : Option β} {p : Prop} (e : o = none) (h : o = some r) : p := by rw [e] at h; cases h
theorem uNo : GG P n n0 loose an r Q (none : Option β) s := ⟨fun h =>
 nomatch h⟩

def ixSl (s : SS) : Option Nat := match hdOp s with
 | some (o, _) => (match o.op with
  | .indexAddr _ _ (.tmp t) => some t
  | .index _ _ (.tmp t) => some t
  | _ => none)
 | none => none
def ixI (s : SS) : Option (IntKind × Int) := match ixSl s with
 | some t => (match lk s.fr t with
  | .one (.pv (.s (.int k m))) => some (k, m)
  | _ => none)
 | none => none
/-! ### what an operation asks for -/

def evQ (P : Program) (s : SS) : Option (AV × List Prop) :=
 match hdOp s with
 | some (o, f) => bif quietOp o.op then (match ev P false o f (hdSt s) (hsOf o f) with
  | some out => some (out.av, out.ob)
  | none => none) else none
 | none => none

theorem evQ_yd {av : AV} {ob : List Prop} (he : evQ P s = some (av, ob)) (hob : AllP ob) : ∃ o f, hdOp s = some (o, f) ∧ Yd P n (hdSt s) o f av := by
 unfold evQ at he
 split at he
 ·rename_i o f hd
  cases hq : quietOp o.op with
  | false => simp [hq] at he
  | true =>
   simp only [hq, cond_true] at he
   split at he
   ·rename_i out hev
    simp only [Option.some.injEq, Prod.mk.injEq] at he
    obtain ⟨rfl, rfl⟩ := he
    exact ⟨o, f, hd, Yd.ev hq hev hob⟩
   ·cases he
 ·cases he

theorem uV (av av' : AV) {ob : List Prop} (hob : AllP ob) (hav : av = av') (k : GG P n n0 loose an r Q T (pvS n av' (run P n an s))) (he : evQ P (run P n an s) = some (av, ob)) : GG P n n0 loose an r Q T s := by
 refine ⟨fun h => ?_⟩
 obtain ⟨o, f, h1, h2⟩ := evQ_yd (n := n) he hob
 subst hav
 exact run_sound (an := an) (pv_sound h1 h2 (k h))

def avQ (P : Program) (s : SS) : AV := match evQ P s with
 | some (av, _) => av
 | none => .j
def obQ (P : Program) (s : SS) : Option (List Prop) := match evQ P s with
 | some (_, ob) => some ob
 | none => none

theorem avob {ob : List Prop} (h : obQ P s = some ob) : evQ P s = some (avQ P s, ob) := by
 unfold obQ at h
 unfold avQ
 split at h
 ·rename_i av ob' he
  simp only [Option.some.injEq] at h
  subst h
  rw [he]
 ·cases h

def evK (P : Program) (s : SS) : Option AV :=
 match hdOp s with
 | some (o, f) => bif quietOp o.op then (match ev P false o f (hdSt s) (hsOf o f) with
  | some out => (match out.ob with
   | [] => some out.av
   | _ => bif obB P s.kn o f then some out.av else none)
  | none => none) else none
 | none => none
theorem evK_yd {av : AV} (he : evK P s = some av) : ∃ o f, hdOp s = some (o, f) ∧ Yd P n (hdSt s) o f av := by
 unfold evK at he
 split at he
 ·rename_i o f hd
  cases hq : quietOp o.op with
  | false => simp [hq] at he
  | true =>
   simp only [hq, cond_true] at he
   split at he
   ·rename_i out hev
    have hob : AllP out.ob ∧ out.av = av := by
     split at he
     ·rename_i hob
      rw [hob]
      exact ⟨trivial, Option.some.inj he⟩
     ·cases hb : obB P s.kn o f with
      | false => simp [hb] at he
      | true => rw [hb] at he; exact ⟨obB_ok hb hev, Option.some.inj he⟩
    rw [← hob.2]
    exact ⟨o, f, hd, Yd.ev hq hev hob.1⟩
   ·cases he
 ·cases he

theorem uY (d : Nat) {e : α} (m : α → AV) {f : α → Option β} (k : ∀ y, GG P n n0 loose an r Q (f y) (pvS n (m y) (runU P n an d s)))
  (he : evK P (runU P n an d s) = some (m e) := by kernel_rfl) : GG P n n0 loose an r Q (bnd (some e) f) s := by
 refine ⟨fun h => ?_⟩
 obtain ⟨o, g, h1, h2⟩ := evK_yd (n := n) he
 exact runU_sound (pv_sound h1 h2 (k e h))
theorem uYg (d : Nat) {e : α} {p : Prop} [Decidable p] (m : α → AV) {f : α → Option β} (k : ∀ y, GG P n n0 loose an r Q (f y) (pvS n (m y) (runU P n an d s)))
  (he : evQ P (runU P n an d s) = some (m e, [p]) := by kernel_rfl) : GG P n n0 loose an r Q (grd p (bnd (some e) f)) s := by
 refine ⟨fun h => ?_⟩
 obtain ⟨hp, h⟩ := grd_some h
 obtain ⟨o, g, h1, h2⟩ := evQ_yd (n := n) he ⟨hp, trivial⟩
 exact runU_sound (pv_sound h1 h2 (k e h))
theorem uG {p : Prop} [Decidable p] (k : GG P n n0 loose an r Q x (pvS n (avQ P (run P n an s)) (run P n an s))) (he : obQ P (run P n an s) = some [p] := by kernel_rfl) : GG P n n0 loose an r Q (grd p x) s := by
 refine ⟨fun h => ?_⟩
 obtain ⟨hp, h⟩ := grd_some h
 exact uV _ _ (ob := [p]) ⟨hp, trivial⟩ rfl k (avob he) h

/-! ### lists that are only read -/

def ixOf (P : Program) (s : SS) : Option (List (List PV) × Int × Nat) :=
 match hdOp s with
 | some (o, f) => (match o.op with
  | .indexAddr t x i => (match P.underlying t, rv f x, rv f i with
   | some (.slice e), .one (.pv (.ro els)), .one (.pv (.s (.int _ m))) => (match tsz P e with
    | some es => some (els, m, es)
    | none => none)
   | _, _, _ => none)
  | _ => none)
 | none => none

theorem ix_yd {els : List (List PV)} {i : Int} {es : Nat} {c : List PV} (he : ixOf P s = some (els, i, es)) (h : 0 ≤ i ∧ i < (els.length : Int) ∧ elemsOk es els) (hc : els[i.toNat]? = some c) :
  ∃ o f, hdOp s = some (o, f) ∧ Yd P n (hdSt s) o f (.one (.pv (.rp [c] 0 0))) := by
 unfold ixOf at he
 split at he
 ·rename_i o f hd
  refine ⟨o, f, hd, ?_⟩
  split at he
  ·rename_i t x i' ho
   split at he
   ·rename_i e els' k m hu hx hi
    split at he
    ·rename_i es' hes
     simp only [Option.some.injEq, Prod.mk.injEq] at he
     obtain ⟨rfl, rfl, rfl⟩ := he
     have hev : ev P false o f (hdSt s) [] = some ⟨.one (.pv (.rp els' m.toNat 0)), hdSt s, [0 ≤ m ∧ m < (els'.length : Int) ∧ elemsOk es' els'], [], none⟩ := by
      unfold ev
      simp only [ho, hx, hi, iaAt, hu, hes]
     refine (Yd.ev (by rw [ho]; rfl) hev ⟨h, trivial⟩).le ?_
     intro ι w v hv
     cases cv_of hv with
     | pv _ _ hp => exact .one _ _ (.pv _ _ (hp.at1 hc))
    ·cases he
   ·cases he
  ·cases he
 ·cases he

theorem uL (E : Enc α) {xs : List α} {i : Int} {f : α → Option β} (k : ∀ e, at? xs i = some e → GG P n n0 loose an r Q (f e) (pvS n (.one (.pv (.rp [E.cells e] 0 0))) (run P n an s)))
  (he : ixOf P (run P n an s) = some (E.els xs, i, E.sz) := by kernel_rfl) : GG P n n0 loose an r Q (bnd (at? xs i) f) s := by
 refine ⟨fun h => ?_⟩
 obtain ⟨e, ha, h⟩ := bnd_some h
 obtain ⟨o, g, h1, h2⟩ := ix_yd (n := n) he (E.inb ha) (E.get ha)
 exact run_sound (an := an) (pv_sound h1 h2 (k e ha h))

theorem uM (E : Enc α) {xs : List α} {i : Int} {e : α} (ha : at? xs i = some e) (k : GG P n n0 loose an r Q T (pvS n (.one (.pv (.rp [E.cells e] 0 0))) (run P n an s)))
  (he : ixOf P (run P n an s) = some (E.els xs, i, E.sz) := by kernel_rfl) : GG P n n0 loose an r Q T s := by
 refine ⟨fun h => ?_⟩
 obtain ⟨o, g, h1, h2⟩ := ix_yd (n := n) he (E.inb ha) (E.get ha)
 exact run_sound (an := an) (pv_sound h1 h2 (k h))

theorem uA (av : AV) (k : GG P n n0 loose an r Q T (pvS n av (run P n an s))) (he : evQ P (run P n an s) = some (av, []) := by kernel_rfl) : GG P n n0 loose an r Q T s :=
 uV av av (ob := []) trivial rfl k he
theorem uNe (E : Enc α) {xs : List α} (k : GG P n n0 loose an r Q x (pvS n (avQ P (run P n an s)) (run P n an s))) (he : obQ P (run P n an s) = some [E.els xs ≠ []] := by kernel_rfl) : GG P n n0 loose an r Q (grd (xs ≠ []) x) s := by
 refine ⟨fun h => ?_⟩
 obtain ⟨hp, h⟩ := grd_some h
 exact uV _ _ (ob := [_]) ⟨E.ne hp, trivial⟩ rfl k (avob he) h

theorem uN (E : Enc α) (xs : List α) (k : GG P n n0 loose an r Q T (pvS n (vi (xs.length : Int)) (run P n an s)))
  (he : evQ P (run P n an s) = some (vi ((E.els xs).length : Int), []) := by kernel_rfl) : GG P n n0 loose an r Q T s :=
 uV _ _ (ob := []) trivial (by rw [E.len]) k he

theorem uX (E : Enc α) {xs : List α} {a b : Int} (k : GG P n n0 loose an r Q x (pvS n (vl E ((xs.drop a.toNat).take (b.toNat - a.toNat))) (run P n an s)))
  (he : evQ P (run P n an s) = some (.one (.pv (.ro (((E.els xs).drop a.toNat).take (b.toNat - a.toNat)))), [(0 ≤ a ∧ a ≤ b ∧ b ≤ ((E.els xs).length : Int)) ∧ elemsOk E.sz (E.els xs)]) := by kernel_rfl) :
  GG P n n0 loose an r Q (grd (0 ≤ a ∧ a ≤ b ∧ b ≤ (xs.length : Int)) x) s := by
 refine ⟨fun h => ?_⟩
 obtain ⟨hp, h⟩ := grd_some h
 exact uV _ _ (ob := [_]) ⟨E.cutOk hp, trivial⟩ (by rw [E.cut]) k he h

theorem uXm (E : Enc α) {xs : List α} {a b m : Int} (k : GG P n n0 loose an r Q x (pvS n (vl E ((xs.drop a.toNat).take (b.toNat - a.toNat))) (run P n an s)))
  (he : evQ P (run P n an s) = some (.one (.pv (.ro (((E.els xs).drop a.toNat).take (b.toNat - a.toNat)))), [(0 ≤ a ∧ a ≤ b ∧ b ≤ m ∧ m ≤ ((E.els xs).length : Int)) ∧ elemsOk E.sz (E.els xs)]) := by kernel_rfl) :
  GG P n n0 loose an r Q (grd (0 ≤ a ∧ a ≤ b ∧ b ≤ m ∧ m ≤ (xs.length : Int)) x) s := by
 refine ⟨fun h => ?_⟩
 obtain ⟨hp, h⟩ := grd_some h
 exact uV _ _ (ob := [_]) ⟨E.cutMOk hp, trivial⟩ (by rw [E.cut]) k he h

/-! ### calls -/

def clQ (P : Program) (s : SS) : Option (Nat × List AV) :=
 match hdOp s with
 | some (o, f) => callAt P o f
 | none => none

theorem cl_yd {g : Nat} {avs : List AV} {v : AV} (he : clQ P s = some (g, avs)) (h : PC P g avs v) (hp : pureAs avs = true) (hr : pureA v = true) : ∃ o f, hdOp s = some (o, f) ∧ Yd P n (hdSt s) o f v := by
 unfold clQ at he
 split at he
 ·rename_i o f hd
  exact ⟨o, f, hd, Yd.call he h hp hr⟩
 ·cases he

def CT (P : Program) (f : Nat) (args : List AV) {β : Type} (T : Option β) (rv : β → AV) : Prop := ∀ r, T = some r → PC P f args (rv r)
theorem uPn {α : Type} {o : Option α} {f : α → Option β} {g : Nat} {avs : List AV} {rv : α → AV} (c : CT P g avs o rv)
  (k : ∀ v, o = some v → GG P n n0 loose an r Q (f v) (pvS n (rv v) (run P n an s)))
  (he : clQ P (run P n an s) = some (g, avs) := by kernel_rfl) (hp : pureAs avs = true := by kernel_rfl) (hr : ∀ v, pureA (rv v) = true := by intro v; kernel_rfl) : GG P n n0 loose an r Q (bnd o f) s := by
 refine ⟨fun h => ?_⟩
 obtain ⟨v, ho, h⟩ := bnd_some h
 obtain ⟨o', f', h1, h2⟩ := cl_yd (n := n) he (c v ho) hp (hr v)
 exact run_sound (an := an) (pv_sound h1 h2 (k v ho h))

def sfC : CV → CV
 | .pv (.s (.slice none 0 0)) => .pv (.ro [])
 | .cl els => .pv (.ro els)
 | c => c
def sfA : AV → AV
 | .one c => .one (sfC c)
 | .ag cs => .ag (cs.map sfC)
 | a => a
theorem sfC_le (c : CV) : CLe c (sfC c) := by
 unfold sfC
 split
 ·exact .nl
 ·exact .cl _
 ·exact .rfl _
theorem sfA_le (a : AV) : ALe a (sfA a) := by
 unfold sfA
 split
 ·exact .one (sfC_le _)
 ·refine .ag (by simp) (fun i c c' h1 h2 => ?_)
  rw [List.getElem?_map, h1] at h2
  simp only [Option.map_some, Option.some.injEq] at h2
  subst h2
  exact sfC_le c
 ·exact .rfl _
theorem ALes.refl : ∀ l : List AV, ALes l l
 | [] => trivial
 | a :: l => ⟨.rfl _, ALes.refl l⟩
theorem sfall_le (l : List AV) : ALes l (l.map sfA) := by
 induction l with
 | nil => trivial
 | cons a l ih => exact ⟨sfA_le a, ih⟩

def clS (P : Program) (s : SS) : Option (Nat × List AV) := match clQ P s with
 | some (g, l) => bif pureAs l then some (g, l.map sfA) else none
 | none => none

theorem uP {α : Type} {o : Option α} {f : α → Option β} {g : Nat} {avs : List AV} {rv : α → AV} (c : CT P g avs o rv)
  (k : ∀ v, o = some v → GG P n n0 loose an r Q (f v) (pvS n (rv v) (run P n an s)))
  (he : clS P (run P n an s) = some (g, avs) := by kernel_rfl) (hr : ∀ v, pureA (rv v) = true := by intro v; kernel_rfl) : GG P n n0 loose an r Q (bnd o f) s := by
 refine ⟨fun h => ?_⟩
 obtain ⟨v, ho, h⟩ := bnd_some h
 unfold clS at he
 split at he
 ·rename_i g' l hq
  cases hp : pureAs l with
  | false => simp [hp] at he
  | true =>
   simp only [hp, cond_true, Option.some.injEq, Prod.mk.injEq] at he
   obtain ⟨rfl, rfl⟩ := he
   obtain ⟨o', f', h1, h2⟩ := cl_yd (n := n) hq ((c v ho).le (sfall_le l)) hp (hr v)
   exact run_sound (an := an) (pv_sound h1 h2 (k v ho h))
 ·cases he

/-! ### joins and loops -/
structure KP (n n0 : Nat) (loose : List Nat) where
 p : Fr → St → Prop
 cl : ∀ {fr st fr' st'}, Sub n n0 loose fr st fr' st' → p fr' st' → p fr st

theorem QK_app (Q : QT) : ∀ l1 l2 : List It, QK P n n0 loose (l1 ++ l2) Q = QK P n n0 loose l1 (QK P n n0 loose l2 Q)
 | [], l2 => rfl
 | .b _ :: l, l2 => by simp only [List.cons_append, QK, QK_app Q l l2]
 | .s :: l, l2 => by simp only [List.cons_append, QK, QK_app Q l l2]
 | .c _ :: l, l2 => by simp only [List.cons_append, QK, QK_app Q l l2]
 | .o _ _ :: l, l2 => by simp only [List.cons_append, QK, QK_app Q l l2]
 | .d _ _ :: l, l2 => by simp only [List.cons_append, QK, QK_app Q l l2]
 | .g _ _ _ _ :: l, l2 => by simp only [List.cons_append, QK, QK_app Q l l2]
 | .r _ _ :: l, l2 => by simp only [List.cons_append, QK, QK_app Q l l2]

theorem thenQ_self (Q : QT) : thenQ (Q .normal) Q = Q := by funext e f s; cases e <;> rfl

def takeK {α β : Type} : Nat → List α → (List α → β) → β
 | d + 1, x :: l, K => takeK d l fun l => K (x :: l)
 | _, _, K => K []
def sameL {α β : Type} : List α → List β → Bool
 | [], [] => true
 | _ :: l, _ :: m => sameL l m
 | _, _ => false
def tkQ {β : Type} (l2 : List It) : List It → (List It → β) → β
 | [], K => K []
 | x :: l, K => bif sameL l2 (x :: l) then K [] else tkQ l2 l fun l => K (x :: l)
def endQ (l2 : List It) : List It → List It
 | [] => []
 | x :: l => bif sameL l2 (x :: l) then x :: l else endQ l2 l
theorem tkQ_end {β : Type} (l2 : List It) : ∀ (l : List It) (K : List It → β), ∃ l1, tkQ l2 l K = K l1 ∧ l = l1 ++ endQ l2 l
 | [], K => ⟨[], rfl, rfl⟩
 | x :: l, K => by
  obtain ⟨l1, h1, h2⟩ := tkQ_end l2 l (fun l => K (x :: l))
  unfold tkQ endQ
  cases hb : sameL l2 (x :: l) with
  | true => exact ⟨[], rfl, rfl⟩
  | false => exact ⟨x :: l1, by simp only [cond_false, h1], by simp only [cond_false, List.cons_append]; rw [← h2]⟩
def tkS (l2 : List It) (s : SS) : SS := match s with
 | ⟨ks, fr, st, kn⟩ => tkQ l2 ks fun ks => ⟨ks, fr, st, kn⟩

def kGo : List Nat → Code → List It → List It
 | [], _, acc => acc
 | i :: p, c, acc => match c with
  | .seq a b => bif Nat.beq i 0 then kGo p a (.c b :: acc) else kGo p b acc
  | .block id a => kGo p a (.b id :: acc)
  | .scope a => kGo p a (.s :: acc)
  | .cond _ a b => bif Nat.beq i 0 then kGo p a acc else kGo p b acc
  | .loop x => kGo p x []
  | _ => acc
def kS (fn : Func) (p : List Nat) (m : Nat) : List It := takeK m (kGo p (cd fn []) []) id

theorem q_sound {l2 : List It} {s' : SS} (h : ∀ K : KP n n0 loose, (∀ {γ : Type} {T1 : Option γ} {r1 : γ} {f : Fr} {st : St}, T1 = some r1 → GG P n n0 loose an r1 Q T1 ⟨l2, f, st, []⟩ → K.p f st) → GG P n n0 loose an r (thenQ K.p (QK P n n0 loose l2 Q)) T (tkS l2 s'))
  (he : endQ l2 s'.ks = l2) (ht : topOk l2 = true) (hT : T = some r) : XK P n n0 loose Q s' := by
 have := h ⟨fun f st => XK P n n0 loose Q ⟨l2, f, st, []⟩, fun hs h => XK.sub ht hs h⟩ (fun hT g => g hT) hT
 obtain ⟨ks, fr, st, kn⟩ := s'
 obtain ⟨l1, e1, e3⟩ := tkQ_end l2 ks fun ks => (⟨ks, fr, st, kn⟩ : SS)
 have e : XK P n n0 loose Q ⟨ks, fr, st, kn⟩ = QK P n n0 loose (l1 ++ l2) Q .normal fr st := by
  simp only at he
  rw [he] at e3
  unfold XK
  rw [e3]
 rw [e, QK_app]
 have e2 : thenQ (fun f st => XK P n n0 loose Q ⟨l2, f, st, []⟩) (QK P n n0 loose l2 Q) = QK P n n0 loose l2 Q := thenQ_self (QK P n n0 loose l2 Q)
 unfold tkS at this
 simp only at this
 rw [e1] at this
 have t2 : QK P n n0 loose l1 (thenQ (fun f st => XK P n n0 loose Q ⟨l2, f, st, []⟩) (QK P n n0 loose l2 Q)) .normal fr st := this
 rw [e2] at t2
 exact t2

theorem uQ (l2 : List It) (h : ∀ K : KP n n0 loose, (∀ {γ : Type} {T1 : Option γ} {r1 : γ} {f : Fr} {st : St}, T1 = some r1 → GG P n n0 loose an r1 Q T1 ⟨l2, f, st, []⟩ → K.p f st) → GG P n n0 loose an r (thenQ K.p (QK P n n0 loose l2 Q)) T (tkS l2 (run P n an s)))
 (he : endQ l2 (run P n an s).ks = l2 := by kernel_rfl) (ht : topOk l2 = true := by kernel_rfl) : GG P n n0 loose an r Q T s := ⟨fun hT => run_sound (q_sound h he ht hT)⟩
def fzC : CV → CV → CV
 | .pv (.s (.slice none 0 0)), .pv (.ro _) => .pv (.ro [])
 | c, _ => c
def fzL : List CV → List CV → List CV
 | c :: l, e :: m => fzC c e :: fzL l m
 | l, _ => l
def fzA1 : AV → AV → AV
 | .one c, .one e => .one (fzC c e)
 | .ag l, .ag m => .ag (fzL l m)
 | a, _ => a
def fzAL : List AV → List AV → List AV
 | a :: l, e :: m => fzA1 a e :: fzAL l m
 | l, _ => l
def fzA : AV → AV → AV
 | .tp l, .tp m => .tp (fzAL l m)
 | a, e => fzA1 a e

theorem fzC_le (c e : CV) : CLe c (fzC c e) := by
 unfold fzC
 split
 ·exact .nl
 ·exact .rfl _
theorem fzL_get : ∀ (l m : List CV), l.length = (fzL l m).length ∧ ∀ (i : Nat) c c', l[i]? = some c → (fzL l m)[i]? = some c' → CLe c c'
 | [], m => by cases m <;> exact ⟨rfl, fun i c c' h => by simp at h⟩
 | c :: l, [] => ⟨rfl, fun i a b h1 h2 => by simp only [fzL] at h2; rw [h1] at h2; cases h2; exact .rfl _⟩
 | c :: l, e :: m => by
  obtain ⟨h1, h2⟩ := fzL_get l m
  refine ⟨by simp only [fzL, List.length_cons]; omega, fun i a b q1 q2 => ?_⟩
  cases i with
  | zero => simp only [fzL, List.getElem?_cons_zero, Option.some.injEq] at q1 q2; subst q1; subst q2; exact fzC_le _ _
  | succ i => exact h2 i a b (by simpa using q1) (by simpa [fzL] using q2)
theorem fzA1_le (a e : AV) : ALe a (fzA1 a e) := by
 unfold fzA1
 split
 ·exact .one (fzC_le _ _)
 ·obtain ⟨h1, h2⟩ := fzL_get _ _
  exact .ag h1 h2
 ·exact .rfl _
def pickZ (fr : Fr) : Fr → Fr
 | [] => []
 | (t, e) :: l => (t, fzA1 (lk fr t) e) :: pickZ fr l
theorem pickZ_le (fr : Fr) : ∀ fr0, FLe fr (pickZ fr fr0)
 | [] => trivial
 | (t, e) :: l => ⟨fzA1_le _ _, pickZ_le fr l⟩

def liveL : Nat → St → List Nat
 | _, [] => []
 | i, .dead :: l => liveL (i + 1) l
 | i, _ :: l => i :: liveL (i + 1) l

def jnF (n0 : Nat) (fr0 : Fr) (st0 : St) (fr : Fr) (st : St) : Option (Fr × St) :=
 bif ((List.range n0).all (inL (liveL 0 st0)) && (liveL 0 st0).all (fun x => Nat.ble (x + 1) st0.length)) && stIds (inL (liveL 0 st0)) st0 then some (pickZ (keepF (inL (liveL 0 st0)) fr) fr0, maskSt (liveL 0 st0) 0 (st.take st0.length)) else none

theorem jnF_sub {fr0 fr : Fr} {st0 st : St} (he : jnF n0 fr0 st0 fr st = some (fr0, st0)) : Sub n n0 loose fr st fr0 st0 := by
 unfold jnF at he
 cases hb : ((List.range n0).all (inL (liveL 0 st0)) && (liveL 0 st0).all (fun x => Nat.ble (x + 1) st0.length)) && stIds (inL (liveL 0 st0)) st0 with
 | false => simp [hb] at he
 | true =>
  simp only [hb, cond_true, Option.some.injEq, Prod.mk.injEq] at he
  rw [Bool.and_eq_true] at hb
  refine Sub.trans (Sub.only (liveL 0 st0) st0.length hb.1 rfl he.2 hb.2) ?_
  rw [← he.1]
  exact Sub.frame (pickZ_le _ _)

def jnS (n0 : Nat) (fr0 : Fr) (st0 : St) (s : SS) : Option (Fr × St) := match s.ks with
 | [] => jnF n0 fr0 st0 s.fr s.st
 | _ => none

theorem uJ {K : KP n n0 loose} {fr0 : Fr} {st0 : St} (j : T = some r → K.p fr0 st0) (he : jnS n0 fr0 st0 (run P n an s) = some (fr0, st0) := by kernel_rfl) : GG P n n0 loose an r (thenQ K.p Q1) T s := by
 refine ⟨fun hT => ?_⟩
 refine run_sound (an := an) ?_
 unfold jnS at he
 split at he
 ·rename_i hk
  unfold XK
  rw [hk]
  exact K.cl (jnF_sub he) (j hT)
 ·cases he

def lpQ (s : SS) : Option (Code × List It) := match s.ks with
 | .c (.loop x) :: k => some (x, k)
 | _ => none

theorem uO (x' : Code) (k : List It) (h : ∀ (R : Nat → KP n n0 loose), (∀ {γ : Type} {T1 : Option γ} {r1 : γ} {j : Nat} {f : Fr} {st : St}, T1 = some r1 → GG P n n0 loose an r1 (thenQ (R j).p (QK P n n0 loose k Q)) T1 ⟨[.c x'], f, st, []⟩ → (R (j + 1)).p f st) →
   T = some r → (R BIG).p (run P n an s).fr (run P n an s).st)
  (he : lpQ (run P n an s) = some (x', k) := by kernel_rfl) : GG P n n0 loose an r Q T s := by
 refine ⟨fun hT => ?_⟩
 refine run_sound (an := an) ?_
 have h1 := h (fun j => ⟨fun f st => XR P n n0 loose x' (QK P n n0 loose k Q) j f st, fun hs h => XR.sub hs h⟩) (fun h g => g h) hT
 generalize run P n an s = s' at *
 obtain ⟨ks, fr, st, kn⟩ := s'
 unfold lpQ at he
 split at he
 ·rename_i y k' hk
  simp only [Option.some.injEq, Prod.mk.injEq] at he
  obtain ⟨rfl, rfl⟩ := he
  subst hk
  exact XW.rounds BIG rfl h1
 ·cases he

def rdS (j : Nat) (s : SS) : SS := match s with
 | ⟨ks, fr, st, kn⟩ => match ks with
  | .c (.loop x) :: k => ⟨.c x :: .r x j :: k, fr, st, kn⟩
  | ks => ⟨ks, fr, st, kn⟩
theorem uOk (j : Nat) (g : GG P n n0 loose an r Q T (rdS j (run P n an s))) : GG P n n0 loose an r Q T s := by
 refine ⟨fun hT => ?_⟩
 refine run_sound (an := an) ?_
 have h1 := g hT
 generalize run P n an s = s' at *
 obtain ⟨ks, fr, st, kn⟩ := s'
 unfold rdS at h1
 simp only at h1
 split at h1
 ·exact XW.rounds (j + 1) rfl h1
 ·exact h1

theorem uE {K : KP n n0 loose} {fr0 fr : Fr} {st0 st : St} (j : T = some r → K.p fr0 st0) (he : jnF n0 fr0 st0 fr st = some (fr0, st0) := by kernel_rfl) : T = some r → K.p fr st :=
 fun hT => K.cl (jnF_sub he) (j hT)

theorem uU {T' : Option β} (hu : T' = T) (g : GG P n n0 loose an r Q T s) : GG P n n0 loose an r Q T' s := hu ▸ g

/-! ### ways out -/
def exE (s : SS) : Option Exit := match s.ks with
 | .c (.exit id) :: k => bif (unw id k).isNone then some (.exit id) else none
 | .c .ret :: _ => some .ret
 | _ => none

structure RE (P : Program) (n n0 : Nat) (loose an : List Nat) {β : Type} (r : β) (e : Exit) (Q : QT) (T : Option β) (s : SS) : Prop where
 go : T = some r → Q e s.fr s.st
instance {e : Exit} : CoeFun (RE P n n0 loose an r e Q T s) (fun _ => T = some r → Q e s.fr s.st) := ⟨RE.go⟩

theorem uR (e : Exit) (g : RE P n n0 loose an r e Q T (run P n an s)) (he : exE (run P n an s) = some e := by kernel_rfl) : GG P n n0 loose an r Q T s := by
 refine ⟨fun hT => ?_⟩
 have g := g hT
 refine run_sound (an := an) ?_
 generalize run P n an s = s' at *
 obtain ⟨ks, fr, st, kn⟩ := s'
 unfold exE at he
 split at he
 ·rename_i id k0 hk
  simp only at hk
  subst hk
  cases hu : unw id k0 with
  | some k' => simp [hu] at he
  | none =>
   simp only [hu, Option.isNone_none, cond_true, Option.some.injEq] at he
   subst he
   exact XW.exit rfl (QK_unw0 hu g)
 ·rename_i k0 hk
  simp only at hk
  subst hk
  simp only [Option.some.injEq] at he
  subst he
  exact XW.ret rfl (QK_ret g)
 ·cases he

def unwE (e : Exit) (k : List It) : Option (List It) := match e with
 | .exit id => unw id k
 | _ => none
def okE : Exit → Bool
 | .ret => true
 | .exit _ => true
 | _ => false

theorem xM {e : Exit} {R : Fr → St → Prop} {k : List It} (g : GG P n n0 loose an r Q T ⟨(unwE e k).getD [], s.fr, s.st, []⟩) (he : (unwE e k).isSome = true := by kernel_rfl) : RE P n n0 loose an r e (thenQ R (QK P n n0 loose k Q)) T s := by
 refine ⟨fun hT => ?_⟩
 have g := g hT
 cases e <;> simp only [unwE] at he g <;> try (cases he; done)
 rename_i id
 obtain ⟨k', hk⟩ := Option.isSome_iff_exists.1 he
 rw [hk] at g
 exact QK_unw hk g

theorem xN {e : Exit} {R : Fr → St → Prop} {k : List It} (g : RE P n n0 loose an r e Q T s) (he : ((unwE e k).isNone && okE e) = true := by kernel_rfl) : RE P n n0 loose an r e (thenQ R (QK P n n0 loose k Q)) T s := by
 refine ⟨fun hT => ?_⟩
 have g := g hT
 cases e with
 | exit id => exact QK_unw0 (Option.isNone_iff_eq_none.1 (by simpa [unwE, okE] using he)) g
 | ret => exact QK_ret g
 | _ => simp [okE] at he

/-! ### the end, the beginning -/
theorem fzC_cf {st : St} {q : Nat → Bool} {c e : CV} (h : idsC q (fzC c e) = true) : CF st q c (fzC c e) := by
 unfold fzC at *
 split
 ·exact .nl
 ·exact .rfl _ (by simpa using h)
theorem LF.same {st : St} {q : Nat → Bool} : ∀ {l : List CV}, idsL q l = true → LF st q l l
 | [], _ => .nil
 | c :: l, h => by
  simp only [idsL, Bool.and_eq_true] at h
  exact .cons (.rfl _ h.1) (LF.same h.2)
theorem fzL_lf {st : St} {q : Nat → Bool} : ∀ {l m : List CV}, idsL q (fzL l m) = true → LF st q l (fzL l m)
 | c :: l, e :: m, h => by
  simp only [fzL, idsL, Bool.and_eq_true] at h
  exact .cons (fzC_cf h.1) (fzL_lf h.2)
 | [], _, _ => by simp only [fzL]; exact .nil
 | c :: l, [], h => by simp only [fzL] at h ⊢; exact LF.same h
theorem AF.same {st : St} {q : Nat → Bool} : ∀ {a : AV}, idsA q a = true → AF st q a a
 | .j, _ => .j _
 | .one c, h => .one (.rfl _ h)
 | .ag l, h => .ag (LF.same h)
 | .tp [], _ => .tp0
 | .tp (a :: l), h => by
  simp only [idsA, idsA.go, Bool.and_eq_true] at h
  exact .tpc (AF.same h.1) (AF.same (a := .tp l) (by simpa [idsA] using h.2))
theorem fzA1_af {st : St} {q : Nat → Bool} {a e : AV} (h : idsA q (fzA1 a e) = true) : AF st q a (fzA1 a e) := by
 unfold fzA1 at *
 split
 ·exact .one (fzC_cf (by simpa [idsA] using h))
 ·exact .ag (fzL_lf (by simpa [idsA] using h))
 ·exact AF.same (by simpa using h)
theorem fzAL_af {st : St} {q : Nat → Bool} : ∀ {l m : List AV}, idsA.go q (fzAL l m) = true → AF st q (.tp l) (.tp (fzAL l m))
 | c :: l, e :: m, h => by
  simp only [fzAL, idsA.go, Bool.and_eq_true] at h
  exact .tpc (fzA1_af h.1) (fzAL_af h.2)
 | [], _, _ => by simp only [fzAL]; exact .tp0
 | c :: l, [], h => by simp only [fzAL] at h ⊢; exact AF.same (a := .tp (c :: l)) (by simpa [idsA] using h)
theorem fzA_af {st : St} {q : Nat → Bool} {a e : AV} (h : idsA q (fzA a e) = true) : AF st q a (fzA a e) := by
 unfold fzA at *
 split
 ·exact fzAL_af (by simpa [idsA] using h)
 ·exact fzA1_af (by simpa using h)

def rsQ (P : Program) (fn : Func) (s : SS) (e : AV) : Option AV := match resAll P s.fr s.st fn.results.toList [] with
 | some (avs, []) => bif idsA (fun _ => false) (fzA (resAV avs) e) then some (fzA (resAV avs) e) else none
 | _ => none

theorem rs_fin {fn : Func} {e : Exit} {R : AV} (he : e = .normal ∨ e = .ret) (h : rsQ P fn s R = some R) : FinP P fn R e s.fr s.st := by
 unfold rsQ at h
 split at h
 ·rename_i avs hr
  cases hi : idsA (fun _ => false) (fzA (resAV avs) R) with
  | false => simp [hi] at h
  | true =>
   simp only [hi, cond_true, Option.some.injEq] at h
   have := fzA_af (st := s.st) hi
   rw [h] at this
   exact ⟨he, [], avs, [], hr, trivial, this⟩
 ·cases h

def FinR (P : Program) (fn : Func) {β : Type} (rv : β → AV) (r : β) : QT := FinP P fn (rv r)

theorem xF {fn : Func} {rv : β → AV} {v : β} (he : rsQ P fn s (rv v) = some (rv v) := by kernel_rfl) : RE P n n0 loose an r .ret (FinR P fn rv r) (some v) s := by
 refine ⟨fun h => ?_⟩
 simp only [Option.some.injEq] at h
 subst h
 show FinP P fn (rv v) _ _ _
 exact rs_fin (.inr rfl) he

def ff0 (args : List AV) : Fr := fF (argsFr args 0) id

theorem uFn {f : Nat} {args : List AV} {rv : β → AV} (n : Nat) (an : List Nat) (fn : Func) (g : ∀ r, GG P n 0 [] an r (FinR P fn rv r) T ⟨[.c (cd fn [])], ff0 args, [], []⟩)
  (hf : P.funcs[f]? = some fn := by kernel_rfl) (hb : fn.body = some (cd fn []) := by kernel_rfl) (hn : fn.ntmps = n := by kernel_rfl) (hl : Nat.ble args.length n = true := by rfl) : CT P f args T rv := by
 intro r hT
 refine PC.of hf hb hn (Nat.le_of_ble_eq_true hl) ?_
 have := g r hT
 unfold ff0 at this
 rw [fF_eq] at this
 refine XW.mono (show XW P n 0 [] (cd fn []) (QK P n 0 [] [] (FinR P fn rv r)) (argsFr args 0) [] from ?_) (fun e f s h => h)
 have e : thenQ (XW P n 0 [] (cd fn []) (FinR P fn rv r)) (FinR P fn rv r) .normal (argsFr args 0) [] := this
 exact e
theorem uF0 {f : Nat} {args : List AV} {rv : β → AV} (e : T = none) : CT P f args T rv := fun r h => uE0 e h

/-! ### regions whose order is open -/
def drQ (P : Program) (m : Nat) (s : SS) : Bool := match s.ks with
 | .c (.region _ ops true) :: _ => (drawOk ops && sufOk ops m) && P.follows .mixedOrders
 | _ => false
def drS (m : Nat) (s : SS) : SS := match s with
 | ⟨.c (.region _ ops true) :: k, fr, st, kn⟩ => ⟨.d ops (ops.toList.take m) :: .o ops (ops.toList.drop m) :: k, fr, st, kn⟩
 | s => s

theorem uDr (m : Nat) (k : GG P n n0 loose an r Q T (drS m (run P n an s))) (he : drQ P m (run P n an s) = true := by kernel_rfl) : GG P n n0 loose an r Q T s := by
 refine ⟨fun hT => ?_⟩
 have k := k hT
 refine run_sound (an := an) ?_
 generalize run P n an s = s' at *
 obtain ⟨ks, fr, st, kn⟩ := s'
 unfold drQ at he
 split at he
 ·rename_i id ops k0 hk
  simp only at hk
  subst hk
  obtain ⟨fr', h1, h2⟩ := k
  exact XW.drwS (c := .region id ops true) m fr' rfl he h1 h2
 ·cases he

def grQ (P : Program) (n0 : Nat) (loose : List Nat) (m K : Nat) (X : List Nat) (s : SS) : Bool := match s.ks with
 | .c (.region _ ops true) :: _ => ((drawOk ops && sufOk ops m) && P.follows .mixedOrders) && (stIds (fun i => !inL X i) s.st && fixOff n0 loose X)
 | _ => false
def grS (m K : Nat) (X : List Nat) (s : SS) : SS := match s with
 | ⟨.c (.region _ ops true) :: k, fr, st, kn⟩ => fS (st ++ List.replicate K .dead) fun st => ⟨.g X ops (ops.toList.take m) [] :: .o ops (ops.toList.drop m) :: k, fr, st, kn⟩
 | s => s
theorem stIds_app {q : Nat → Bool} : ∀ {a b : St}, stIds q a = true → stIds q b = true → stIds q (a ++ b) = true
 | [], b, _, h => h
 | x :: a, b, h, h2 => by
  simp only [List.cons_append, stIds, Bool.and_eq_true] at h ⊢
  exact ⟨h.1, stIds_app h.2 h2⟩
theorem stIds_dead {q : Nat → Bool} : ∀ K : Nat, stIds q (List.replicate K .dead) = true
 | 0 => rfl
 | K + 1 => by rw [List.replicate_succ]; simp only [stIds, Bool.and_eq_true]; exact ⟨rfl, stIds_dead K⟩
theorem uGr (m K : Nat) (X : List Nat) (k : GG P n n0 loose an r Q T (grS m K X (run P n an s))) (he : grQ P n0 loose m K X (run P n an s) = true := by kernel_rfl) : GG P n n0 loose an r Q T s := by
 refine ⟨fun hT => ?_⟩
 have k := k hT
 refine run_sound (an := an) ?_
 generalize run P n an s = s' at *
 obtain ⟨ks, fr, st, kn⟩ := s'
 unfold grQ at he
 split at he
 ·rename_i id ops k0 hk
  simp only at hk
  subst hk
  simp only [grS, fS_eq] at k
  obtain ⟨fr2, st2, tw2, h1, h2, h3⟩ := k
  simp only [Bool.and_eq_true] at he
  obtain ⟨he, he1, he2⟩ := he
  rw [List.nil_append] at h2
  unfold twOk at h2
  rw [Bool.and_eq_true] at h2
  have h4 : stIds (fun i => !inL X i) (st ++ List.replicate K .dead) = true := stIds_app he1 (stIds_dead K)
  exact XW.sub (Sub.dead K) (XW.drwG (c := .region id ops true) m X tw2 fr2 st2 rfl (by simp only [Bool.and_eq_true]; exact ⟨he, ⟨h2, h4⟩, he2⟩) h1 h3)
 ·cases he
end
set_option linter.unusedVariables false
set_option linter.unusedSimpArgs false

section
variable {P : Program} {n n0 : Nat} {loose an : List Nat} {Q Q1 : QT} {α β : Type} {T x y : Option β} {r : β} {s : SS} {fr : Fr} {st : St} {ops : Array Oper} {l : List Oper}

def sfB (b : Bool) (a : AV) : AV := match b with
 | true => sfA a
 | false => a
theorem sfB_le (b : Bool) (l : List AV) : ALes l (l.map (sfB b)) := by
 cases b with
 | true => exact sfall_le l
 | false => rw [show l.map (sfB false) = l from List.map_id l]; exact ALes.refl l
theorem ARel.soft {ι : IM} {w : World} {vs : List Value} {asv : List AV} (b : Bool) (h : ARel ι w st vs asv) : ARel ι w st vs (asv.map (sfB b)) := by
 obtain ⟨e1, e2⟩ := (sfB_le b asv).get
 refine ⟨h.1.trans e1, fun j v a h1 h2 => ?_⟩
 have hlt : j < asv.length := by rw [e1]; exact (List.getElem?_eq_some_iff.1 h2).1
 exact (h.2 j v _ h1 (List.getElem?_eq_getElem hlt)).le (e2 j _ a (List.getElem?_eq_getElem hlt) h2)

/-! ### functions that are handed objects -/

def CM (P : Program) (f : Nat) (args : List AV) (sc : St) {β : Type} (T : Option β) (rv : β → AV) (nb : β → St) : Prop := ∀ r, T = some r → MC P f args sc (rv r) (nb r)
def FinMR (P : Program) (fn : Func) (k : Nat) {β : Type} (rv : β → AV) (nb : β → St) (r : β) : QT := FinM P fn (rv r) k (nb r)

def fS0 (st : St) : St := fS st id
theorem uFnM {f : Nat} {args : List AV} {sc : St} {rv : β → AV} {nb : β → St} (k n : Nat) (an : List Nat) (fn : Func) (g : ∀ r, GG P n k [] an r (FinMR P fn k rv nb r) T ⟨[.c (cd fn [])], ff0 args, fS0 sc, []⟩)
  (hf : P.funcs[f]? = some fn := by kernel_rfl) (hb : fn.body = some (cd fn []) := by kernel_rfl) (hn : fn.ntmps = n := by kernel_rfl) (hl : Nat.ble args.length n = true := by rfl) (hk : sc.length = k := by rfl) : CM P f args sc T rv nb := by
 intro r hT
 refine MC.of k hf hb hn (Nat.le_of_ble_eq_true hl) hk ?_
 have := g r hT
 unfold ff0 fS0 at this
 rw [fF_eq, fS_eq] at this
 refine XW.mono (show XW P n k [] (cd fn []) (QK P n k [] [] (FinMR P fn k rv nb r)) (argsFr args 0) sc from ?_) (fun e f s h => h)
 have e : thenQ (XW P n k [] (cd fn []) (FinMR P fn k rv nb r)) (FinMR P fn k rv nb r) .normal (argsFr args 0) sc := this
 exact e
theorem uM0 {f : Nat} {args : List AV} {sc : St} {rv : β → AV} {nb : β → St} (e : T = none) : CM P f args sc T rv nb := fun r h => uE0 e h

def rsM (P : Program) (fn : Func) (k : Nat) (s : SS) (e : AV) : Option (AV × St) := match resAll P s.fr s.st fn.results.toList [] with
 | some (avs, []) => bif idsA (fun id => Nat.ble (id + 1) k) (fzA (resAV avs) e) && stIds (fun id => Nat.ble (id + 1) k) (s.st.take k) then some (fzA (resAV avs) e, s.st.take k) else none
 | _ => none

theorem rsM_fin {fn : Func} {k : Nat} {e : Exit} {R : AV} {sc : St} (he : e = .normal ∨ e = .ret) (h : rsM P fn k s R = some (R, sc)) : FinM P fn R k sc e s.fr s.st := by
 unfold rsM at h
 split at h
 ·rename_i avs hr
  cases hi : idsA (fun id => Nat.ble (id + 1) k) (fzA (resAV avs) R) with
  | false => simp [hi] at h
  | true =>
   cases hs : stIds (fun id => Nat.ble (id + 1) k) (s.st.take k) with
   | false => simp [hs] at h
   | true =>
    simp only [hi, hs, Bool.and_self, cond_true, Option.some.injEq, Prod.mk.injEq] at h
    have := fzA_af (st := s.st) hi
    rw [h.1] at this
    exact ⟨he, [], avs, [], hr, trivial, h.2, by rw [← h.2]; exact hs, this⟩
 ·cases h

theorem xFM {fn : Func} {k : Nat} {rv : β → AV} {nb : β → St} {v : β} (he : rsM P fn k s (rv v) = some (rv v, nb v) := by kernel_rfl) : RE P n n0 loose an r .ret (FinMR P fn k rv nb r) (some v) s := by
 refine ⟨fun h => ?_⟩
 simp only [Option.some.injEq] at h
 subst h
 exact rsM_fin (.inr rfl) he
theorem uZM {fn : Func} {k : Nat} {rv : β → AV} {nb : β → St} {v : β} (hk : (run P n an s).ks.isEmpty = true := by kernel_rfl) (he : rsM P fn k (run P n an s) (rv v) = some (rv v, nb v) := by kernel_rfl) : GG P n n0 loose an r (FinMR P fn k rv nb r) (some v) s := by
 refine ⟨fun h => ?_⟩
 simp only [Option.some.injEq] at h
 subst h
 refine run_sound (an := an) ?_
 have : (run P n an s).ks = [] := List.isEmpty_iff.1 hk
 unfold XK
 rw [this]
 exact rsM_fin (.inl rfl) he

def cQ (b : Bool) (P : Program) (n : Nat) (s : SS) : Option (Nat × List AV) := match s.ks with
 | .o ops l :: _ => (match callHd P n ops l s.fr with
  | some (g, avs) => some (g, avs.map (sfB b))
  | none => none)
 | _ => none

def ptS (n : Nat) (av : AV) (st' : St) (s : SS) : SS := match s with
 | ⟨.o ops (o :: l) :: k, fr, _, kn⟩ => fA av fun av => fS st' fun st' => putK n o.dst av fr (fun fr' => knK false o.dst kn fun kn' => ⟨.o ops l :: k, fr', st', kn'⟩) s
 | s => s
theorem ptS_eq {av : AV} {st' : St} {o : Oper} {k : List It} {kn : List Nat} : (∃ fr' kn', putF n o.dst av fr = some fr' ∧ ptS n av st' ⟨.o ops (o :: l) :: k, fr, st, kn⟩ = ⟨.o ops l :: k, fr', st', kn'⟩) ∨ ptS n av st' ⟨.o ops (o :: l) :: k, fr, st, kn⟩ = ⟨.o ops (o :: l) :: k, fr, st, kn⟩ := by
 simp only [ptS, fA_eq, fS_eq]
 rcases putK_or (n := n) o.dst av fr (fun fr' => knK false o.dst kn fun kn' => (⟨.o ops l :: k, fr', st', kn'⟩ : SS)) ⟨.o ops (o :: l) :: k, fr, st, kn⟩ with ⟨fr', hp, e⟩ | e
 ·obtain ⟨kn', ek⟩ := knK_ex false o.dst kn fun kn' => (⟨.o ops l :: k, fr', st', kn'⟩ : SS)
  exact .inl ⟨fr', kn', hp, by rw [e, ek]⟩
 ·exact .inr e

theorem XO.calmS (g : Nat) (avs avs0 : List AV) (sc sc' : St) (r : AV) (rs : List Nat) (fr' : Fr) (st' : St) (hc : callHd P n ops l fr = some (g, avs0)) (b : Bool) (hs : avs0.map (sfB b) = avs.map (rnA (rho rs st.length))) (h : MC P g avs sc r sc') (hb : calmB st.length rs sc sc' avs = true)
  (hst : rs.map (fun x => st[x]?) = sc.map (fun o => some (rnB (rho rs st.length) o))) (hst' : updAt st rs (sc'.map (rnB (rho rs st.length))) = st') (hput : putHd n l (rnA (rho rs st.length) r) fr = some fr')
  (hk : XO P n n0 loose ops (l.drop 1) Q fr' st') : XO P n n0 loose ops l Q fr st := by
 cases l with
 | nil => simp [callHd] at hc
 | cons o rest =>
  simp only [callHd] at hc
  split at hc
  ·rename_i hg
   intro ι w a hR hF
   obtain ⟨vs, hrun, hA⟩ := call_sound hc hF
   have hA := hA.soft b
   rw [hs] at hA
   have hw := guard_sound hg hF
   refine wpList_step fun K hK => ?_
   rw [if_pos hw]
   simp only [Oper.wp, hrun, Oper.upon]
   refine (h.use' rs (calmB_get hb) hst hR hA).mono ?_
   rintro e w' ⟨v, ι', rfl, hR', hv, k⟩
   rw [hst'] at hR' hv k
   exact hK _ _ (wpList_post (fun e a w h => h.trans (k.weaken (fun _ _ => trivial))) (hk ι' w' _ hR' (putF_rel hput (hF.mono' k) hv)))
  ·simp at hc

theorem uMc (b : Bool) (rs : List Nat) {o : Option α} {f : α → Option β} {g : Nat} {avs : List AV} {sc : St} {rv : α → AV} {nb : α → St} (c : CM P g avs sc o rv nb)
  (k : ∀ v, o = some v → GG P n n0 loose an r Q (f v) (ptS n (rnA (rho rs (run P n an s).st.length) (rv v)) (updAt (run P n an s).st rs ((nb v).map (rnB (rho rs (run P n an s).st.length)))) (run P n an s)))
  (h1 : cQ b P n (run P n an s) = some (g, avs.map (rnA (rho rs (run P n an s).st.length))) := by kernel_rfl) (h2 : ∀ v, calmB (run P n an s).st.length rs sc (nb v) avs = true := by intro v; kernel_rfl)
  (h3 : rs.map (fun x => (run P n an s).st[x]?) = sc.map (fun o => some (rnB (rho rs (run P n an s).st.length) o)) := by kernel_rfl) : GG P n n0 loose an r Q (bnd o f) s := by
 refine ⟨fun h => ?_⟩
 obtain ⟨v, ho, h⟩ := bnd_some h
 refine run_sound (an := an) ?_
 have k := k v ho h
 have h2 := h2 v
 generalize run P n an s = s' at *
 obtain ⟨ks, fr, st, kn⟩ := s'
 unfold cQ at h1
 split at h1
 ·rename_i ops l k' hk
  simp only at hk
  subst hk
  split at h1
  ·rename_i g' avs' hc
   simp only [Option.some.injEq, Prod.mk.injEq] at h1
   obtain ⟨rfl, h1⟩ := h1
   cases l with
   | nil => simp [callHd] at hc
   | cons o' l =>
    rcases ptS_eq (n := n) (av := rnA (rho rs st.length) (rv v)) (st' := updAt st rs ((nb v).map (rnB (rho rs st.length)))) (o := o') (ops := ops) (l := l) (fr := fr) (st := st) (k := k') (kn := kn) with ⟨fr', kn', hp, e⟩ | e
    ·rw [e] at k
     exact XO.calmS _ _ _ _ _ _ _ fr' _ hc b h1 (c v ho) h2 h3 rfl hp k
    ·rw [e] at k; exact k
  ·cases h1
 ·cases h1

/-! ### ranges over strings -/
def rgQ (P : Program) (s : SS) : Option ByteArray := match s.ks with
 | .o ops l :: _ => rngHd P ops l s.fr
 | _ => none
theorem uRg (t : ByteArray) (k : GG P n n0 loose an r Q T (ptS n (.one (.pt (run P n an s).st.length 0 0 0)) ((run P n an s).st ++ [.raw (.stringIter t 0)]) (run P n an s))) (he : rgQ P (run P n an s) = some t := by kernel_rfl) : GG P n n0 loose an r Q T s := by
 refine ⟨fun h => run_sound (an := an) ?_⟩
 have k := k h
 generalize run P n an s = s' at *
 obtain ⟨ks, fr, st, kn⟩ := s'
 unfold rgQ at he
 split at he
 ·rename_i ops l k' hk
  simp only at hk
  subst hk
  cases l with
  | nil => simp [rngHd] at he
  | cons o' l =>
   rcases ptS_eq (n := n) (av := .one (.pt st.length 0 0 0)) (st' := st ++ [.raw (.stringIter t 0)]) (o := o') (ops := ops) (l := l) (fr := fr) (st := st) (k := k') (kn := kn) with ⟨fr', kn', hp, e⟩ | e
   ·rw [e] at k
    exact XO.rng t fr' _ he hp rfl k
   ·rw [e] at k; exact k
 ·cases he

def nxQ (s : SS) : Option Nat := match s.ks with
 | .o ops l :: _ => nxtHd ops l s.fr
 | _ => none
theorem uNx (id : Nat) {t : ByteArray} {pos : Nat}
  (k1 : decide (pos < t.size) = true → GG P n n0 loose an r Q x (ptS n (.tp [.one (.pv (.s (.bool true))), .one (.pv (.s (.int .i64 (Int.ofNat pos)))), .one (.pv (.s (.int .i32 (Int.ofNat (Utf8.decode t pos).1))))]) ((run P n an s).st.set id (.raw (.stringIter t (pos + (Utf8.decode t pos).2)))) (run P n an s)))
  (k2 : decide (pos < t.size) = false → GG P n n0 loose an r Q y (ptS n (.tp [.one (.pv (.s (.bool false)))]) (run P n an s).st (run P n an s)))
  (he : nxQ (run P n an s) = some id := by kernel_rfl) (ho : (run P n an s).st[id]? = some (.raw (.stringIter t pos)) := by kernel_rfl) : GG P n n0 loose an r Q (ift (decide (pos < t.size)) x y) s := by
 refine ⟨fun h => run_sound (an := an) ?_⟩
 cases hp0 : decide (pos < t.size) with
 | true =>
  rw [hp0] at h
  have k := k1 hp0 h
  generalize run P n an s = s' at *
  obtain ⟨ks, fr, st, kn⟩ := s'
  unfold nxQ at he
  split at he
  ·rename_i ops l k' hk
   simp only at hk
   subst hk
   cases l with
   | nil => simp [nxtHd] at he
   | cons o' l =>
    rcases ptS_eq (n := n) (av := .tp [.one (.pv (.s (.bool true))), .one (.pv (.s (.int .i64 (Int.ofNat pos)))), .one (.pv (.s (.int .i32 (Int.ofNat (Utf8.decode t pos).1))))]) (st' := st.set id (.raw (.stringIter t (pos + (Utf8.decode t pos).2)))) (o := o') (ops := ops) (l := l) (fr := fr) (st := st) (k := k') (kn := kn) with ⟨fr', kn', hp, e⟩ | e
    ·rw [e] at k
     exact XO.nxt id t pos fr' _ he ho hp rfl hp0 k
    ·rw [e] at k; exact k
  ·cases he
 | false =>
  rw [hp0] at h
  have k := k2 hp0 h
  generalize run P n an s = s' at *
  obtain ⟨ks, fr, st, kn⟩ := s'
  unfold nxQ at he
  split at he
  ·rename_i ops l k' hk
   simp only at hk
   subst hk
   cases l with
   | nil => simp [nxtHd] at he
   | cons o' l =>
    rcases ptS_eq (n := n) (av := .tp [.one (.pv (.s (.bool false)))]) (st' := st) (o := o') (ops := ops) (l := l) (fr := fr) (st := st) (k := k') (kn := kn) with ⟨fr', kn', hp, e⟩ | e
    ·rw [e] at k
     exact XO.nxtE id t pos fr' he ho hp hp0 k
    ·rw [e] at k; exact k
  ·cases he
end
set_option linter.unusedVariables false
set_option linter.unusedSimpArgs false

section
variable {P : Program} {n n0 : Nat} {loose an : List Nat} {Q Q1 : QT} {α β : Type} {T x y : Option β} {r : β} {s : SS} {fr : Fr} {st : St} {ops : Array Oper} {l : List Oper}

/-! ### objects that are no longer written, in boxes too -/
inductive BF (st : St) (q : Nat → Bool) : Body → Body → Prop where
 | same (o : Body) (h : bodyIds q o = true) : BF st q o o
 | box {cells cells' : List CV} (h : LF st q cells cells') : BF st q (.box cells) (.box cells')

structure SubF (q : Nat → Bool) (st st' : St) : Prop where
 old : ∀ (id : Nat) o', st'[id]? = some o' → o' = .dead ∨ (q id = true ∧ ∃ o, st[id]? = some o ∧ BF st q o o')
 keep : ∀ id, q id = true → id < st.length → id < st'.length

theorem BF.alive {q : Nat → Bool} {o o' : Body} (h : BF st q o o') (ha : o'.alive) : o.alive := by
 cases h with
 | same => exact ha
 | box => simp [Body.alive]

theorem SubF.own {q : Nat → Bool} {st' : St} (h : SubF q st st') {ι : IM} {b : Nat} (ho : Own ι st' b) : ∃ id o, q id = true ∧ st[id]? = some o ∧ o.alive ∧ ι id = some b := by
 obtain ⟨id, o, h1, h2, h3⟩ := ho
 rcases h.old id o h1 with rfl | ⟨h4, o0, h5, h6⟩
 ·exact absurd rfl h2
 ·exact ⟨id, o0, h4, h5, h6.alive h2, h3⟩

theorem SubF.keeps {q : Nat → Bool} {st' : St} (h : SubF q st st') {ι : IM} {w : World} : Keeps (fun id => q id = true) ι w st ι w st' :=
 ⟨rfl, rfl, rfl, Nat.le_refl _, rfl, fun b _ hm => ⟨rfl, fun ho => by
  obtain ⟨id, o, _, h2, h3, h4⟩ := h.own ho
  exact hm ⟨id, o, h2, h3, h4⟩⟩, fun id hq hid => ⟨h.keep id hq hid, rfl⟩, fun _ c _ _ h => ⟨c, h, rfl⟩⟩

theorem VRel.fzF {q : Nat → Bool} {st' : St} {ι : IM} {w : World} (r : Rel ι w st) (hs : SubF q st st') {v : Value} {c c' : CV} (h : VRel ι w st v c) (hf : CF st q c c') : VRel ι w st' v c' := by
 have k := hs.keeps (ι := ι) (w := w)
 cases hf with
 | rfl _ hc => exact h.mono k (q := q) (fun _ h _ => h) hc
 | nl =>
  have := scalar_of (AVRel.one _ _ h)
  subst this
  exact .pv _ _ .nl
 | pt hid hq => exact h.boxed r (fun b => hs.own) (fun _ _ => k.pure) hid hq
 | fnp hid hq => exact h.boxfn r (fun b => hs.own) (fun _ _ => k.pure) hid hq
 | @sl id sz off len els els' ho hq hl he =>
  subst he
  have hlen : ((els.drop off).take len).length = len := by simp; omega
  cases h with
  | sn _ _ hid hb =>
   have : (els.drop 0).take 0 = [] := by simp
   rw [this]
   exact .pv _ _ .nl
  | sl _ _ _ _ b cap hid hb hcap hc =>
   rcases r.obj id _ ho with ⟨e1, _⟩ | ⟨b', c, ty, e1, e2, hcs, hsz, hcell⟩
   ·rw [hb] at e1; cases e1
   ·rw [hb] at e1; cases e1
    have hown : Own ι st b := ⟨id, _, ho, by simp [Body.alive], hb⟩
    have := PRel.ro (μ := Mut ι st') (w := w) ⟨b, off * sz, none⟩ cap sz ((els.drop off).take len) (fun i j => c.getD ((off + i) * sz + j) undef) (by rw [hlen]; exact hcap)
     (fun e he => hsz e (List.mem_of_mem_drop (List.mem_of_mem_take he)))
     (fun _ => ⟨lt_of_some e2, fun hm => by
      rcases hm with hm | hm
      ·exact r.dis b hown hm
      ·obtain ⟨id', o', hq', h5, h6, h7⟩ := hs.own hm
       have := r.inj id id' _ o' b ho h5 (by simp [Body.alive]) h6 hb h7
       subst this
       rw [hq] at hq'; cases hq'⟩)
     (fun i e j p h1 h2 => by
      rw [List.getElem?_take] at h1
      split at h1
      ·rw [List.getElem?_drop] at h1
       obtain ⟨u, a1, a2⟩ := hcell _ e j p h1 h2
       rw [add_lit, cell_lit e2]
       rw [show off * sz + (i * sz + j) = (off + i) * sz + j by rw [Nat.add_mul]; omega, a1]
       simp [a1]
      ·cases h1)
     (fun i e j p h1 h2 => by
      rw [List.getElem?_take] at h1
      split at h1
      ·rw [List.getElem?_drop] at h1
       obtain ⟨u, a1, a2⟩ := hcell _ e j p h1 h2
       have : c.getD ((off + i) * sz + j) undef = u := by simp [a1]
       rw [this]
       exact k.pure a2
      ·cases h1)
    rw [hlen] at this
    exact .pv _ _ this

theorem LRel.fzF {q : Nat → Bool} {st' : St} {ι : IM} {w : World} (r : Rel ι w st) (hs : SubF q st st') {cs cs' : List CV} (hf : LF st q cs cs') : ∀ {vs : List Value}, LRel ι w st vs cs → LRel ι w st' vs cs' := by
 induction hf with
 | nil => exact fun h => ⟨h.1, fun j v c h1 h2 => by simp at h2⟩
 | @cons c c' l l' hc hk ih =>
  intro vs hL
  match vs, hL with
  | [], hL => have := hL.1; simp at this
  | u :: us, hL =>
   have h0 := hL.2 0 u c rfl rfl
   have ht := ih (vs := us) ⟨by have := hL.1; simpa using this, fun j v c h1 h2 => hL.2 (j + 1) v c (by simpa using h1) (by simpa using h2)⟩
   refine ⟨by simp [ht.1], fun j v c h1 h2 => ?_⟩
   cases j with
   | zero => simp at h1 h2; subst h1; subst h2; exact h0.fzF r hs hc
   | succ j => exact ht.2 j v c (by simpa using h1) (by simpa using h2)

theorem AVRel.fzF {q : Nat → Bool} {st' : St} {ι : IM} {w : World} (r : Rel ι w st) (hs : SubF q st st') {v : Value} {a a' : AV} (h : AVRel ι w st v a) (hf : AF st q a a') : AVRel ι w st' v a' := by
 induction hf generalizing v with
 | j a => exact .j _
 | one hc => exact .one _ _ ((cv_of h).fzF r hs hc)
 | @ag cs cs' hl =>
  obtain ⟨vs, rfl, hL⟩ := ag_of h
  exact .ag _ _ (hL.fzF r hs hl)
 | tp0 =>
  cases h with
  | tp vs _ hl h => exact .tp _ _ hl (fun j v a h1 h2 => by simp at h2)
 | @tpc a a' l l' ha hk ih1 ih2 =>
  cases h with
  | tp vs _ hl h =>
   match vs, hl with
   | [], hl => simp at hl
   | u :: us, hl =>
    have h0 := ih1 (h 0 u a rfl rfl)
    have ht := ih2 (.tp us l (by simpa using hl) (fun j v c h1 h2 => h (j + 1) v c (by simpa using h1) (by simpa using h2)))
    generalize hx : Value.tuple us.toArray = xv at ht
    generalize hy : AV.tp l' = ya at ht
    cases ht with
    | tp vs2 as2 hl2 h2 =>
     cases hy
     have : us = vs2 := by
      have := congrArg (fun v : Value => match v with | .tuple a => a.toList | _ => []) hx
      simpa using this
     subst this
     refine .tp _ _ (by simp [hl2]) (fun j v c h1 h3 => ?_)
     cases j with
     | zero => simp at h1 h3; subst h1; subst h3; exact h0
     | succ j => exact h2 j v c (by simpa using h1) (by simpa using h3)
    | _ => cases hy

theorem Rel.frz {q : Nat → Bool} {st' : St} {ι : IM} {w : World} (r : Rel ι w st) (h : SubF q st st') : Rel ι w st' := by
 have k := h.keeps (ι := ι) (w := w)
 refine ⟨fun id o ho => ?_, r.amb, fun b ho => ?_, fun id id' o o' b h1 h2 a1 a2 e1 e2 => ?_, r.glk k⟩
 ·rcases h.old id o ho with rfl | ⟨hq, o0, ho', hbf⟩
  ·trivial
  ·have := r.obj id o0 ho'
   cases hbf with
   | box hl =>
    obtain ⟨b', vs, ty, e', hb', hL⟩ := this
    exact ⟨b', vs, ty, e', hb', hL.fzF r h hl⟩
   | same _ hb =>
    cases o with
    | dead => trivial
    | box cells =>
     obtain ⟨b', vs, ty, e', hb', hl⟩ := this
     exact ⟨b', vs, ty, e', hb', hl.mono k (q := q) (fun _ h _ => h) hb⟩
    | rel Rm ps =>
     obtain ⟨b', ob, vs0, e', hb', hr0, hl0⟩ := this
     exact ⟨b', ob, vs0, e', hb', hr0, hl0.map fun _ _ h0 => k.pure h0⟩
    | arr sz els =>
     rcases this with ⟨e', he⟩ | ⟨b', c, ty, e', hb', h1, h2, h3⟩
     ·exact .inl ⟨e', he⟩
     ·refine .inr ⟨b', c, ty, e', hb', h1, h2, fun i e' j cv a1 a2 => ?_⟩
      obtain ⟨v, hv, hr⟩ := h3 i e' j cv a1 a2
      exact ⟨v, hv, k.pure hr⟩
 ·obtain ⟨id, o, _, h2, h3, h4⟩ := h.own ho
  exact r.dis b ⟨id, o, h2, h3, h4⟩
 ·rcases h.old id o h1 with rfl | ⟨_, o0, h5, q1⟩
  ·exact absurd rfl a1
  rcases h.old id' o' h2 with rfl | ⟨_, o1, h6, q2⟩
  ·exact absurd rfl a2
  exact r.inj id id' o0 o1 b h5 h6 (q1.alive a1) (q2.alive a2) e1 e2

theorem Sub.frz {q : Nat → Bool} {fr' : Fr} {st' : St} (h : SubF q st st') (hf : ∀ t, AF st q (lk fr t) (lk fr' t)) (hq : ∀ id, fixB n0 loose id = true → q id = true) : Sub n n0 loose fr st fr' st' :=
 fun ι w a hR hF => ⟨ι, hR.frz h, ⟨hF.defers, hF.size, fun t => (hF.slot t).fzF hR h (hf t)⟩, h.keeps.weaken hq⟩

/-! ### a list of our own is no longer written -/
def klC (id : Nat) (els : List (List PV)) : CV → CV
 | .sl i sz off len => bif Nat.beq i id then .pv (.ro els) else .sl i sz off len
 | c => c
def klL (id : Nat) (els : List (List PV)) : List CV → List CV
 | [] => []
 | c :: l => klC id els c :: klL id els l
def klA (id : Nat) (els : List (List PV)) : AV → AV
 | .one c => .one (klC id els c)
 | .ag l => .ag (klL id els l)
 | a => a
def slC (id : Nat) : CV → List (Nat × Nat × Nat)
 | .sl i sz off len => bif Nat.beq i id then [(sz, off, len)] else []
 | _ => []
def slL (id : Nat) : List CV → List (Nat × Nat × Nat)
 | [] => []
 | c :: l => slC id c ++ slL id l
def slA (id : Nat) : AV → List (Nat × Nat × Nat)
 | .one c => slC id c
 | .ag l => slL id l
 | _ => []
def klB (id : Nat) (els : List (List PV)) : Body → Body
 | .box l => .box (klL id els l)
 | b => b
def slB (id : Nat) : Body → List (Nat × Nat × Nat)
 | .box l => slL id l
 | _ => []
def klSt (id : Nat) (els : List (List PV)) : Nat → St → St
 | _, [] => []
 | i, b :: l => (bif Nat.beq i id then .dead else klB id els b) :: klSt id els (i + 1) l
def slSt (id : Nat) : St → List (Nat × Nat × Nat)
 | [] => []
 | b :: l => slB id b ++ slSt id l

def nId (id : Nat) : Nat → Bool := fun i => !Nat.beq i id

def okC (id : Nat) (c : CV) : Bool := match c with
 | .sl .. => true
 | c => idsC (nId id) c
def okL (id : Nat) : List CV → Bool
 | [] => true
 | c :: l => okC id c && okL id l
def okA (id : Nat) : AV → Bool
 | .one c => okC id c
 | .ag l => okL id l
 | a => idsA (nId id) a
def okB (id : Nat) : Body → Bool
 | .box l => okL id l
 | _ => true

theorem slC_mem {E : Enc α} {xs : List α} {id : Nat} {L : List (Nat × Nat × Nat)} (h : ∀ p ∈ L, p = (E.sz, 0, xs.length)) {st : St} (hid : st[id]? = some (.arr E.sz (E.els xs))) {c : CV} (hc : ∀ p ∈ slC id c, p ∈ L) (ho : okC id c = true) : CF st (nId id) c (klC id (E.els xs) c) := by
 cases c with
 | sl i sz off len =>
  cases hb : Nat.beq i id with
  | true =>
   have := Nat.eq_of_beq_eq_true hb
   subst this
   have hp := h _ (hc (sz, off, len) (by simp [slC]))
   simp only [Prod.mk.injEq] at hp
   obtain ⟨rfl, rfl, rfl⟩ := hp
   simp only [klC, hb, cond_true]
   exact cf_sl E xs hid (by simp [nId]) rfl
  | false =>
   simp only [klC, hb, cond_false]
   exact .rfl _ (by simp [idsC, nId, hb])
 | _ => exact .rfl _ ho

theorem slL_lf {E : Enc α} {xs : List α} {id : Nat} {L : List (Nat × Nat × Nat)} (h : ∀ p ∈ L, p = (E.sz, 0, xs.length)) {st : St} (hid : st[id]? = some (.arr E.sz (E.els xs))) : ∀ {l : List CV}, (∀ p ∈ slL id l, p ∈ L) → okL id l = true → LF st (nId id) l (klL id (E.els xs) l)
 | [], _, _ => .nil
 | c :: l, hc, ho => by
  simp only [okL, Bool.and_eq_true] at ho
  exact .cons (slC_mem h hid (fun p hp => hc p (by simp [slL, hp])) ho.1) (slL_lf h hid (fun p hp => hc p (by simp [slL, hp])) ho.2)

theorem slA_af {E : Enc α} {xs : List α} {id : Nat} {L : List (Nat × Nat × Nat)} (h : ∀ p ∈ L, p = (E.sz, 0, xs.length)) {st : St} (hid : st[id]? = some (.arr E.sz (E.els xs))) {a : AV} (hc : ∀ p ∈ slA id a, p ∈ L) (ho : okA id a = true) : AF st (nId id) a (klA id (E.els xs) a) := by
 cases a with
 | one c => exact .one (slC_mem h hid hc ho)
 | ag l => exact .ag (slL_lf h hid hc ho)
 | _ => exact AF.same ho

theorem klSt_get (id : Nat) (els : List (List PV)) : ∀ (st : St) (i j : Nat), (klSt id els i st)[j]? = (st[j]?).map fun b => bif Nat.beq (i + j) id then Body.dead else klB id els b
 | [], i, j => by simp [klSt]
 | b :: l, i, 0 => by simp [klSt]
 | b :: l, i, j + 1 => by simp only [klSt, List.getElem?_cons_succ]; rw [klSt_get id els l (i + 1) j, show i + 1 + j = i + (j + 1) by omega]

theorem slSt_get {id : Nat} : ∀ {st : St} {j : Nat} {b : Body}, st[j]? = some b → ∀ p ∈ slB id b, p ∈ slSt id st
 | [], j, b, h, p, hp => by simp at h
 | x :: l, 0, b, h, p, hp => by simp at h; subst h; simp [slSt, hp]
 | x :: l, j + 1, b, h, p, hp => by simp only [slSt, List.mem_append]; exact .inr (slSt_get (by simpa using h) p hp)

def klFr (id : Nat) (els : List (List PV)) (fr : Fr) : List Nat → Fr
 | [] => keepF (nId id) fr
 | t :: ts => (t, klA id els (lk fr t)) :: klFr id els fr ts
def slFr (id : Nat) (fr : Fr) : List Nat → List (Nat × Nat × Nat)
 | [] => []
 | t :: ts => slA id (lk fr t) ++ slFr id fr ts
def okFr (id : Nat) (fr : Fr) : List Nat → Bool
 | [] => true
 | t :: ts => okA id (lk fr t) && okFr id fr ts

theorem klFr_af {E : Enc α} {xs : List α} {id : Nat} {L : List (Nat × Nat × Nat)} (h : ∀ p ∈ L, p = (E.sz, 0, xs.length)) {st : St} (hid : st[id]? = some (.arr E.sz (E.els xs))) : ∀ {ts : List Nat}, (∀ p ∈ slFr id fr ts, p ∈ L) → okFr id fr ts = true → ∀ t, AF st (nId id) (lk fr t) (lk (klFr id (E.els xs) fr ts) t)
 | [], _, _, t => by
  simp only [klFr]
  rw [lk_keepF]
  cases hi : idsA (nId id) (lk fr t) with
  | false => exact .j _
  | true => exact AF.same hi
 | u :: ts, hc, ho, t => by
  simp only [okFr, Bool.and_eq_true] at ho
  simp only [klFr, lk]
  cases hb : Nat.beq u t with
  | true =>
   have := Nat.eq_of_beq_eq_true hb
   subst this
   exact slA_af h hid (fun p hp => hc p (by simp [slFr, hp])) ho.1
  | false => exact klFr_af h hid (fun p hp => hc p (by simp [slFr, hp])) ho.2 t

def killQ (n0 : Nat) (loose : List Nat) (id : Nat) (ts : List Nat) (s : SS) : Option (Nat × List (List PV) × List (Nat × Nat × Nat)) :=
 match s.st[id]? with
 | some (.arr sz els) => bif !fixB n0 loose id && (okFr id s.fr ts && s.st.all (okB id)) then some (sz, els, slFr id s.fr ts ++ slSt id s.st) else none
 | _ => none
def killS (id : Nat) (els : List (List PV)) (ts : List Nat) (s : SS) : SS := match s with
 | ⟨ks, fr, st, kn⟩ => fF (klFr id els fr ts) fun fr => fS (klSt id els 0 st) fun st => ⟨ks, fr, st, kn⟩

theorem kill_sub {E : Enc α} {xs : List α} {id : Nat} {ts : List Nat} {L : List (Nat × Nat × Nat)} (he : killQ n0 loose id ts s = some (E.sz, E.els xs, L)) (hL : ∀ p ∈ L, p = (E.sz, 0, xs.length)) :
  Sub n n0 loose s.fr s.st (killS id (E.els xs) ts s).fr (killS id (E.els xs) ts s).st := by
 unfold killQ at he
 split at he
 ·rename_i sz els hid
  cases hb : !fixB n0 loose id && (okFr id s.fr ts && s.st.all (okB id)) with
  | false => simp [hb] at he
  | true =>
   simp only [hb, cond_true, Option.some.injEq, Prod.mk.injEq] at he
   obtain ⟨rfl, rfl, rfl⟩ := he
   simp only [Bool.and_eq_true] at hb
   obtain ⟨h1, h2, h3⟩ := hb
   obtain ⟨ks, fr, st, kn⟩ := s
   simp only [killS, fF_eq, fS_eq]
   simp only at hid h2 h3 hL
   refine Sub.frz (q := nId id) ⟨fun i o' ho => ?_, fun i hq hi => ?_⟩ (klFr_af hL hid (fun p hp => by simp [hp]) h2) (fun i hi => ?_)
   ·rw [klSt_get, Nat.zero_add, Option.map_eq_some_iff] at ho
    obtain ⟨b, hb, e⟩ := ho
    cases hbi : Nat.beq i id with
    | true => simp only [hbi, cond_true] at e; exact .inl e.symm
    | false =>
     simp only [hbi, cond_false] at e
     refine .inr ⟨by simp [nId, hbi], b, hb, ?_⟩
     subst e
     have hok := List.all_eq_true.1 h3 b (List.mem_of_getElem? hb)
     cases b with
     | box l => exact .box (slL_lf hL hid (fun p hp => by simp only [List.mem_append]; exact .inr (slSt_get hb p hp)) hok)
     | _ => exact .same _ rfl
   ·have : (klSt id (E.els xs) 0 st)[i]? ≠ none := by
     rw [klSt_get]
     simp [hi]
    simp only [ne_eq, List.getElem?_eq_none_iff] at this
    omega
   ·have : i ≠ id := by
     rintro rfl
     rw [hi] at h1; cases h1
    simp only [nId, beq_false this, Bool.not_false]
 ·cases he

theorem killS_ks {id : Nat} {els : List (List PV)} {ts : List Nat} : (killS id els ts s).ks = s.ks := by
 obtain ⟨ks, fr, st, kn⟩ := s
 simp only [killS, fF_eq, fS_eq]

def allT {γ : Type} (y : γ) (l : List γ) : List γ := l.map fun _ => y
theorem allT_eq {γ : Type} {y : γ} {l : List γ} (h : l = allT y l) : ∀ p ∈ l, p = y := by
 intro p hp
 rw [h] at hp
 simp only [allT, List.mem_map] at hp
 obtain ⟨_, _, e⟩ := hp
 exact e.symm

def killL (n0 : Nat) (loose : List Nat) (id : Nat) (ts : List Nat) (s : SS) : List (Nat × Nat × Nat) := match killQ n0 loose id ts s with
 | some (_, _, L) => L
 | none => []

theorem uKl (E : Enc α) (xs : List α) (id : Nat) (ts : List Nat) (k : GG P n n0 loose an r Q T (killS id (E.els xs) ts (run P n an s))) (he : killQ n0 loose id ts (run P n an s) = some (E.sz, E.els xs, allT (E.sz, 0, xs.length) (killL n0 loose id ts (run P n an s))) := by kernel_rfl)
  (ht : topOk (run P n an s).ks = true := by kernel_rfl) : GG P n n0 loose an r Q T s := by
 refine ⟨fun h => run_sound (an := an) ?_⟩
 have hL := he
 have e : killL n0 loose id ts (run P n an s) = allT (E.sz, 0, xs.length) (killL n0 loose id ts (run P n an s)) := by
  conv => lhs; unfold killL; rw [he]
 have hs := kill_sub (n := n) (loose := loose) he (by rw [← e]; exact allT_eq e)
 have k := k h
 refine QK.sub ht hs ?_
 have : XK P n n0 loose Q (killS id (E.els xs) ts (run P n an s)) := k
 unfold XK at this
 rw [killS_ks] at this
 exact this

theorem uKlj {K : KP n n0 loose} (E : Enc α) (xs : List α) (id : Nat) (ts : List Nat) (k : GG P n n0 loose an r (thenQ K.p Q1) T (killS id (E.els xs) ts (run P n an s))) (he : killQ n0 loose id ts (run P n an s) = some (E.sz, E.els xs, allT (E.sz, 0, xs.length) (killL n0 loose id ts (run P n an s))) := by kernel_rfl)
  (ht : (run P n an s).ks.isEmpty = true := by kernel_rfl) : GG P n n0 loose an r (thenQ K.p Q1) T s := by
 refine ⟨fun h => run_sound (an := an) ?_⟩
 have e : killL n0 loose id ts (run P n an s) = allT (E.sz, 0, xs.length) (killL n0 loose id ts (run P n an s)) := by
  conv => lhs; unfold killL; rw [he]
 have hs := kill_sub (n := n) (loose := loose) he (by rw [← e]; exact allT_eq e)
 have k := k h
 have hk : (run P n an s).ks = [] := List.isEmpty_iff.1 ht
 unfold XK at k ⊢
 rw [killS_ks] at k
 rw [hk] at k ⊢
 exact K.cl hs k

/-! ### a box of our own is no longer written -/
def pvs : List CV → List PV
 | .pv p :: l => p :: pvs l
 | _ => []
def bzC (id : Nat) (ps : List PV) : CV → CV
 | .pt i sz k off => bif Nat.beq i id then .pv (.rp [ps] k off) else .pt i sz k off
 | .fn f [.pt i sz k off] => bif Nat.beq i id then .fn f [.pv (.rp [ps] k off)] else .fn f [.pt i sz k off]
 | c => c
def bzA (id : Nat) (ps : List PV) : AV → AV
 | .one c => .one (bzC id ps c)
 | a => a
def bzP (id : Nat) (s : SS) : List PV := match s.st[id]? with
 | some (.box cells) => pvs cells
 | _ => []
/-! ### other ways to see the same -/
inductive Cv where
 | li (t sz : Nat)
 | sf (t : Nat)
 | lb (bx j sz : Nat)
 | sb (bx j : Nat)
 | stl (bx j : Nat)
 | sw (a b : Nat)
 | dd (k : Nat)

def doCv (n0 : Nat) (loose : List Nat) (c : Cv) (fr : Fr) (st : St) : Option (Fr × St) := match c with
 | .li t sz => (match lk fr t with
  | .one (.pv (.s (.slice none 0 0))) => some ((t, .one (.sl st.length sz 0 0)) :: fr, st ++ [.arr sz []])
  | _ => none)
 | .sf t => some ((t, sfA (lk fr t)) :: fr, st)
 | .lb bx j sz => (match st[bx]? with
  | some (.box cells) => (match cells[j]? with
   | some (.pv (.s (.slice none 0 0))) => some (fr, (st ++ [Body.arr sz []]).set bx (.box (cells.set j (.sl st.length sz 0 0))))
   | _ => none)
  | _ => none)
 | .sb bx j => (match st[bx]? with
  | some (.box cells) => (match cells[j]? with
   | some (.pv (.s (.slice none 0 0))) => some (fr, st.set bx (.box (cells.set j (.pv (.ro [])))))
   | _ => none)
  | _ => none)
 | .stl bx j => (match st[bx]? with
  | some (.box cells) => (match cells[j]? with
   | some (.sl id sz off len) => some (fr, (st ++ [Body.dead]).set bx (.box (cells.set j (.sl st.length sz off len))))
   | _ => none)
  | _ => none)
 | .dd k => some (fr, st ++ List.replicate k .dead)
 | .sw a b => bif (Nat.ble (a + 1) st.length && Nat.ble (b + 1) st.length) && !(fixB n0 loose a || fixB n0 loose b) then some (swpFr a b fr, swpSt a b st) else none

theorem doCv_sub {c : Cv} {fr' : Fr} {st' : St} (h : doCv n0 loose c fr st = some (fr', st')) : Sub n n0 loose fr st fr' st' := by
 unfold doCv at h
 cases c with
 | li t sz =>
  simp only at h
  split at h
  ·rename_i hl
   simp only [Option.some.injEq, Prod.mk.injEq] at h
   obtain ⟨rfl, rfl⟩ := h
   exact Sub.list hl
  ·cases h
 | sf t =>
  simp only [Option.some.injEq, Prod.mk.injEq] at h
  obtain ⟨rfl, rfl⟩ := h
  intro ι w a hR hF
  refine ⟨ι, hR, ⟨hF.defers, hF.size, fun t' => ?_⟩, .refl⟩
  simp only [lk]
  cases hb : Nat.beq t t' with
  | true =>
   have := Nat.eq_of_beq_eq_true hb
   subst this
   exact (hF.slot t).le (sfA_le _)
  | false => exact hF.slot t'
 | lb bx j sz =>
  simp only at h
  split at h
  ·rename_i cells hb
   split at h
   ·rename_i hj
    simp only [Option.some.injEq, Prod.mk.injEq] at h
    obtain ⟨rfl, rfl⟩ := h
    exact Sub.listb bx j sz cells hb hj _ rfl
   ·cases h
  ·cases h
 | sb bx j =>
  simp only at h
  split at h
  ·rename_i cells hb
   split at h
   ·rename_i hj
    simp only [Option.some.injEq, Prod.mk.injEq] at h
    obtain ⟨rfl, rfl⟩ := h
    exact Sub.softb bx j cells hb hj _ rfl
   ·cases h
  ·cases h
 | stl bx j =>
  simp only at h
  split at h
  ·rename_i cells hb
   split at h
   ·rename_i id sz off len hj
    simp only [Option.some.injEq, Prod.mk.injEq] at h
    obtain ⟨rfl, rfl⟩ := h
    exact Sub.stale bx j id sz off len cells hb hj _ rfl
   ·cases h
  ·cases h
 | dd k =>
  simp only [Option.some.injEq, Prod.mk.injEq] at h
  obtain ⟨rfl, rfl⟩ := h
  exact Sub.dead k
 | sw a b =>
  simp only at h
  cases hb : (Nat.ble (a + 1) st.length && Nat.ble (b + 1) st.length) && !(fixB n0 loose a || fixB n0 loose b) with
  | false => rw [hb] at h; cases h
  | true =>
   rw [hb] at h
   simp only [cond_true, Option.some.injEq, Prod.mk.injEq] at h
   obtain ⟨rfl, rfl⟩ := h
   simp only [Bool.and_eq_true, Bool.not_eq_true'] at hb
   exact Sub.swap a b _ _ (by simp only [Bool.and_eq_true]; exact hb.1) hb.2 rfl rfl

def cvS (n0 : Nat) (loose : List Nat) (c : Cv) (s : SS) : SS := match s with
 | ⟨ks, fr, st, kn⟩ => match doCv n0 loose c fr st with
  | some (fr', st') => fF fr' fun fr' => fS st' fun st' => ⟨ks, fr', st', kn⟩
  | none => ⟨ks, fr, st, kn⟩
theorem cvS_or (c : Cv) (s : SS) : (cvS n0 loose c s).ks = s.ks ∧ Sub n n0 loose s.fr s.st (cvS n0 loose c s).fr (cvS n0 loose c s).st := by
 obtain ⟨ks, fr, st, kn⟩ := s
 unfold cvS
 simp only
 cases hd : doCv n0 loose c fr st with
 | none => exact ⟨rfl, fun ι w a hR hF => ⟨ι, hR, hF, .refl⟩⟩
 | some p =>
  obtain ⟨fr', st'⟩ := p
  simp only [fF_eq, fS_eq]
  exact ⟨trivial, doCv_sub hd⟩

theorem uCv (c : Cv) (k : GG P n n0 loose an r Q T (cvS n0 loose c (run P n an s))) (ht : topOk (run P n an s).ks = true := by kernel_rfl) : GG P n n0 loose an r Q T s := by
 refine ⟨fun h => run_sound (an := an) ?_⟩
 have k := k h
 obtain ⟨e, hs⟩ := cvS_or (n := n) (n0 := n0) (loose := loose) c (run P n an s)
 unfold XK at k
 rw [e] at k
 exact QK.sub ht hs k
theorem uCvj {K : KP n n0 loose} (c : Cv) (k : GG P n n0 loose an r (thenQ K.p Q1) T (cvS n0 loose c (run P n an s))) (ht : (run P n an s).ks.isEmpty = true := by kernel_rfl) : GG P n n0 loose an r (thenQ K.p Q1) T s := by
 refine ⟨fun h => run_sound (an := an) ?_⟩
 have k := k h
 obtain ⟨e, hs⟩ := cvS_or (n := n) (n0 := n0) (loose := loose) c (run P n an s)
 have hk : (run P n an s).ks = [] := List.isEmpty_iff.1 ht
 unfold XK at k ⊢
 rw [e] at k
 rw [hk] at k ⊢
 exact K.cl hs k
end
set_option linter.unusedVariables false
set_option linter.unusedSimpArgs false

section
variable {P : Program} {n n0 : Nat} {loose an : List Nat} {Q Q1 : QT} {α β : Type} {T x y : Option β} {r : β} {s : SS} {fr : Fr} {st : St} {ops : Array Oper} {l : List Oper}

def gTW (X : List Nat) (ops : Array Oper) (o : Oper) (fr : Fr) (st : St) (mv : Option Nat) : List Nat × List Nat := match mv with
 | none => (extT X (tchOf ops o fr), tchOf ops o fr ++ [])
 | some id => (match st[id]? with
  | some .dead => (extT X (id :: tchOf ops o fr), (id :: tchOf ops o fr) ++ [id + 1000])
  | _ => (extT X (tchOf ops o fr), tchOf ops o fr ++ [id + 1000]))
def aliveO (st : St) (mv : Option Nat) : Bool := match mv with
 | none => true
 | some id => (match st[id]? with
  | some .dead => false
  | _ => true)
def dN (o : Oper) : Nat := match o.dst with
 | some d => d + 1
 | none => 0
def evGX (P : Program) (an X : List Nat) (ops : Array Oper) (o : Oper) (fr : Fr) (st : St) (hs : HS) : Option Out :=
 match ev P (isMu an o) o (looksR ops o fr) (maskF (inL (tchOf ops o fr)) 0 st) hs with
 | some out => bif Nat.beq out.st.length st.length then
   bif (!isMu an o && wOk (dN o) ops X o fr st (tchOf ops o fr) out) && (qOk st (tchOf ops o fr) && aliveO st out.mv) then some ⟨out.av, ovl (inL (tchOf ops o fr)) 0 st out.st, out.ob, out.hs, out.mv⟩ else none
  else (match fstD X st, out.st.drop st.length with
   | some id, [b] => bif nOk (dN o) ops X id o fr st (tchOf ops o fr) out b && qOk st (id :: tchOf ops o fr) then some ⟨rnA (rhoR st.length id) out.av, (ovl (inL (tchOf ops o fr)) 0 st (out.st.take st.length)).set id b, out.ob, out.hs, some id⟩ else none
   | _, _ => none)
 | none => none
theorem dstOk_dN {o : Oper} (h : ∀ d, o.dst = some d → d < n) : dstOk n o = true := by
 unfold dstOk
 cases hd : o.dst with
 | none => rfl
 | some d => exact Nat.ble_eq_true_of_le (h d hd)
theorem wOk_n {X T : List Nat} {o : Oper} {out : Out} (h : wOk (dN o) ops X o fr st T out = true) (hd : dstOk n o = true) : wOk n ops X o fr st T out = true := by
 unfold wOk at h ⊢
 simp only [Bool.and_eq_true] at h ⊢
 exact ⟨⟨⟨hd, h.1.1.2⟩, h.1.2⟩, h.2⟩
theorem nOk_n {X T : List Nat} {id : Nat} {o : Oper} {out : Out} {b : Body} (h : nOk (dN o) ops X id o fr st T out b = true) (hd : dstOk n o = true) : nOk n ops X id o fr st T out b = true := by
 unfold nOk at h ⊢
 simp only [Bool.and_eq_true] at h ⊢
 exact ⟨⟨⟨⟨⟨hd, h.1.1.1.1.2⟩, h.1.1.1.2⟩, h.1.1.2⟩, h.1.2⟩, h.2⟩
theorem inL_one (m : Nat) : (fun id => !inL [m] id) = stays (some m) := by funext id; simp [inL, stays]

def evH (P : Program) (an : List Nat) (hs : HS) (s : SS) : Option Out := match s.ks with
 | .g X ops (o :: _) _ :: _ => (match gOk ops s.kn o (looksR ops o s.fr) with
  | some true => evGX P an X ops o s.fr s.st hs
  | _ => none)
 | .o ops (o :: _) :: _ => (match gOk ops s.kn o s.fr with
  | some true => ev P (isMu an o) o s.fr s.st hs
  | _ => none)
 | _ => none

def keepK {β : Type} (q : Nat → Bool) : Fr → (Fr → β) → β
 | [], K => K []
 | (d, av) :: fr, K => match idsA q av with
  | true => keepK q fr fun fr => K ((d, av) :: fr)
  | false => keepK q fr fun fr => K ((d, .j) :: fr)
theorem keepK_eq {β : Type} (q : Nat → Bool) : ∀ (fr : Fr) (K : Fr → β), keepK q fr K = K (keepF q fr)
 | [], K => rfl
 | (d, av) :: fr, K => by
  simp only [keepK, keepF]
  cases idsA q av <;> simp only [keepK_eq q fr, cond_true, cond_false]
def mvK {β : Type} (mv : Option Nat) (fr : Fr) (K : Fr → β) : β := match mv with
 | none => K fr
 | some m => keepK (stays (some m)) fr K
theorem mvK_eq {β : Type} (mv : Option Nat) (fr : Fr) (K : Fr → β) : mvK mv fr K = K (mvF mv fr) := by
 cases mv with
 | none => rfl
 | some m => exact keepK_eq _ _ _

def opS (n : Nat) (av : AV) (st' : St) (mv : Option Nat) (s : SS) : SS := match s with
 | ⟨.o ops (o :: l) :: k, fr, _, kn⟩ => fA av fun av => fS st' fun st' => mvK mv fr fun fr => putK n o.dst av fr (fun fr' => knK false o.dst kn fun kn' => ⟨.o ops l :: k, fr', st', kn'⟩) s
 | ⟨.g X ops (o :: l) tw :: k, fr, st, kn⟩ => fA av fun av => fS st' fun st' => mvK mv fr fun fr' => putK n o.dst av fr' (fun fr2 => knK false o.dst kn fun kn' => ⟨.g X ops l (tw ++ [gTW X ops o fr st mv]) :: k, fr2, st', kn'⟩) s
 | s => s

theorem GK.ev {X : List Nat} {tw : List (List Nat × List Nat)} {R : Fr → St → Prop} {o : Oper} {hs : HS} {out : Out} {fr2 : Fr} (hg : guardOk ops o (looksR ops o fr) = some true) (he : evGX P an X ops o fr st hs = some out) (hob : AllP out.ob) (hp : putF n o.dst out.av (mvF out.mv fr) = some fr2)
  (k : GK P n X ops l (tw ++ [gTW X ops o fr st out.mv]) R fr2 out.st) : GK P n X ops (o :: l) tw R fr st := by
 obtain ⟨p1, p2⟩ := putF_putL hp
 have hd := dstOk_dN (n := n) p1
 unfold evGX at he
 split at he
 ·rename_i out0 hev
  cases hb : Nat.beq out0.st.length st.length with
  | true =>
   simp only [hb, cond_true] at he
   cases hc : (!isMu an o && wOk (dN o) ops X o fr st (tchOf ops o fr) out0) && (qOk st (tchOf ops o fr) && aliveO st out0.mv) with
   | false => rw [hc] at he; cases he
   | true =>
    rw [hc] at he
    simp only [cond_true, Option.some.injEq] at he
    subst he
    simp only [Bool.and_eq_true, Bool.not_eq_true'] at hc
    obtain ⟨⟨c1, c2⟩, c3, c4⟩ := hc
    rw [c1] at hev
    have hw := wOk_n c2 hd
    have hE : evW P n ops X (o :: l) fr st hs = some (nextF o ⟨out0.av, tchOf ops o fr, tchOf ops o fr, out0.mv.toList, ovl (inL (tchOf ops o fr)) 0 st out0.st⟩ fr, tchOf ops o fr, out0.mv.toList, ovl (inL (tchOf ops o fr)) 0 st out0.st, out0.ob) := by
     unfold evW
     simp only [hdO, hg, hev, hw, cond_true]
    have hn : nextF o ⟨out0.av, tchOf ops o fr, tchOf ops o fr, out0.mv.toList, ovl (inL (tchOf ops o fr)) 0 st out0.st⟩ fr = fr2 := by
     unfold nextF
     cases hm : out0.mv with
     | none => rw [hm] at p2; simp only [Option.toList, mvF] at p2 ⊢; rw [keepF_nil]; exact p2
     | some m => rw [hm] at p2; simp only [Option.toList, mvF] at p2 ⊢; rw [inL_one]; exact p2
    rw [hn] at hE
    have ht : gTW X ops o fr st out0.mv = (extT X (tchOf ops o fr), tchOf ops o fr ++ out0.mv.toList.map (· + 1000)) := by
     unfold gTW
     unfold aliveO at c4
     cases hm : out0.mv with
     | none => rfl
     | some m =>
      rw [hm] at c4
      simp only at c4 ⊢
      split
      ·rename_i hd'; rw [hd'] at c4; cases c4
      ·rfl
    refine GK.of (tw1 := gTW X ops o fr st out0.mv) (fun h2 => ?_) k
    rw [ht]
    exact GX.wr hs fr2 _ _ _ _ hE hob c3 h2
  | false =>
   simp only [hb, cond_false] at he
   split at he
   ·rename_i id b hf hd2
    cases hc : nOk (dN o) ops X id o fr st (tchOf ops o fr) out0 b && qOk st (id :: tchOf ops o fr) with
    | false => rw [hc] at he; cases he
    | true =>
     rw [hc] at he
     simp only [cond_true, Option.some.injEq] at he
     subst he
     rw [Bool.and_eq_true] at hc
     have hw := nOk_n hc.1 hd
     have hdd : st[id]? = some .dead := by
      have h := hc.1
      unfold nOk at h
      simp only [Bool.and_eq_true] at h
      exact isDead_get h.1.2.1.1.1.1
     have hE : evN P n ops X (isMu an o) id (o :: l) fr st hs = some (nextF o ⟨rnA (rhoR st.length id) out0.av, id :: tchOf ops o fr, id :: tchOf ops o fr, [id], (ovl (inL (tchOf ops o fr)) 0 st (out0.st.take st.length)).set id b⟩ fr, id :: tchOf ops o fr, (ovl (inL (tchOf ops o fr)) 0 st (out0.st.take st.length)).set id b, out0.ob) := by
      unfold evN
      simp only [hdO, hg, hev, hd2, hw, cond_true]
     have hn : nextF o ⟨rnA (rhoR st.length id) out0.av, id :: tchOf ops o fr, id :: tchOf ops o fr, [id], (ovl (inL (tchOf ops o fr)) 0 st (out0.st.take st.length)).set id b⟩ fr = fr2 := by
      unfold nextF
      simp only [mvF] at p2
      rw [← p2]
      simp only
      rw [inL_one]
     rw [hn] at hE
     have ht : gTW X ops o fr st (some id) = (extT X (id :: tchOf ops o fr), (id :: tchOf ops o fr) ++ [id + 1000]) := by
      unfold gTW
      simp only [hdd]
     refine GK.of (tw1 := gTW X ops o fr st (some id)) (fun h2 => ?_) k
     rw [ht]
     exact GX.new _ id hs fr2 _ _ _ hE hob hc.2 h2
   ·cases he
 ·cases he

theorem op_sound {out : Out} {hs : HS} (he : evH P an hs s = some out) (hob : AllP out.ob) (hm : mvOk n0 loose out.mv = true) (k : XK P n n0 loose Q (opS n out.av out.st out.mv s)) : XK P n n0 loose Q s := by
 obtain ⟨ks, fr, st, kn⟩ := s
 unfold evH at he
 split at he
 ·rename_i X ops o l tw k' hk
  simp only at hk
  subst hk
  split at he
  ·rename_i hg
   have hg := gOk_ok hg
   simp only [opS, fA_eq, fS_eq, mvK_eq] at k
   rcases putK_or (n := n) o.dst out.av (mvF out.mv fr) (fun fr' => knK false o.dst kn fun kn' => (⟨.g X ops l (tw ++ [gTW X ops o fr st out.mv]) :: k', fr', out.st, kn'⟩ : SS)) ⟨.g X ops (o :: l) tw :: k', fr, st, kn⟩ with ⟨fr', hp, e⟩ | e
   ·obtain ⟨kn', ek⟩ := knK_ex false o.dst kn fun kn' => (⟨.g X ops l (tw ++ [gTW X ops o fr st out.mv]) :: k', fr', out.st, kn'⟩ : SS)
    rw [e, ek] at k
    exact GK.ev hg he hob hp k
   ·rw [e] at k; exact k
  ·cases he
 ·rename_i ops o l k' hk
  simp only at hk
  subst hk
  split at he
  ·rename_i hg
   have hg := gOk_ok hg
   simp only [opS, fA_eq, fS_eq, mvK_eq] at k
   rcases putK_or (n := n) o.dst out.av (mvF out.mv fr) (fun fr' => knK false o.dst kn fun kn' => (⟨.o ops l :: k', fr', out.st, kn'⟩ : SS)) ⟨.o ops (o :: l) :: k', fr, st, kn⟩ with ⟨fr', hp, e⟩ | e
   ·obtain ⟨kn', ek⟩ := knK_ex false o.dst kn fun kn' => (⟨.o ops l :: k', fr', out.st, kn'⟩ : SS)
    rw [e, ek] at k
    have he : ev P (isMu an o) o fr st hs = some out := he
    have hg : guardOk ops o fr = some true := hg
    have h0 : evOps P n n0 loose an ops [o] fr st hs = some ⟨.normal, fr', out.st, out.hs, out.ob ++ []⟩ := by simp only [evOps, hg, he, hm, cond_true, hp]
    exact XO.run (l := [o]) (rest := l) h0 (by rw [List.append_nil]; exact hob) k
   ·rw [e] at k; exact k
  ·cases he
 ·cases he

theorem uOp {hs hs' : HS} {av av' : AV} {st1 st' : St} {ob : List Prop} {mv : Option Nat} (he : evH P an hs (run P n an s) = some ⟨av, st1, ob, hs', mv⟩) (hob : AllP ob) (hm : mvOk n0 loose mv = true) (e1 : av = av') (e2 : st1 = st')
  (k : GG P n n0 loose an r Q T (opS n av' st' mv (run P n an s))) : GG P n n0 loose an r Q T s := by
 subst e1; subst e2
 exact ⟨fun h => run_sound (an := an) (op_sound he hob hm (k h))⟩

def nwI (s : SS) : Nat := match s.ks with
 | .g X _ _ _ :: _ => (fstD X s.st).getD 0
 | _ => s.st.length
def nwS (s : SS) (b : Body) : St := match s.ks with
 | .g X _ _ _ :: _ => s.st.set ((fstD X s.st).getD 0) b
 | _ => s.st ++ [b]
def nwM (s : SS) : Option Nat := match s.ks with
 | .g X _ _ _ :: _ => some ((fstD X s.st).getD 0)
 | _ => none

theorem uAp (E : Enc α) (id : Nat) (xs : List α) {ys : List α} {N L : Nat} (k : GG P n n0 loose an r Q x (opS n (.one (.sl id E.sz 0 (ys ++ xs).length)) ((run P n an s).st.set id (.arr E.sz (E.els (ys ++ xs)))) (some id) (run P n an s))) (hL : L = ys.length := by rfl) (hN : N = xs.length := by rfl)
  (he : evH P an [] (run P n an s) = some ⟨.one (.sl id E.sz 0 (L + (E.els xs).length)), (run P n an s).st.set id (.arr E.sz (E.els ys ++ E.els xs)), [elemsOk E.sz (E.els xs), L = (E.els ys).length, L + (E.els xs).length ≤ 4294967296], [], some id⟩ := by kernel_rfl)
  (hm : mvOk n0 loose (some id) = true := by kernel_rfl) : GG P n n0 loose an r Q (grd (ys.length + N ≤ 4294967296) x) s := by
 subst hL; subst hN
 refine ⟨fun h => ?_⟩
 obtain ⟨hp, h⟩ := grd_some h
 exact uOp he ⟨E.ok _, (E.len _).symm, by rw [E.len]; exact hp, trivial⟩ hm (by rw [E.len, List.length_append]) (by rw [E.app2]) k h

theorem uIb (E : Enc α) (id : Nat) {ys : List α} {i : Int} {e : α} {L : Nat} (ha : at? ys i = some e) (k : GG P n n0 loose an r Q T (pvS n (.one (.pt id E.sz (0 + i.toNat) 0)) (run P n an s))) (hL : L = ys.length := by rfl)
  (he : evQ P (run P n an s) = some (.one (.pt id E.sz (0 + i.toNat) 0), [0 ≤ i ∧ i < ((L : Nat) : Int)]) := by kernel_rfl) : GG P n n0 loose an r Q T s := by
 subst hL
 exact uV _ _ (ob := [_]) ⟨Enc.inb' ha, trivial⟩ rfl k he

def evQh (P : Program) (hs : HS) (s : SS) : Option (AV × List Prop) :=
 match hdOp s with
 | some (o, f) => bif quietOp o.op then (match ev P false o f (hdSt s) hs with
  | some out => some (out.av, out.ob)
  | none => none) else none
 | none => none
theorem evQh_yd {hs : HS} {av : AV} {ob : List Prop} (he : evQh P hs s = some (av, ob)) (hob : AllP ob) : ∃ o f, hdOp s = some (o, f) ∧ Yd P n (hdSt s) o f av := by
 unfold evQh at he
 split at he
 ·rename_i o f hd
  cases hq : quietOp o.op with
  | false => simp [hq] at he
  | true =>
   simp only [hq, cond_true] at he
   split at he
   ·rename_i out hev
    simp only [Option.some.injEq, Prod.mk.injEq] at he
    obtain ⟨rfl, rfl⟩ := he
    exact ⟨o, f, hd, Yd.ev hq hev hob⟩
   ·cases he
 ·cases he
def avQh (o : Option (AV × List Prop)) : AV := match o with
 | some (av, _) => av
 | none => .j
theorem uLd (E : Enc α) {ys : List α} {i : Int} {e : α} (ha : at? ys i = some e) (k : GG P n n0 loose an r Q T (pvS n (avQh (evQh P [E.cells e] (run P n an s))) (run P n an s)))
  (he : evQh P [E.cells e] (run P n an s) = some (avQh (evQh P [E.cells e] (run P n an s)), [(E.els ys)[0 + i.toNat]? = some (E.cells e)]) := by kernel_rfl) : GG P n n0 loose an r Q T s := by
 refine ⟨fun h => ?_⟩
 obtain ⟨o, g, h1, h2⟩ := evQh_yd (n := n) he ⟨E.get0 ha, trivial⟩
 exact run_sound (an := an) (pv_sound h1 h2 (k h))

theorem uXs (id sz L : Nat) (k : GG P n n0 loose an r Q T (pvS n (.one (.sl id sz 0 L)) (run P n an s)))
  (he : evQ P (run P n an s) = some (.one (.sl id sz (0 + (0 : Int).toNat) (((L : Nat) : Int).toNat - (0 : Int).toNat)), [((0 : Int) ≤ 0 ∧ (0 : Int) ≤ ((L : Nat) : Int) ∧ (((L : Nat) : Int) ≤ ((L : Nat) : Int) ∧ ((L : Nat) : Int) ≤ ((L : Nat) : Int))) ∧ ((0 : Int).toNat = 0 ∨ (((0 : Int).toNat : Nat) : Int) < ((L : Nat) : Int))]) := by kernel_rfl) : GG P n n0 loose an r Q T s := by
 have e2 : ((L : Nat) : Int).toNat - (0 : Int).toNat = L := by simp
 rw [e2] at he
 exact uV _ _ (ob := [_]) ⟨⟨⟨by omega, by omega, by omega, by omega⟩, .inl rfl⟩, trivial⟩ rfl k he

theorem uSt (E : Enc α) (id : Nat) {ys : List α} {i : Int} {e : α} (ha : at? ys i = some e) (v : α) (k : GG P n n0 loose an r Q T (opS n .j ((run P n an s).st.set id (.arr E.sz (E.els (ys.set i.toNat v)))) none (run P n an s)))
  (he : evH P an [E.cells e] (run P n an s) = some ⟨.j, (run P n an s).st.set id (.arr E.sz ((E.els ys).set (0 + i.toNat) (E.cells v))), [(E.els ys)[0 + i.toNat]? = some (E.cells e)], [], none⟩ := by kernel_rfl) : GG P n n0 loose an r Q T s :=
 uOp he ⟨E.get0 ha, trivial⟩ rfl rfl (by rw [E.set0]) k
theorem uMk (E : Enc α) (v : α) {N M : Int} (k : GG P n n0 loose an r Q x (opS n (.one (.sl (nwI (run P n an s)) E.sz 0 N.toNat)) (nwS (run P n an s) (.arr E.sz (E.els (List.replicate N.toNat v)))) (nwM (run P n an s)) (run P n an s)))
  (he : evH P an [] (run P n an s) = some ⟨.one (.sl (nwI (run P n an s)) E.sz 0 N.toNat), nwS (run P n an s) (.arr E.sz (List.replicate N.toNat (E.cells v))), [0 ≤ N, N ≤ M, M ≤ 4294967296], [], nwM (run P n an s)⟩ := by kernel_rfl) (hm : mvOk n0 loose (nwM (run P n an s)) = true := by kernel_rfl) : GG P n n0 loose an r Q (grd (0 ≤ N ∧ N ≤ M ∧ M ≤ 4294967296) x) s := by
 refine ⟨fun h => ?_⟩
 obtain ⟨⟨h1, h2, h3⟩, h⟩ := grd_some h
 exact uOp he ⟨h1, h2, h3, trivial⟩ hm rfl (by rw [E.rep]) k h
theorem uW (d : Nat) (E : Enc α) (xs : List α) (k : GG P n n0 loose an r Q T (pvS n (vl E xs) (runU P n an d s))) (he : evQ P (runU P n an d s) = some (.one (.pv (.ro (xs.map E.cells))), []) := by kernel_rfl) : GG P n n0 loose an r Q T s := by
 refine ⟨fun h => ?_⟩
 rw [← E.hels] at he
 obtain ⟨o, g, h1, h2⟩ := evQ_yd (n := n) he trivial
 exact runU_sound (pv_sound h1 h2 (k h))
/-! ### calls that lists are handed over to -/
def CX (P : Program) (f : Nat) (args : List AV) (sc : St) (lo : List Nat) {β : Type} (T : Option β) (rv : β → AV) (nb : β → St) : Prop := ∀ r, T = some r → MX P f args sc lo (rv r) (nb r)

theorem uFnX {f : Nat} {args : List AV} {sc : St} {lo : List Nat} {rv : β → AV} {nb : β → St} (k m n : Nat) (an : List Nat) (fn : Func) (g : ∀ r, GG P n k lo an r (FinMR P fn m rv nb r) T ⟨[.c (cd fn [])], ff0 args, fS0 sc, []⟩)
  (hf : P.funcs[f]? = some fn := by kernel_rfl) (hb : fn.body = some (cd fn []) := by kernel_rfl) (hn : fn.ntmps = n := by kernel_rfl) (hl : Nat.ble args.length n = true := by rfl) (hk : sc.length = k := by rfl) (hkm : Nat.ble k m = true := by rfl) : CX P f args sc lo T rv nb := by
 intro r hT
 refine MX.of k m hkm hf hb hn (Nat.le_of_ble_eq_true hl) hk ?_
 have := g r hT
 unfold ff0 fS0 at this
 rw [fF_eq, fS_eq] at this
 refine XW.mono (show XW P n k lo (cd fn []) (QK P n k lo [] (FinMR P fn m rv nb r)) (argsFr args 0) sc from ?_) (fun e f s h => h)
 have e : thenQ (XW P n k lo (cd fn []) (FinMR P fn m rv nb r)) (FinMR P fn m rv nb r) .normal (argsFr args 0) sc := this
 exact e
theorem XO.calxS (g : Nat) (avs avs0 : List AV) (sc sc' : St) (lo : List Nat) (r : AV) (rs : List Nat) (L : List Nat) (fr' : Fr) (st' : St) (hc : callHd P n ops l fr = some (g, avs0)) (b : Bool) (hs : avs0.map (sfB b) = avs.map (rnA (rho rs st.length))) (h : MX P g avs sc lo r sc') (hb : calxB st.length rs sc sc' avs = true)
  (hL : lo.map (rho rs st.length) = L) (hbx : othersB rs L 0 st = true) (hfx : fixOff n0 loose L = true)
  (hst : rs.map (fun x => st[x]?) = sc.map (fun o => some (rnB (rho rs st.length) o))) (hst' : updAt st rs ((sc'.take sc.length).map (rnB (rho rs st.length))) ++ (sc'.drop sc.length).map (rnB (rho rs st.length)) = st') (hput : putHd n l (rnA (rho rs st.length) r) (keepF (fun id => !inL L id) fr) = some fr')
  (hk : XO P n n0 loose ops (l.drop 1) Q fr' st') : XO P n n0 loose ops l Q fr st := by
 cases l with
 | nil => simp [callHd] at hc
 | cons o rest =>
  simp only [callHd] at hc
  split at hc
  ·rename_i hg
   intro ι w a hR hF
   obtain ⟨vs, hrun, hA⟩ := call_sound hc hF
   have hA := hA.soft b
   rw [hs] at hA
   have hw := guard_sound hg hF
   refine wpList_step fun K hK => ?_
   rw [if_pos hw]
   simp only [Oper.wp, hrun, Oper.upon]
   refine (h.use' rs hb hst (by rw [hL]; exact fun id o ho hn => othersB_get hbx id o ho (by rwa [Nat.zero_add])) hR hA).mono ?_
   rintro e w' ⟨v, ι', rfl, hR', hv, k⟩
   rw [hst', hL] at k
   rw [hst'] at hR' hv
   refine hK _ _ (wpList_post (fun e a w h => h.trans (k.weaken (fun id hf => ?_))) (hk ι' w' _ hR' (putF_rel hput (hF.keep k (q := fun id => !inL L id) (fun id hq _ hm => by rw [inL_iff.2 hm] at hq; cases hq)) hv)))
   intro hm
   have := List.all_eq_true.1 hfx id hm
   have hf' : fixB n0 loose id = true := hf
   rw [hf'] at this
   cases this
  ·simp at hc

def mxS (n : Nat) (rs lo : List Nat) (len : Nat) (av : AV) (sc' : St) (s : SS) : SS := match s with
 | ⟨.o ops (o :: l) :: k, fr, st, kn⟩ => fA (rnA (rho rs st.length) av) fun av => fS (updAt st rs ((sc'.take len).map (rnB (rho rs st.length))) ++ (sc'.drop len).map (rnB (rho rs st.length))) fun st' => keepK (fun id => !inL (lo.map (rho rs st.length)) id) fr fun fr => putK n o.dst av fr (fun fr' => knK false o.dst kn fun kn' => ⟨.o ops l :: k, fr', st', kn'⟩) s
 | s => s

theorem uMx (b : Bool) (rs : List Nat) {o : Option α} {f : α → Option β} {g : Nat} {avs : List AV} {sc : St} {lo : List Nat} {rv : α → AV} {nb : α → St} (c : CX P g avs sc lo o rv nb)
  (k : ∀ v, o = some v → GG P n n0 loose an r Q (f v) (mxS n rs lo sc.length (rv v) (nb v) (run P n an s)))
  (h1 : cQ b P n (run P n an s) = some (g, avs.map (rnA (rho rs (run P n an s).st.length))) := by kernel_rfl) (h2 : ∀ v, calxB (run P n an s).st.length rs sc (nb v) avs = true := by intro v; kernel_rfl)
  (h4 : (othersB rs (lo.map (rho rs (run P n an s).st.length)) 0 (run P n an s).st && fixOff n0 loose (lo.map (rho rs (run P n an s).st.length))) = true := by kernel_rfl)
  (h3 : rs.map (fun x => (run P n an s).st[x]?) = sc.map (fun o => some (rnB (rho rs (run P n an s).st.length) o)) := by kernel_rfl) : GG P n n0 loose an r Q (bnd o f) s := by
 refine ⟨fun h => ?_⟩
 obtain ⟨v, ho, h⟩ := bnd_some h
 refine run_sound (an := an) ?_
 have k := k v ho h
 have h2 := h2 v
 generalize run P n an s = s' at *
 obtain ⟨ks, fr, st, kn⟩ := s'
 simp only [Bool.and_eq_true] at h4
 unfold cQ at h1
 split at h1
 ·rename_i ops l k' hk
  simp only at hk
  subst hk
  split at h1
  ·rename_i g' avs' hc
   simp only [Option.some.injEq, Prod.mk.injEq] at h1
   obtain ⟨rfl, h1⟩ := h1
   cases l with
   | nil => simp [callHd] at hc
   | cons o' l =>
    simp only [mxS, fA_eq, fS_eq, keepK_eq] at k
    rcases putK_or (n := n) o'.dst (rnA (rho rs st.length) (rv v)) (keepF (fun id => !inL (lo.map (rho rs st.length)) id) fr) (fun fr' => knK false o'.dst kn fun kn' => (⟨.o ops l :: k', fr', updAt st rs (((nb v).take sc.length).map (rnB (rho rs st.length))) ++ ((nb v).drop sc.length).map (rnB (rho rs st.length)), kn'⟩ : SS)) ⟨.o ops (o' :: l) :: k', fr, st, kn⟩ with ⟨fr', hp, e⟩ | e
    ·obtain ⟨kn', ek⟩ := knK_ex false o'.dst kn fun kn' => (⟨.o ops l :: k', fr', updAt st rs (((nb v).take sc.length).map (rnB (rho rs st.length))) ++ ((nb v).drop sc.length).map (rnB (rho rs st.length)), kn'⟩ : SS)
     rw [e, ek] at k
     exact XO.calxS _ _ _ _ _ _ _ _ _ fr' _ hc b h1 (c v ho) h2 rfl h4.1 h4.2 h3 rfl hp k
    ·rw [e] at k; exact k
  ·cases h1
 ·cases h1

/-! ### lengths -/
/-! ### functions without a body -/
theorem Yd.ext {st : St} {o : Oper} {f : Fr} {g : Nat} {vs us : List Value} (hc : extAt P o f = some (g, vs)) (h : ExtC P g vs (.tuple us.toArray)) (hp : us.all plain = true) : Yd P n st o f (avT us) := by
 intro ι w a hR hF K Q hK
 have hrun := ext_sound hc h hF (w := w)
 simp only [Oper.wp, hrun, Oper.upon]
 exact hK _ w ι (avT_rel hp) hR .refl
def exQ (P : Program) (s : SS) : Option (Nat × List Value) := match hdOp s with
 | some (o, f) => extAt P o f
 | none => none
theorem uExt {p : Prop} [Decidable p] {g : Nat} {vs us : List Value} (h : p → ExtC P g vs (.tuple us.toArray)) (hp : us.all plain = true) (k : GG P n n0 loose an r Q x (pvS n (avT us) (run P n an s))) (he : exQ P (run P n an s) = some (g, vs)) : GG P n n0 loose an r Q (grd p x) s := by
 refine ⟨fun h' => ?_⟩
 obtain ⟨hp', h'⟩ := grd_some h'
 unfold exQ at he
 split at he
 ·rename_i o f hd
  exact run_sound (an := an) (pv_sound hd (Yd.ext he (h hp') hp) (k h'))
 ·cases he
theorem uAdd {a b c : Int} (g : Nat) (fn : Func) (k : GG P n n0 loose an r Q x (pvS n (.tp [.one (.pv (.s (.int .u64 ((a + b + c) % 18446744073709551616)))), .one (.pv (.s (.int .u64 ((a + b + c) / 18446744073709551616))))]) (run P n an s)))
  (he : exQ P (run P n an s) = some (g, [.int .u64 a, .int .u64 b, .int .u64 c]) := by kernel_rfl) (hf : P.funcs[g]? = some fn := by kernel_rfl)
  (hx : ((!(fn.name == "runtime.NumGoroutine") && fn.body.isNone) && (Extern.findNext fn).isNone) = true := by kernel_rfl) (hx' : Extern.find fn = some add64Entry := by kernel_rfl) : GG P n n0 loose an r Q (grd (0 ≤ a ∧ 0 ≤ b ∧ 0 ≤ c ∧ c ≤ 1) x) s := by
 simp only [Bool.and_eq_true, Bool.not_eq_true', Option.isNone_iff_eq_none] at hx
 exact uExt (fun h => ext_Add64 hf hx.1.1 (by rw [hx.1.2]; rfl) hx.2 hx' h.1 h.2.1 h.2.2.1 h.2.2.2) rfl k he
theorem uSub {a b c : Int} (g : Nat) (fn : Func) (k : GG P n n0 loose an r Q x (pvS n (.tp [.one (.pv (.s (.int .u64 ((a - b - c) % 18446744073709551616)))), .one (.pv (.s (.int .u64 (if a < b + c then (1 : Int) else (0 : Int)))))]) (run P n an s)))
  (he : exQ P (run P n an s) = some (g, [.int .u64 a, .int .u64 b, .int .u64 c]) := by kernel_rfl) (hf : P.funcs[g]? = some fn := by kernel_rfl)
  (hx : ((!(fn.name == "runtime.NumGoroutine") && fn.body.isNone) && (Extern.findNext fn).isNone) = true := by kernel_rfl) (hx' : Extern.find fn = some sub64E := by kernel_rfl) : GG P n n0 loose an r Q (grd (0 ≤ a ∧ 0 ≤ b ∧ b < 18446744073709551616 ∧ 0 ≤ c ∧ c ≤ 1) x) s := by
 simp only [Bool.and_eq_true, Bool.not_eq_true', Option.isNone_iff_eq_none] at hx
 exact uExt (fun h => ext_Sub64 hf hx.1.1 (by rw [hx.1.2]; rfl) hx.2 hx' h.1 h.2.1 h.2.2.1 h.2.2.2.1 h.2.2.2.2) rfl k he
/-! ### slots that are not read any more -/
/-! ### a part of a list of our own; copies -/
end
set_option linter.unusedVariables false

def ErrOk (b : Bool) (e : Value) : Prop := (b = false ∧ e = .nilIface) ∨ (b = true ∧ ∃ t p, e = .iface t (.pointer p))
theorem ErrOk.plain {b : Bool} {e : Value} (h : ErrOk b e) : plain e = true := by
 rcases h with ⟨_, rfl⟩ | ⟨_, t, p, rfl⟩ <;> rfl

section
variable {P : Program} {n n0 : Nat} {loose an : List Nat} {β : Type} {r : β} {Q : QT} {s : SS}

def isSer (s : SS) : Bool := match s.ks with
 | .o _ (_ :: _) :: _ => true
 | _ => false

end

set_option linter.unusedVariables false
set_option linter.unusedSimpArgs false

def eFn : Enc PV := .of 1 (fun p => [p]) (fun _ => rfl)

def idE : EEnc Value := ⟨fun v => v⟩
theorem idE_enc (v : Value) : idE.enc v = v := rfl

def mkv (ag : Bool) (l : List Value) : Value := if ag then .agg l.toArray else l.headD (.bool false)

section
variable {κ α : Type} (K : KEnc κ) (E : Enc α) (ag : Bool)

def MV (sz : Nat) (ag : Bool) : List κ → List Value → List (κ × Value)
 | [], _ => []
 | k :: ks, vs => (k, mkv ag (vs.take sz)) :: MV sz ag ks (vs.drop sz)

def fl (m : List (κ × α)) : List PV := (m.map fun x => E.cells x.2).flatten
def ksOf (m : List (κ × α)) : List κ := m.map (·.1)

def mapB (m : List (κ × α)) : Body := .rel (fun o vs => vs.length = (ksOf m).length * E.sz ∧ o = mapObj K idE (MV E.sz ag (ksOf m) vs)) (fl E m)

variable {μ : Nat → Prop} {w : World}

theorem PL_split {vs : List Value} {p q : List PV} (h : PL μ w vs (p ++ q)) : PL μ w (vs.take p.length) p ∧ PL μ w (vs.drop p.length) q := by
 obtain ⟨hl, h⟩ := h
 rw [List.length_append] at hl
 refine ⟨⟨by rw [List.length_take]; omega, fun j v c h1 h2 => ?_⟩, ⟨by rw [List.length_drop]; omega, fun j v c h1 h2 => ?_⟩⟩
 ·have hj := (List.getElem?_eq_some_iff.1 h2).1
  rw [List.getElem?_take_of_lt hj] at h1
  exact h j v c h1 (by rw [List.getElem?_append_left hj]; exact h2)
 ·rw [List.getElem?_drop] at h1
  exact h (p.length + j) v c h1 (by rw [List.getElem?_append_right (by omega)]; simpa using h2)

theorem PL_join {vs us : List Value} {p q : List PV} (h : PL μ w vs p) (k : PL μ w us q) : PL μ w (vs ++ us) (p ++ q) := by
 refine ⟨by rw [List.length_append, List.length_append, h.1, k.1], fun j v c h1 h2 => ?_⟩
 rcases Nat.lt_or_ge j vs.length with hj | hj
 ·rw [List.getElem?_append_left hj] at h1
  rw [List.getElem?_append_left (by rw [← h.1]; exact hj)] at h2
  exact h.2 j v c h1 h2
 ·rw [List.getElem?_append_right hj] at h1
  rw [List.getElem?_append_right (by rw [← h.1]; exact hj)] at h2
  rw [← h.1] at h2
  exact k.2 _ v c h1 h2

theorem fl_cons (k : κ) (a : α) (m : List (κ × α)) : fl E ((k, a) :: m) = E.cells a ++ fl E m := rfl

theorem fl_len (m : List (κ × α)) : (fl E m).length = (ksOf m).length * E.sz := by
 induction m with
 | nil => simp [fl, ksOf]
 | cons x m ih =>
  obtain ⟨k, a⟩ := x
  rw [fl_cons, List.length_append, ih, E.hsz]
  simp [ksOf, Nat.succ_mul, Nat.add_comm]

theorem MV_get : ∀ (m : List (κ × α)) (vs : List Value) (k : κ), PL μ w vs (fl E m) →
  match mget K m k with
  | none => mget K (MV E.sz ag (ksOf m) vs) k = none
  | some a => ∃ l, mget K (MV E.sz ag (ksOf m) vs) k = some (mkv ag l) ∧ PL μ w l (E.cells a)
 | [], vs, k, h => rfl
 | (k', a) :: m, vs, k, h => by
  rw [fl_cons] at h
  obtain ⟨h1, h2⟩ := PL_split h
  rw [E.hsz] at h1 h2
  have ih := MV_get m (vs.drop E.sz) k h2
  show match mget K ((k', a) :: m) k with
   | none => mget K ((k', mkv ag (vs.take E.sz)) :: MV E.sz ag (ksOf m) (vs.drop E.sz)) k = none
   | some a => ∃ l, mget K ((k', mkv ag (vs.take E.sz)) :: MV E.sz ag (ksOf m) (vs.drop E.sz)) k = some (mkv ag l) ∧ PL μ w l (E.cells a)
  simp only [mget]
  cases hq : K.eq k k' with
  | true => exact ⟨vs.take E.sz, rfl, h1⟩
  | false => exact ih

theorem MV_set : ∀ (m : List (κ × α)) (vs l : List Value) (k : κ) (a : α), PL μ w vs (fl E m) → PL μ w l (E.cells a) →
  ∃ vs', PL μ w vs' (fl E (mset K m k a)) ∧ MV E.sz ag (ksOf (mset K m k a)) vs' = mset K (MV E.sz ag (ksOf m) vs) k (mkv ag l)
 | [], vs, l, k, a, h, hl => by
  refine ⟨l, ?_, ?_⟩
  ·show PL μ w l (E.cells a ++ [])
   rw [List.append_nil]; exact hl
  ·show [(k, mkv ag (l.take E.sz))] = [(k, mkv ag l)]
   rw [List.take_of_length_le (by rw [hl.1, E.hsz]; exact Nat.le_refl _)]
 | (k', a') :: m, vs, l, k, a, h, hl => by
  rw [fl_cons] at h
  obtain ⟨h1, h2⟩ := PL_split h
  rw [E.hsz] at h1 h2
  have hll : l.length = E.sz := by rw [hl.1, E.hsz]
  show ∃ vs', PL μ w vs' (fl E (if K.eq k k' then (k, a) :: m else (k', a') :: mset K m k a)) ∧ MV E.sz ag (ksOf (if K.eq k k' then (k, a) :: m else (k', a') :: mset K m k a)) vs' = (if K.eq k k' then (k, mkv ag l) :: MV E.sz ag (ksOf m) (vs.drop E.sz) else (k', mkv ag (vs.take E.sz)) :: mset K (MV E.sz ag (ksOf m) (vs.drop E.sz)) k (mkv ag l))
  cases hq : K.eq k k' with
  | true =>
   refine ⟨l ++ vs.drop E.sz, PL_join hl h2, ?_⟩
   show (k, mkv ag ((l ++ vs.drop E.sz).take E.sz)) :: MV E.sz ag (ksOf m) ((l ++ vs.drop E.sz).drop E.sz) = _
   rw [List.take_left' hll, List.drop_left' hll]
   rfl
  | false =>
   obtain ⟨vs', g1, g2⟩ := MV_set m (vs.drop E.sz) l k a h2 hl
   have ht : (vs.take E.sz).length = E.sz := by rw [h1.1, E.hsz]
   refine ⟨vs.take E.sz ++ vs', PL_join h1 g1, ?_⟩
   show (k', mkv ag ((vs.take E.sz ++ vs').take E.sz)) :: MV E.sz ag (ksOf (mset K m k a)) ((vs.take E.sz ++ vs').drop E.sz) = _
   rw [List.take_left' ht, List.drop_left' ht, g2]
   rfl

def avE (a : α) : AV := if ag then .ag ((E.cells a).map .pv) else .one (.pv ((E.cells a).headD (.s (.bool false))))

theorem avE_of {ι : IM} {st : St} {l : List Value} {a : α} (h1 : ag = true ∨ E.sz = 1) (h : PL (Mut ι st) w l (E.cells a)) : AVRel ι w st (mkv ag l) (avE E ag a) := by
 unfold mkv avE
 cases hag : ag with
 | true =>
  simp only [if_true]
  refine .ag _ _ ⟨by rw [h.1, List.length_map], fun j v c h2 h3 => ?_⟩
  rw [List.getElem?_map] at h3
  cases hp : (E.cells a)[j]? with
  | none => rw [hp] at h3; cases h3
  | some p =>
   rw [hp] at h3
   cases h3
   exact .pv _ _ (h.2 j v p h2 hp)
 | false =>
  have hs : E.sz = 1 := by rcases h1 with h' | h'; rw [hag] at h'; cases h'; exact h'
  have hl := E.hsz a
  rw [hs] at hl
  simp only [Bool.false_eq_true, if_false]
  match hc : E.cells a, hl with
  | [p], _ =>
   rw [hc] at h
   match l, h.1 with
   | [v], _ => exact .one _ _ (.pv _ _ (h.2 0 v p rfl rfl))

theorem of_avE {ι : IM} {st : St} {v : Value} {a : α} (h1 : ag = true ∨ E.sz = 1) (h : AVRel ι w st v (avE E ag a)) : ∃ l, v = mkv ag l ∧ PL (Mut ι st) w l (E.cells a) := by
 unfold avE at h
 unfold mkv
 cases hag : ag with
 | true =>
  rw [hag] at h
  simp only [if_true] at h ⊢
  cases h with
  | ag vs cs h =>
   refine ⟨vs, rfl, by rw [h.1, List.length_map], fun j v p h2 h3 => ?_⟩
   have := h.2 j v (.pv p) h2 (by rw [List.getElem?_map, h3]; rfl)
   cases this with
   | pv _ _ h => exact h
 | false =>
  rw [hag] at h
  have hs : E.sz = 1 := by rcases h1 with h' | h'; rw [hag] at h'; cases h'; exact h'
  have hl := E.hsz a
  rw [hs] at hl
  simp only [Bool.false_eq_true, if_false] at h ⊢
  match hc : E.cells a, hl with
  | [p], _ =>
   rw [hc] at h
   cases h with
   | one _ _ h =>
    cases h with
    | pv _ _ h => exact ⟨[v], rfl, rfl, fun j x q h2 h3 => by
     match j with
     | 0 => simp at h2 h3; subst h2; subst h3; exact h
     | j + 1 => simp at h2⟩
end

/-! ### events -/
section
variable {P : Program} {n n0 : Nat} {loose an : List Nat} {β : Type} {r : β} {Q : QT} {s : SS} {T : Option β}

theorem ser_op {av : AV} {st' : St} (hs : isSer s = true)
  (step : ∀ (ops : Array Oper) (o : Oper) (l : List Oper) (Q' : QT) (fr' : Fr), (∃ ks, s.ks = .o ops (o :: l) :: ks) → putF n o.dst av s.fr = some fr' → XO P n n0 loose ops l Q' fr' st' → XO P n n0 loose ops (o :: l) Q' s.fr s.st)
  (k : XK P n n0 loose Q (opS n av st' none s)) : XK P n n0 loose Q s := by
 obtain ⟨ks, fr, st, kn⟩ := s
 match ks, hs with
 | .o ops (o :: l) :: ks, hs =>
  simp only [opS, fA_eq, fS_eq, mvK_eq] at k
  rcases putK_or (n := n) o.dst av (mvF none fr) (fun fr' => knK false o.dst kn fun kn' => (⟨.o ops l :: ks, fr', st', kn'⟩ : SS)) ⟨.o ops (o :: l) :: ks, fr, st, kn⟩ with ⟨fr', hp, e⟩ | e
  ·obtain ⟨kn', ek⟩ := knK_ex false o.dst kn fun kn' => (⟨.o ops l :: ks, fr', st', kn'⟩ : SS)
   rw [e, ek] at k
   exact step ops o l _ fr' ⟨ks, rfl⟩ hp k
  ·rw [e] at k; exact k

def mkmQ (s : SS) : Bool := match s.ks with
 | .o ops (o :: l) :: _ => mkMapHd ops (o :: l) s.fr
 | _ => false

section
variable {κ α : Type} (K : KEnc κ) (E : Enc α) (ag : Bool)

theorem mk_sound (hs : isSer s = true) (he : mkmQ s = true) (k : XK P n n0 loose Q (opS n (.one (.mp s.st.length)) (s.st ++ [mapB K E ag []]) none s)) : XK P n n0 loose Q s := by
 refine ser_op hs (fun ops o l Q' fr' hks hput hk => ?_) k
 obtain ⟨ks, fr, st, kn⟩ := s
 obtain ⟨ks', hks⟩ := hks
 simp only at hks
 subst hks
 have hc : mkMapHd ops (o :: l) fr = true := he
 simp only [mkMapHd] at hc
 split at hc
 ·rename_i hg
  cases hop : o.op <;> simp only [hop] at hc <;> try (cases hc; done)
  rename_i t x
  cases x with
  | some x => simp at hc
  | none =>
   intro ι w a hR hF
   have hw := guard_sound hg hF
   have hrun : (execOp a.eval o).run P w = .ok (.value (.map (some w.heap.size))) (w.alloc (.map #[] 0)) := by
    simp [execOp, hop, Instr.makeMap]
   have hO : ObjRel (ι.add st.length (some w.heap.size)) (w.alloc (.map #[] 0)) (st ++ [mapB K E ag []]) st.length (mapB K E ag []) :=
    ⟨w.heap.size, .map #[] 0, [], by simp [IM.add], heap_alloc_at w _, ⟨by simp [ksOf], rfl⟩, rfl, fun j v p h => by simp at h⟩
   have hR' : Rel (ι.add st.length (some w.heap.size)) (w.alloc (.map #[] 0)) (st ++ [mapB K E ag []]) :=
    hR.add (Ext.alloc w _) (fun x e => by cases e; exact Nat.le_refl _) hO
   have k : Keeps all ι w st (ι.add st.length (some w.heap.size)) (w.alloc (.map #[] 0)) (st ++ [mapB K E ag []]) :=
    keeps_add (Ext.alloc w _) _ _ (fun x e => by cases e; exact Nat.le_refl _)
   have hres : AVRel (ι.add st.length (some w.heap.size)) (w.alloc (.map #[] 0)) (st ++ [mapB K E ag []]) (.map (some w.heap.size)) (.one (.mp st.length)) :=
    .one _ _ (VRel.mp st.length w.heap.size (by simp) (by simp [IM.add]))
   refine wpList_step fun K' hK => ?_
   rw [if_pos hw]
   simp only [Oper.wp, hrun, Oper.upon]
   exact hK _ _ (wpList_post (fun e a w h => h.trans (k.weaken (fun _ _ => trivial))) (hk _ _ _ hR' (putF_rel hput (hF.mono' k) hres)))
 ·simp at hc

theorem uMm (k : GG P n n0 loose an r Q T (opS n (.one (.mp (run P n an s).st.length)) ((run P n an s).st ++ [mapB K E ag []]) none (run P n an s)))
  (he : mkmQ (run P n an s) = true := by kernel_rfl) (hs : isSer (run P n an s) = true := by kernel_rfl) : GG P n n0 loose an r Q T s :=
 ⟨fun h => run_sound (an := an) (mk_sound K E ag hs he (k.go h))⟩

/-! reading, with or without the word whether it is there -/

def look2Q (P : Program) (s : SS) : Option (Nat × Value × TypeId × TypeId × Bool) := match s.ks with
 | .o ops (o :: _) :: _ => (match guardOk ops o s.fr with
  | some true => (match o.op with
   | .lookup t x i ok => (match P.underlying t with
    | some (.map kt et) => (match rv s.fr x, rv s.fr i with
     | .one (.mp id), .one (.pv (.s v)) => some (id, v, kt, et, ok)
     | _, _ => none)
    | _ => none)
   | _ => none)
  | _ => none)
 | _ => none

def zcB : Value → PV → Bool
 | .int k n, .s (.int k' n') => k == k' && n == n'
 | .bool b, .s (.bool b') => b == b'
 | .string s, .s (.string s') => s.size == 0 && s'.size == 0
 | .slice none 0 0, .ro [] => true
 | _, _ => false

theorem zcB_rel {μ : Nat → Prop} {w : World} {v : Value} {p : PV} (h : zcB v p = true) : PRel μ w v p := by
 unfold zcB at h
 split at h
 ·rename_i k n k' n'
  obtain ⟨h1, h2⟩ := Bool.and_eq_true_iff.1 h
  have e1 : k = k' := by simpa using h1
  have e2 : n = n' := by simpa using h2
  subst e1 e2
  exact .s _ rfl
 ·rename_i b b'
  have e1 : b = b' := by simpa using h
  subst e1
  exact .s _ rfl
 ·rename_i s s'
  obtain ⟨h1, h2⟩ := Bool.and_eq_true_iff.1 h
  have e1 : s.size = 0 := by simpa using h1
  have e2 : s'.size = 0 := by simpa using h2
  have e : s = s' := ByteArray.ext (by rw [Array.eq_empty_of_size_eq_zero e1, Array.eq_empty_of_size_eq_zero e2])
  subst e
  exact .s _ rfl
 ·exact .nl
 ·cases h

def zOk (P : Program) (ag : Bool) (et : TypeId) (ps : List PV) : Bool := match (P.info? et).bind (·.zero) with
 | some v => (match ag, v with
  | true, .agg a => a.toList.length == ps.length && (a.toList.zip ps).all fun x => zcB x.1 x.2
  | false, v => (match ps with
   | [p] => zcB v p
   | _ => false)
  | _, _ => false)
 | none => false

theorem zOk_of {ag : Bool} {et : TypeId} {ps : List PV} (h : zOk P ag et ps = true) : ∃ zv, (P.info? et).bind (·.zero) = some zv ∧ ∃ l, zv = mkv ag l ∧ ∀ (μ : Nat → Prop) (w : World), PL μ w l ps := by
 unfold zOk at h
 split at h
 ·rename_i v hv
  refine ⟨v, hv, ?_⟩
  split at h
  ·rename_i a
   obtain ⟨h1, h2⟩ := Bool.and_eq_true_iff.1 h
   have h1 : a.toList.length = ps.length := by simpa using h1
   refine ⟨a.toList, by simp [mkv], fun μ w => ⟨h1, fun j v p e1 e2 => ?_⟩⟩
   refine zcB_rel (List.all_eq_true.1 h2 (v, p) ?_)
   refine List.mem_iff_getElem?.2 ⟨j, ?_⟩
   rw [List.getElem?_zip_eq_some]
   exact ⟨e1, e2⟩
  ·split at h
   ·rename_i p
    refine ⟨[v], by simp [mkv], fun μ w => ⟨rfl, fun j x q e1 e2 => ?_⟩⟩
    match j with
    | 0 => simp at e1 e2; subst e1; subst e2; exact zcB_rel h
    | j + 1 => simp at e1
   ·cases h
  ·cases h
 ·cases h

def lkA (ok : Bool) (a : AV) (b : Bool) : AV := match ok with
 | true => .tp [a, .one (.pv (.s (.bool b)))]
 | false => a

theorem look2_sound (id : Nat) (m : List (κ × α)) (k0 : κ) (z : α) (kt et : TypeId) (ok : Bool) (hag : ag = true ∨ E.sz = 1) (hs : isSer s = true) (he : look2Q P s = some (id, K.enc k0, kt, et, ok)) (hkt : P.underlying kt = some K.desc)
  (hzo : zOk P ag et (E.cells z) = true) (ho : s.st[id]? = some (mapB K E ag m))
  (k : XK P n n0 loose Q (opS n (lkA ok (avE E ag ((mget K m k0).getD z)) (mget K m k0).isSome) s.st none s)) : XK P n n0 loose Q s := by
 refine ser_op hs (fun ops o l Q' fr' hks hput hk => ?_) k
 obtain ⟨ks, fr, st, kn⟩ := s
 obtain ⟨ks', hks⟩ := hks
 simp only at hks
 subst hks
 simp only [look2Q] at he
 split at he
 ·rename_i hg
  split at he
  ·rename_i t x i ok' hop
   split at he
   ·rename_i kt' et' hu
    split at he
    ·rename_i id' v hx hi
     simp only [Option.some.injEq, Prod.mk.injEq] at he
     obtain ⟨rfl, rfl, rfl, rfl, rfl⟩ := he
     intro ι w a hR hF
     have h1 := rv_rel hF x
     rw [hx] at h1
     obtain ⟨b, hv, hid, hb⟩ := mp_val h1
     have h2 := rv_rel hF i
     rw [hi] at h2
     have hiv := scalar_of h2
     obtain ⟨b', o', vs, e1, e2, ⟨e3, rfl⟩, e4⟩ := hR.obj id' _ ho
     rw [hb] at e1; cases e1
     have hw := guard_sound hg hF
     obtain ⟨zv, hz, zl, hzl, hzp⟩ := zOk_of hzo
     obtain ⟨inf, hinf, hzero⟩ := Option.bind_eq_some_iff.1 hz
     have hmv := MV_get K E ag m vs k0 e4
     have hres : ∃ l, (execOp a.eval o).run P w = .ok (.value (if ok' then .tuple #[mkv ag l, .bool (mget K m k0).isSome] else mkv ag l)) w ∧ PL (Mut ι st) w l (E.cells ((mget K m k0).getD z)) := by
      have hpos := mget_pos K (MV E.sz ag (ksOf m) vs) k0
      have hf := run_find (P := P) K idE hkt (MV E.sz ag (ksOf m) vs) k0 w
      cases hmg : mget K m k0 with
      | none =>
       rw [hmg] at hmv
       simp only at hmv
       rw [hmv] at hpos
       have hp : mpos K (MV E.sz ag (ksOf m) vs) k0 = none := by cases h : mpos K (MV E.sz ag (ksOf m) vs) k0 <;> simp [h] at hpos ⊢
       rw [hp] at hf
       refine ⟨zl, ?_, hzp _ _⟩
       rw [← hzl]
       simp only [execOp, hop, hv, hiv, Instr.lookup]
       cases ok' <;> simp [run_underlying hu, getObj, Sem.run, e2, mapObj, K.flat P _ _ k0 w hkt, hf, Result.andThen, run_zero hinf hzero]
      | some e =>
       rw [hmg] at hmv
       simp only at hmv
       obtain ⟨l, hl1, hl2⟩ := hmv
       rw [hl1] at hpos
       cases hp : mpos K (MV E.sz ag (ksOf m) vs) k0 with
       | none => rw [hp] at hpos; simp at hpos
       | some j =>
        rw [hp, hl1] at hf
        refine ⟨l, ?_, hl2⟩
        simp only [execOp, hop, hv, hiv, Instr.lookup]
        cases ok' <;> simp [run_underlying hu, getObj, Sem.run, e2, mapObj, K.flat P _ _ k0 w hkt, hf, Result.andThen, idE_enc]
     obtain ⟨l, hrun, hl⟩ := hres
     refine wpList_step fun K' hK => ?_
     rw [if_pos hw]
     simp only [Oper.wp, hrun, Oper.upon]
     refine hK _ _ (hk _ _ _ hR (putF_rel hput hF ?_))
     cases ok' with
     | false => exact avE_of E ag hag hl
     | true =>
      refine AVRel.tp [mkv ag l, .bool (mget K m k0).isSome] _ rfl (fun j v a h1 h2 => ?_)
      match j with
      | 0 => simp at h1 h2; subst h1; subst h2; exact avE_of E ag hag hl
      | 1 => simp at h1 h2; subst h1; subst h2; exact .one _ _ (.pv _ _ (.s _ rfl))
      | j + 2 => simp at h1
    ·cases he
   ·cases he
  ·cases he
 ·cases he

theorem uMl (id : Nat) {m : List (κ × α)} {k0 : κ} (z : α) (kt et : TypeId) (ok : Bool) {f : α → Option β}
  (k : ∀ u, some ((mget K m k0).getD z) = some u → GG P n n0 loose an r Q (f u) (opS n (lkA ok (avE E ag u) (mget K m k0).isSome) (run P n an s).st none (run P n an s)))
  (he : look2Q P (run P n an s) = some (id, K.enc k0, kt, et, ok) := by kernel_rfl) (ho : (run P n an s).st[id]? = some (mapB K E ag m) := by kernel_rfl)
  (hs : isSer (run P n an s) = true := by kernel_rfl) (hzo : zOk P ag et (E.cells z) = true := by kernel_rfl) (hag : ag = true ∨ E.sz = 1 := by first | exact .inl rfl | exact .inr rfl) (hkt : P.underlying kt = some K.desc := by kernel_rfl) : GG P n n0 loose an r Q (bnd (some ((mget K m k0).getD z)) f) s :=
 ⟨fun h => run_sound (an := an) (look2_sound K E ag id m k0 z kt et ok hag hs he hkt hzo ho ((k _ rfl).go h))⟩

/-! writing -/

def updQ (P : Program) (s : SS) : Option (Nat × Value × AV × TypeId) := match s.ks with
 | .o ops (o :: _) :: _ => (match guardOk ops o s.fr with
  | some true => (match o.dst, o.op with
   | none, .mapUpdate t x i y => (match P.underlying t with
    | some (.map kt et) => (match rv s.fr x, rv s.fr i with
     | .one (.mp id), .one (.pv (.s v)) => some (id, v, rv s.fr y, kt)
     | _, _ => none)
    | _ => none)
   | _, _ => none)
  | _ => none)
 | _ => none

theorem upd_sound (id : Nat) (m : List (κ × α)) (k0 : κ) (u : α) (kt : TypeId) (hag : ag = true ∨ E.sz = 1) (hs : isSer s = true) (he : updQ P s = some (id, K.enc k0, avE E ag u, kt)) (hkt : P.underlying kt = some K.desc)
  (ho : s.st[id]? = some (mapB K E ag m)) (k : XK P n n0 loose Q (opS n .j (s.st.set id (mapB K E ag (mset K m k0 u))) none s)) : XK P n n0 loose Q s := by
 refine ser_op hs (fun ops o l Q' fr' hks hput hk => ?_) k
 obtain ⟨ks, fr, st, kn⟩ := s
 obtain ⟨ks', hks⟩ := hks
 simp only at hks
 subst hks
 simp only [updQ] at he
 split at he
 ·rename_i hg
  split at he
  ·rename_i t x i y hdst hop
   split at he
   ·rename_i kt' et' hu
    split at he
    ·rename_i id' v hx hi
     simp only [Option.some.injEq, Prod.mk.injEq] at he
     obtain ⟨rfl, rfl, hy, rfl⟩ := he
     intro ι w a hR hF
     have h1 := rv_rel hF x
     rw [hx] at h1
     obtain ⟨b, hv, hid, hb⟩ := mp_val h1
     have h2 := rv_rel hF i
     rw [hi] at h2
     have hiv := scalar_of h2
     have h3 := rv_rel hF y
     rw [hy] at h3
     obtain ⟨el, hyv, hel⟩ := of_avE E ag hag h3
     obtain ⟨b', o', vs, e1, e2, ⟨e3, rfl⟩, e4⟩ := hR.obj id' _ ho
     rw [hb] at e1; cases e1
     have hw := guard_sound hg hF
     have hbl := lt_of_some e2
     obtain ⟨vs', g1, g2⟩ := MV_set K E ag m vs el k0 u e4 hel
     have hrun : (execOp a.eval o).run P w = .ok .skip { w with heap := w.heap.setIfInBounds b (mapObj K idE (mset K (MV E.sz ag (ksOf m) vs) k0 (mkv ag el))) } := by
      have hpos := mget_pos K (MV E.sz ag (ksOf m) vs) k0
      have hf := run_find (P := P) K idE hkt (MV E.sz ag (ksOf m) vs) k0 w
      simp only [execOp, hop, hv, hiv, hyv, Instr.mapUpdate]
      cases hp : mpos K (MV E.sz ag (ksOf m) vs) k0 with
      | none =>
       rw [hp] at hf
       have e3 := mset_none K idE (MV E.sz ag (ksOf m) vs) k0 (mkv ag el) 0 hp
       have e4 := mset_len_none K (MV E.sz ag (ksOf m) vs) k0 (mkv ag el) hp
       simp [run_underlying hu, getObj, setObj, Sem.run, e2, mapObj, K.flat P _ _ k0 w hkt, hf, Result.andThen, e3, e4, idE_enc]
      | some j =>
       rw [hp] at hpos hf
       cases hq : mget K (MV E.sz ag (ksOf m) vs) k0 with
       | none => simp [hq] at hpos
       | some u' =>
        rw [hq] at hf
        obtain ⟨e, g1, ⟨k', g2, g3⟩, g4, g5⟩ := mset_some K idE (MV E.sz ag (ksOf m) vs) k0 (mkv ag el) 0 j hp
        have hs := K.bits k0 k' g3
        simp [run_underlying hu, getObj, setObj, Sem.run, e2, mapObj, K.flat P _ _ k0 w hkt, hf, Result.andThen, g1, g2, Instr.keyThatStays, hs, g4, g5, idE_enc]
     have hwr : Wrote w { w with heap := w.heap.setIfInBounds b (mapObj K idE (mset K (MV E.sz ag (ksOf m) vs) k0 (mkv ag el))) } b := by
      refine ⟨rfl, rfl, rfl, by simp, fun y hy => ?_, fun c ty fz h => ?_⟩
      ·simp [Array.getElem?_setIfInBounds, Ne.symm hy]
      ·rw [e2] at h; simp [mapObj] at h
     have ha : Body.alive (mapB K E ag m) := by simp [Body.alive, mapB]
     have kk := keeps_set (body' := mapB K E ag (mset K m k0 u)) ho ha hb hwr
     have hO : ObjRel ι { w with heap := w.heap.setIfInBounds b (mapObj K idE (mset K (MV E.sz ag (ksOf m) vs) k0 (mkv ag el))) } (st.set id' (mapB K E ag (mset K m k0 u))) id' (mapB K E ag (mset K m k0 u)) := by
      refine ⟨b, mapObj K idE (mset K (MV E.sz ag (ksOf m) vs) k0 (mkv ag el)), vs', hb, ?_, ⟨?_, by rw [← g2]⟩, ?_⟩
      ·have : b < w.heap.size := hbl
       simp [Array.getElem?_setIfInBounds, this]
      ·have := g1.1
       rw [this, fl_len]
      ·exact g1.map fun _ _ h => kk.pure h
     have hR' := hR.set (body' := mapB K E ag (mset K m k0 u)) ho ha hb hwr hO
     refine wpList_step fun K' hK => ?_
     rw [if_pos hw]
     simp only [Oper.wp, hrun, Oper.upon]
     refine hK _ _ (wpList_post (fun e a w h => h.trans (kk.weaken (fun _ _ => trivial))) (hk _ _ _ hR' ?_))
     have hfr : fr' = fr := by
      rw [hdst] at hput
      exact (Option.some.inj hput).symm
     rw [hdst, hfr]
     exact hF.mono' kk
    ·cases he
   ·cases he
  ·cases he
 ·cases he

theorem uMu (id : Nat) {m : List (κ × α)} {k0 : κ} {u : α} (kt : TypeId)
  (k : GG P n n0 loose an r Q T (opS n .j ((run P n an s).st.set id (mapB K E ag (mset K m k0 u))) none (run P n an s)))
  (he : updQ P (run P n an s) = some (id, K.enc k0, avE E ag u, kt) := by kernel_rfl) (ho : (run P n an s).st[id]? = some (mapB K E ag m) := by kernel_rfl)
  (hs : isSer (run P n an s) = true := by kernel_rfl) (hag : ag = true ∨ E.sz = 1 := by first | exact .inl rfl | exact .inr rfl) (hkt : P.underlying kt = some K.desc := by kernel_rfl) : GG P n n0 loose an r Q T s :=
 ⟨fun h => run_sound (an := an) (upd_sound K E ag id m k0 u kt hag hs he hkt ho (k.go h))⟩

end
end


structure GWide where
 neg : Bool
 size : Int × Int × Int × Int
 deriving DecidableEq

structure GChecker where
 leaves : Int
 deriving DecidableEq

structure GTransform where
 kind : Int
 param : Int
 deriving DecidableEq

structure RWide where
 below : Bool
 d : List Int
 deriving DecidableEq

structure FieldP (α : Type) where
 id : Int
 name : ByteArray
 need : Bool
 type : α

structure GType where
 kind : Int
 scale : Int
 fields : List (FieldP GType)

abbrev GField := FieldP GType

structure GValue where
 kind : Int
 n : Int
 scale : Int
 s : ByteArray
 items : List GValue

mutual
def GType.cells : GType → List PV
 | ⟨k, s, fs⟩ => [pi k, pi s, .ro (GType.fcells fs)]
def GType.fcells : List (FieldP GType) → List (List PV)
 | [] => []
 | f :: l => GType.fcell f :: GType.fcells l
def GType.fcell : FieldP GType → List PV
 | ⟨i, n, q, t⟩ => pi i :: .s (.string n) :: .s (.bool q) :: GType.cells t
end

mutual
def GValue.cells : GValue → List PV
 | ⟨k, n, sc, s, it⟩ => [pi k, pi n, pi sc, .s (.string s), .ro (GValue.lcells it)]
def GValue.lcells : List GValue → List (List PV)
 | [] => []
 | v :: l => GValue.cells v :: GValue.lcells l
end

theorem GType.fcells_eq : ∀ l : List (FieldP GType), GType.fcells l = l.map GType.fcell
 | [] => rfl
 | f :: l => by rw [GType.fcells, GType.fcells_eq l]; rfl

theorem GValue.lcells_eq : ∀ l : List GValue, GValue.lcells l = l.map GValue.cells
 | [] => rfl
 | f :: l => by rw [GValue.lcells, GValue.lcells_eq l]; rfl

abbrev fieldC (f : GField) : List PV := [pi f.id, .s (.string f.name), .s (.bool f.need), pi f.type.kind, pi f.type.scale, .ro (GType.fcells f.type.fields)]
abbrev valueC (v : GValue) : List PV := [pi v.kind, pi v.n, pi v.scale, .s (.string v.s), .ro (GValue.lcells v.items)]
theorem fieldC_eq : GType.fcell = fieldC := funext fun ⟨_, _, _, ⟨_, _, _⟩⟩ => rfl
theorem valueC_eq : GValue.cells = valueC := funext fun ⟨_, _, _, _, _⟩ => rfl
def eField : Enc GField := ⟨6, fieldC, GType.fcells, fun l => by rw [GType.fcells_eq, fieldC_eq], fun _ => rfl⟩
def eValue : Enc GValue := ⟨5, valueC, GValue.lcells, fun l => by rw [GValue.lcells_eq, valueC_eq], fun _ => rfl⟩
structure GSpecField where
 source : Int
 transform : GTransform
 deriving DecidableEq

structure GSpec where
 fields : List GSpecField
 deriving DecidableEq

structure GStats where
 id : Int
 nulls : Int
 min : GValue
 max : GValue

structure GDeleteAt where
 file : ByteArray
 rows : List Int
 deriving DecidableEq

structure GDeleteBy where
 schema : Int
 ids : List Int
 keys : List (List GValue)
 seq : Int

structure GDataFile where
 name : ByteArray
 schema : Int
 spec : Int
 part : List GValue
 rows : Int
 seq : Int
 stats : List GStats

structure GRef where
 name : ByteArray
 branch : Bool
 snapshot : Int
 deriving DecidableEq

structure GProp where
 name : ByteArray
 value : ByteArray
 deriving DecidableEq

structure GSnapshot where
 id : Int
 parent : Int
 seq : Int
 schema : Int
 time : Int
 kind : Int
 files : List GDataFile
 dat : List GDeleteAt
 dby : List GDeleteBy

structure GMeta where
 schemas : List (List GField)
 specs : List GSpec
 nextField : Int
 nextSeq : Int
 nextSnap : Int
 purges : Int
 snapshots : List GSnapshot
 refs : List GRef
 props : List GProp

abbrev spfC (x : GSpecField) : List PV := [pi x.source, pi x.transform.kind, pi x.transform.param]
def eSpecField : Enc GSpecField := .of 3 spfC (fun _ => rfl)
def eSpec : Enc GSpec := .of 1 (fun x => [.ro (eSpecField.els x.fields)]) (fun _ => rfl)
abbrev statsC (x : GStats) : List PV := [pi x.id, pi x.nulls, pi x.min.kind, pi x.min.n, pi x.min.scale, .s (.string x.min.s), .ro (eValue.els x.min.items), pi x.max.kind, pi x.max.n, pi x.max.scale, .s (.string x.max.s), .ro (eValue.els x.max.items)]
def eStats : Enc GStats := .of 12 statsC (fun _ => rfl)
def eDeleteAt : Enc GDeleteAt := .of 2 (fun x => [.s (.string x.file), .ro (eI.els x.rows)]) (fun _ => rfl)
def eDeleteBy : Enc GDeleteBy := .of 4 (fun x => [pi x.schema, .ro (eI.els x.ids), .ro ((eL eValue).els x.keys), pi x.seq]) (fun _ => rfl)
abbrev fileC (x : GDataFile) : List PV := [.s (.string x.name), pi x.schema, pi x.spec, .ro (eValue.els x.part), pi x.rows, pi x.seq, .ro (eStats.els x.stats)]
def eDataFile : Enc GDataFile := .of 7 fileC (fun _ => rfl)
def eRef : Enc GRef := .of 3 (fun x => [.s (.string x.name), .s (.bool x.branch), pi x.snapshot]) (fun _ => rfl)
def eProp : Enc GProp := .of 2 (fun x => [.s (.string x.name), .s (.string x.value)]) (fun _ => rfl)
abbrev snapC (x : GSnapshot) : List PV := [pi x.id, pi x.parent, pi x.seq, pi x.schema, pi x.time, pi x.kind, .ro (eDataFile.els x.files), .ro (eDeleteAt.els x.dat), .ro (eDeleteBy.els x.dby)]
def eSnapshot : Enc GSnapshot := .of 9 snapC (fun _ => rfl)
end Go.SX
namespace Go.SX
open Go Go.Shelf Go.Lib Go.Proofs Go.RowKit
set_option linter.unusedVariables false

theorem scalars_eq {ι : IM} {w : World} {st : St} : ∀ {us vs : List Value}, vs.length = us.length → (∀ (j : Nat) v a, vs[j]? = some v → (us.map fun u => AV.one (.pv (.s u)))[j]? = some a → AVRel ι w st v a) → vs = us
 | [], [], _, _ => rfl
 | [], _ :: _, h, _ => by simp at h
 | _ :: _, [], h, _ => by simp at h
 | u :: us, v :: vs, h, hA => by
  have h0 := scalar_of (hA 0 v _ rfl rfl)
  subst h0
  rw [scalars_eq (us := us) (vs := vs) (by simpa using h) (fun j x a h1 h2 => hA (j + 1) x a (by simpa using h1) (by simpa using h2))]

theorem PC.below {P : Program} {f : Nat} {us : List Value} {v : Value} (hv : plain v = true)
  (h : ∀ w : World, (∀ (b : Nat) (l : List Value), glob b = some l → GAt w b l) → Calls P f us.toArray w fun e w' => e = .returned v ∧ Below w.heap.size w w') :
  PC P f (us.map fun u => .one (.pv (.s u))) (.one (.pv (.s v))) := by
 intro ι w vs hR hA
 obtain rfl := scalars_eq (by simpa using hA.1) hA.2
 refine (h w (fun b l hb => (hR.gl b l hb).2.2)).mono ?_
 rintro e w' ⟨rfl, hb⟩
 have hx : Ext w w' := ⟨hb.os, hb.tape, hb.output, hb.size, fun b hlt => hb.block b hlt⟩
 exact ⟨v, _, [], ι, rfl, ⟨rfl, rfl⟩, hR.ext hx, .one _ _ (.pv _ _ (.s _ hv)), (hx.keeps ι []).weaken (fun _ _ => trivial)⟩

theorem tabs_of {g3 g4 : Nat} {w : World} (h3 : ∀ (i : Nat) x, firstL[i]? = some x → w.cell? ⟨g3, i, none⟩ = some x) (h4 : ∀ (i : Nat) x, accL[i]? = some x → w.cell? ⟨g4, i, none⟩ = some x) : Utf8Tabs g3 g4 w := by
 refine ⟨fun c hc => h3 c _ ?_, fun i hi => ⟨h4 _ _ ?_, h4 _ _ ?_⟩⟩
 ·simp [firstL, hc]
 ·simp [accL, show 2 * i < 32 by omega]
 ·simp [accL, show 2 * i + 1 < 32 by omega, show (2 * i + 1) / 2 = i by omega]

theorem of_tabs {g3 g4 : Nat} {w : World} (h : Utf8Tabs g3 g4 w) : (∀ (i : Nat) x, firstL[i]? = some x → w.cell? ⟨g3, i, none⟩ = some x) ∧ (∀ (i : Nat) x, accL[i]? = some x → w.cell? ⟨g4, i, none⟩ = some x) := by
 refine ⟨fun i x hx => ?_, fun i x hx => ?_⟩
 ·by_cases hi : i < 256
  ·simp [firstL, hi] at hx; subst hx; exact h.1 i hi
  ·simp [firstL, hi] at hx
 ·by_cases hi : i < 32
  ·simp only [accL, List.getElem?_map, List.getElem?_range hi, Option.map_some, Option.some.injEq] at hx
   by_cases e : i % 2 = 0
   ·rw [if_pos e] at hx
    have := (h.2 (i / 2) (by omega)).1
    rw [show 2 * (i / 2) = i by omega, hx] at this
    exact this
   ·rw [if_neg e] at hx
    have := (h.2 (i / 2) (by omega)).2
    rw [show 2 * (i / 2) + 1 = i by omega, hx] at this
    exact this
  ·simp [accL, hi] at hx

theorem pc_validString {P : Program} {ρ : Ren} (L : Lays.n196 P ρ) (h3 : glob (ρ.g 3) = some firstL) (h4 : glob (ρ.g 4) = some accL) (s : ByteArray) (hs : s.size ≤ 9223372036854775807) :
  PC P (ρ.f 196) [.one (.pv (.s (.string s)))] (.one (.pv (.s (.bool (validD s.data.toList))))) :=
 PC.below (us := [.string s]) rfl fun w hw => Go.Proofs.Any.utf8_ValidString L s w hs (tabs_of (hw _ _ h3).1 (hw _ _ h4).1)

end Go.SX
namespace Go.SX
open Go
set_option linter.unusedVariables false
set_option linter.unusedSimpArgs false

section
variable {P : Program} {n n0 : Nat} {loose : List Nat} {Q : QT} {fr : Fr} {st : St} {ops : Array Oper}

end

/-! ### bytes -/

/-! ### the event -/
section
variable {P : Program} {n n0 : Nat} {loose an : List Nat} {Q : QT} {β : Type} {T : Option β} {r : β} {s : SS}
end

set_option linter.unusedVariables false
set_option linter.unusedSimpArgs false

section
variable {P : Program} {n n0 : Nat} {loose an : List Nat} {β : Type} {r : β} {Q : QT} {s : SS} {T : Option β}

end

end Go.SX

namespace Go.SX
open Go
set_option linter.unusedVariables false
set_option linter.unusedSimpArgs false
section
variable {P : Program} {n n0 : Nat} {loose an : List Nat} {β : Type} {r : β} {Q : QT} {s : SS} {T : Option β} {fr : Fr} {st : St} {ops : Array Oper}

end
end Go.SX

namespace Go.SX
open Go
set_option linter.unusedVariables false
set_option linter.unusedSimpArgs false
section
variable {P : Program} {n n0 : Nat} {loose an : List Nat} {α β : Type} {r : β} {Q : QT} {s : SS} {x : Option β}
end
end Go.SX

namespace Go.SX
open Go
section
variable {P : Program} {n n0 : Nat} {loose an : List Nat} {α β : Type} {r : β} {Q : QT} {s : SS} {T : Option β}
end
set_option linter.unusedVariables false
set_option linter.unusedSimpArgs false

section
variable {P : Program} {n n0 : Nat} {fr fr1 : Fr} {st st1 : St} {c : Code} {ops : Array Oper}

def endK (n n0 : Nat) (e1 : Exit) (fr1 : Fr) (st1 : St) : QT := fun e f s => e = e1 ∧ Sub n n0 [] f s fr1 st1
def endP (n n0 : Nat) (fr1 : Fr) (st1 : St) : KP n n0 [] := ⟨fun f s => Sub n n0 [] f s fr1 st1, fun h k => h.trans k⟩
def noQ : QT := fun _ _ _ => False

theorem ofGG {an : List Nat} (h : GG P n n0 [] an () (thenQ (endP n n0 fr1 st1).p noQ) (some ()) ⟨[.c c], fr, st, []⟩) : XW P n n0 [] c (endK n n0 .normal fr1 st1) fr st := by
 have h1 : XW P n n0 [] c (thenQ (endP n n0 fr1 st1).p noQ) fr st := h.go rfl
 refine h1.mono fun e f s hq => ?_
 cases e with
 | normal => exact ⟨rfl, hq⟩
 | _ => exact hq.elim
theorem ofGGo {an : List Nat} {l : List Oper} (h : GG P n n0 [] an () (thenQ (endP n n0 fr1 st1).p noQ) (some ()) ⟨[.o ops l], fr, st, []⟩) : XO P n n0 [] ops l (endK n n0 .normal fr1 st1) fr st := by
 have h1 : XO P n n0 [] ops l (thenQ (endP n n0 fr1 st1).p noQ) fr st := h.go rfl
 intro ι w a hR hF
 refine wpList_post (fun e a w ⟨ι', fr', st', hq, h2⟩ => ⟨ι', fr', st', ?_, h2⟩) (h1 ι w a hR hF)
 cases e with
 | normal => exact ⟨rfl, hq⟩
 | _ => exact hq.elim
theorem uJ0 {an : List Nat} {r : Unit} {T : Option Unit} {s : SS} (he : jnS n0 fr1 st1 (run P n an s) = some (fr1, st1) := by kernel_rfl) : GG P n n0 [] an r (thenQ (endP n n0 fr1 st1).p noQ) T s :=
 uJ (K := endP n n0 fr1 st1) (fun _ ι _ _ hR hF => ⟨ι, hR, hF, .refl⟩) he

abbrev GT := IM → World → St → Prop
def Stab (n0 : Nat) (G : GT) : Prop := ∀ {ι : IM} {w : World} {st : St} {ι' : IM} {w' : World} {st' : St}, Rel ι w st → Keeps (fixP n0 []) ι w st ι' w' st' → G ι w st → G ι' w' st'
def At (n : Nat) (G : GT) (fr : Fr) (st : St) (a : Act) (w : World) : Prop := ∃ ι, Rel ι w st ∧ FRel n ι w st a fr ∧ G ι w st

theorem At.seg {G : GT} (hG : Stab n0 G) {e1 : Exit} (h : XW P n n0 [] c (endK n n0 e1 fr1 st1) fr st) {a : Act} {w : World} (hA : At n G fr st a w) : c.wp P (fun e a' w' => e = e1 ∧ At n G fr1 st1 a' w') a w := by
 obtain ⟨ι, hR, hF, hg⟩ := hA
 refine Go.wp_mono (h ι w a hR hF) ?_
 rintro e a' w' ⟨ι', fr', st', ⟨he, hs⟩, hR', hF', k⟩
 obtain ⟨ι2, hR2, hF2, k2⟩ := hs ι' w' a' hR' hF'
 exact ⟨he, ι2, hR2, hF2, hG hR' k2 (hG hR k hg)⟩
theorem At.segO {G : GT} (hG : Stab n0 G) {e1 : Exit} {l : List Oper} (h : XO P n n0 [] ops l (endK n n0 e1 fr1 st1) fr st) {a : Act} {w : World} (hA : At n G fr st a w) : wpList P ops (fun e a' w' => e = e1 ∧ At n G fr1 st1 a' w') l a w := by
 obtain ⟨ι, hR, hF, hg⟩ := hA
 refine wpList_post ?_ (h ι w a hR hF)
 rintro e a' w' ⟨ι', fr', st', ⟨he, hs⟩, hR', hF', k⟩
 obtain ⟨ι2, hR2, hF2, k2⟩ := hs ι' w' a' hR' hF'
 exact ⟨he, ι2, hR2, hF2, hG hR' k2 (hG hR k hg)⟩

theorem upon_cut {o : Oper} {a : Act} {K K' : Act → World → Prop} {R : Act → World → Prop} {Q' : Exit → Act → World → Prop} (hk : ∀ a w, K a w → K' a w) {r : Result Next}
  (h : o.upon P a K (fun e a w => e = .normal ∧ R a w) r) : o.upon P a K' Q' r := by
 cases r with
 | ok nx w =>
  cases nx <;> simp only [Oper.upon] at h ⊢ <;> first
   | exact hk _ _ h
   | exact Calls.mono h (fun e w'' he => by
    cases e with
    | returned v => exact hk _ _ he
    | panicked ch => exact absurd he.1 (by simp)
    | outgrown => obtain ⟨_, _, h1, _⟩ := he; cases h1)
   | exact Rows.mono h (fun _ _ he => hk _ _ he)
 | halt x w => cases x <;> simp only [Oper.upon] at h ⊢ <;> exact absurd h.1 (by simp)

theorem wpList_app {Q : Exit → Act → World → Prop} {l2 : List Oper} : ∀ {l1 : List Oper} {a : Act} {w : World}, wpList P ops (fun e a w => e = .normal ∧ wpList P ops Q l2 a w) l1 a w → wpList P ops Q (l1 ++ l2) a w
 | [], a, w, h => by
  unfold wpList at h
  exact h.2
 | o :: l, a, w, h => by
  rw [List.cons_append]
  unfold wpList at h ⊢
  split
  ·rename_i hw
   rw [if_pos hw] at h
   rcases h with h | ⟨h1, a0, w0, h2, _⟩
   ·exact .inl (upon_cut (fun a w h => wpList_app h) h)
   ·cases h2
  ·rename_i hw
   rw [if_neg hw] at h
   exact wpList_app h

theorem wp_call {o : Oper} {rest : List Oper} {g : Nat} {asv : List AV} (hg : guardOk ops o fr = some true) (hc : callAt P o fr = some (g, asv)) {ι : IM} {w : World} {a : Act} (hF : FRel n ι w st a fr) {Q : Exit → Act → World → Prop} :
  ∃ vs, ARel ι w st vs asv ∧ ((Calls P g vs.toArray w fun e w' => ∃ v, e = .returned v ∧ wpList P ops Q rest (a.put o.dst v) w') → wpList P ops Q (o :: rest) a w) := by
 obtain ⟨vs, hrun, hA⟩ := call_sound hc hF
 have hw := guard_sound hg hF
 refine ⟨vs, hA, fun h => ?_⟩
 refine wpList_step fun K hK => ?_
 rw [if_pos hw]
 simp only [Oper.wp, hrun, Oper.upon]
 refine h.mono ?_
 rintro e w' ⟨v, rfl, h⟩
 exact hK _ _ h

/-! ### frames over changes of blocks that may be written by others -/
structure KW (ι : IM) (w : World) (st : St) (ι' : IM) (w' : World) : Prop where
 size : w.heap.size ≤ w'.heap.size
 m : ∀ id, ι' id = ι id
 blk : ∀ b : Nat, b < w.heap.size → ¬ Mut ι st b → w'.heap[b]? = w.heap[b]? ∧ ¬ Mut ι' st b
 shp : ∀ (b : Nat) (c : Array Value) (ty : TypeId) (fz : Nat × Nat), w.heap[b]? = some (.cells c ty fz) → ∃ c' : Array Value, w'.heap[b]? = some (.cells c' ty fz) ∧ c'.size = c.size

theorem VRel.kw {ι ι' : IM} {w w' : World} (k : KW ι w st ι' w') {v : Value} {c : CV} (h : VRel ι w st v c) : VRel ι' w' st v c := by
 induction h with
 | pv v p h => exact .pv v p (h.mono k.size k.blk)
 | pt id sz i off b hid hb => exact .pt id sz i off b hid ((k.m id).trans hb)
 | sl id sz off len b cap hid hb hcap hc =>
  obtain ⟨c, ty, fz, h1, h2⟩ := hc
  obtain ⟨c', h3, h4⟩ := k.shp _ c ty fz h1
  exact .sl id sz off len b cap hid ((k.m id).trans hb) hcap ⟨c', ty, fz, h3, by omega⟩
 | sn id sz hid hb => exact .sn id sz hid ((k.m id).trans hb)
 | mp id b hid hb => exact .mp id b hid ((k.m id).trans hb)
 | cl v els h hc => exact .cl v els (h.mono k.size k.blk) hc
 | fn f caps vs hl hv ih => exact .fn f caps vs hl (fun j c v h1 h2 => ih j c v h1 h2)
theorem AVRel.kw {ι ι' : IM} {w w' : World} (k : KW ι w st ι' w') {v : Value} {a : AV} (h : AVRel ι w st v a) : AVRel ι' w' st v a := by
 induction h with
 | j v => exact .j v
 | one v c h => exact .one v c (h.kw k)
 | ag vs cs h => exact .ag vs cs ⟨h.1, fun j v c h1 h2 => (h.2 j v c h1 h2).kw k⟩
 | tp vs asv hl h ih => exact .tp vs asv hl (fun j v a h1 h2 => ih j v a h1 h2)
theorem FRel.kw {ι ι' : IM} {w w' : World} (k : KW ι w st ι' w') {a : Act} (h : FRel n ι w st a fr) : FRel n ι' w' st a fr := ⟨h.defers, h.size, fun t => (h.slot t).kw k⟩
theorem Rel.kw {ι ι' : IM} {w w' : World} (r : Rel ι w st) (k : KW ι w st ι' w') (ho : ∀ b, Own ι st b → w'.heap[b]? = w.heap[b]?) (ha : ∀ b, ι'.amb b → b < w'.heap.size ∧ ¬ Own ι st b)
  (hg : ∀ (b : Nat) (l : List Value), glob b = some l → w'.heap[b]? = w.heap[b]? ∧ ¬ ι'.amb b) : Rel ι' w' st := by
 have own : ∀ b, Own ι' st b ↔ Own ι st b := fun b => ⟨fun ⟨id, o, h1, h2, h3⟩ => ⟨id, o, h1, h2, (k.m id) ▸ h3⟩, fun ⟨id, o, h1, h2, h3⟩ => ⟨id, o, h1, h2, (k.m id).trans h3⟩⟩
 refine ⟨fun id o h => ?_, fun b hb => (ha b hb).1, fun b hb hb' => (ha b hb').2 ((own b).1 hb), fun id id' o o' b h1 h2 h3 h4 h5 h6 => r.inj id id' o o' b h1 h2 h3 h4 ((k.m id) ▸ h5) ((k.m id') ▸ h6), fun b l h => ?_⟩
 ·have hor := r.obj id o h
  have hk : ∀ b, o.alive → ι id = some b → w'.heap[b]? = w.heap[b]? := fun b h1 h2 => ho b ⟨id, o, h, h1, h2⟩
  cases o with
  | dead => trivial
  | box cells =>
   obtain ⟨b, vs, ty, e, hb, hl⟩ := hor
   exact ⟨b, vs, ty, (k.m id).trans e, (hk b (by simp [Body.alive]) e).trans hb, hl.1, fun j v c h1 h2 => (hl.2 j v c h1 h2).kw k⟩
  | rel Rm ps =>
   obtain ⟨b, ob, vs0, e, hb, hr0, hl0⟩ := hor
   exact ⟨b, ob, vs0, (k.m id).trans e, (hk b (by simp [Body.alive]) e).trans hb, hr0, hl0.map fun _ _ h0 => h0.mono k.size k.blk⟩
  | arr sz els =>
   rcases hor with ⟨e, he⟩ | ⟨b, c, ty, e, hb, h1, h2, h3⟩
   ·exact .inl ⟨(k.m id).trans e, he⟩
   ·refine .inr ⟨b, c, ty, (k.m id).trans e, (hk b (by simp [Body.alive]) e).trans hb, h1, h2, fun i e' j cv a1 a2 => ?_⟩
    obtain ⟨v, hv, hr⟩ := h3 i e' j cv a1 a2
    exact ⟨v, hv, hr.mono k.size k.blk⟩
 ·obtain ⟨h1, h2, h5⟩ := r.gl b l h
  obtain ⟨h3, h4⟩ := hg b l h
  refine ⟨fun hm => hm.elim h4 (fun ho' => h1 (.inr ((own b).1 ho'))), Nat.lt_of_lt_of_le h2 k.size, ?_⟩
  have hc : ∀ i, w'.cell? ⟨b, i, none⟩ = w.cell? ⟨b, i, none⟩ := fun i => by simp [World.cell?, h3]
  exact ⟨fun i v hv => by rw [hc]; exact h5.1 i v hv, fun hi => by rw [hc]; exact h5.2.1 hi, fun hi => by rw [h3]; exact h5.2.2 hi⟩

theorem rawCalls {f : Nat} {fn : Func} {args : List AV} (hf : P.funcs[f]? = some fn) (hb : fn.body = some c) (hn : fn.ntmps = n) (hl : args.length ≤ n) {ι : IM} {w : World} {vs : List Value} (hA : ARel ι w st vs args) {K : Ending → World → Prop}
  (h : ∀ a, FRel n ι w st a (argsFr args 0) → c.wp P (fun e a' w' => (e = .normal ∨ e = .ret) ∧ ∃ ι' fr' st' hs asv ob, resAll P fr' st' fn.results.toList hs = some (asv, ob) ∧ AllP ob ∧ Rel ι' w' st' ∧ FRel n ι' w' st' a' fr' ∧ ∀ v, AVRel ι' w' st' v (resAV asv) → K (.returned v) w') a w) :
  Calls P f vs.toArray w K := by
 refine calls_of_wp hf hb ?_
 have hF : FRel n ι w st { tmps := vs.toArray ++ Array.replicate (fn.ntmps - vs.toArray.size) undef, defers := [] } (argsFr args 0) := by
  refine ⟨rfl, ?_, fun t => ?_⟩
  ·simp [hn]; have := hA.1; omega
  ·rw [lk_argsFr]
   simp only [Nat.zero_le, if_true, Nat.sub_zero]
   by_cases ht : t < vs.length
   ·have hta : t < args.length := by rw [← hA.1]; exact ht
    have e1 : (vs.toArray ++ Array.replicate (fn.ntmps - vs.toArray.size) undef).getD t undef = vs[t] := by
     simp [Array.getElem?_append, ht]
    have e2 : args.getD t .j = args[t] := by simp [List.getD, hta]
    rw [e1, e2]
    exact hA.2 t _ _ (List.getElem?_eq_getElem ht) (List.getElem?_eq_getElem hta)
   ·have : args.getD t .j = .j := by
     simp only [List.getD]
     rw [List.getElem?_eq_none (by rw [← hA.1]; omega)]
     rfl
    rw [this]
    exact .j _
 refine Go.wp_mono (h _ hF) ?_
 rintro e a w' ⟨he, ι', fr', st', hs, asv, ob, hres, hob, hR', hF', hk⟩
 obtain ⟨v, hv, hav⟩ := results_sound hR' hF' hres hob
 have hpost := hk v hav
 rcases he with rfl | rfl
 ·exact ⟨hF'.defers, v, hv, hpost⟩
 ·exact ⟨hF'.defers, v, hv, hpost⟩

end
set_option linter.unusedVariables false
set_option linter.unusedSimpArgs false
set_option linter.unnecessarySimpa false

structure Bulk where
 f : {H : Type} → DataW H → Nat
 one : ∀ {H : Type} (d : DataW H), 1 ≤ f d
 str : ∀ {H : Type} (b : List UInt8), b.length + 1 ≤ f (DataW.lit (H := H) (.string b))
 sl : ∀ {H : Type} (e s : List (DataW H)), (e.map f).sum + 1 ≤ f (.slice e s)
 ag : ∀ {H : Type} (ps : List (DataW H)), (ps.map f).sum + 1 ≤ f (.agg ps)

abbrev noMut : Nat → Prop := fun _ => False

def RdOk (w : World) (cs : List Value) (ps : List PV) : Prop :=
 cs.length = ps.length ∧ ∀ (j : Nat) v p, cs[j]? = some v → ps[j]? = some p → PRel noMut w v p

theorem RdOk.one {w : World} {v : Value} {p : PV} (h : PRel noMut w v p) : RdOk w [v] [p] := by
 refine ⟨rfl, fun j v' p' h1 h2 => ?_⟩
 cases j with
 | zero => simp at h1 h2; subst h1; subst h2; exact h
 | succ j => simp at h1

theorem RdOk.nil {w : World} : RdOk w [] [] := ⟨rfl, fun j v p h => by simp at h⟩

theorem RdOk.app {w : World} {cs : List Value} {p q : List PV} {n : Nat} (h : RdOk w (cs.take n) p) (k : RdOk w (cs.drop n) q) (hn : p.length = n) : RdOk w cs (p ++ q) := by
 have e : cs = cs.take n ++ cs.drop n := (List.take_append_drop n cs).symm
 refine ⟨?_, fun j v x h1 h2 => ?_⟩
 ·have h1 := h.1; have h2 := k.1
  rw [List.length_append, ← h1, ← h2, ← List.length_append, ← e]
 ·by_cases hj : j < n
  ·rw [List.getElem?_append_left (by omega)] at h2
   refine h.2 j v x ?_ h2
   rw [List.getElem?_take, if_pos hj]; exact h1
  ·rw [List.getElem?_append_right (by omega)] at h2
   refine k.2 (j - n) v x ?_ (by rw [← hn]; exact h2)
   rw [List.getElem?_drop, show n + (j - n) = j by omega]; exact h1

section
variable (B : Bulk) (P : Program)

def RdB (N : Nat) (t : TypeId) {α : Type} (cells : α → List PV) (wf : α → Prop) (size : α → Nat) : Prop :=
 ∀ ⦃H : Type⦄ ⦃enc : TypeId × Value → H⦄ ⦃w : World⦄ ⦃base : Nat⦄ ⦃spare : Nat → Bool⦄ ⦃held : Bool⦄ ⦃fuel : Nat⦄ ⦃cs : List Value⦄ ⦃d : DataW H⦄ ⦃ps : List MemPlace⦄,
  DataW.trod enc P w base spare held fuel t cs = some (d, ps) → B.f d ≤ N → ∃ x, RdOk w cs (cells x) ∧ wf x ∧ size x ≤ B.f d

variable {B P}

theorem RdB.int {N : Nat} {t : TypeId} {k : IntKind} (ht : P.underlying t = some (.int k)) : RdB B P N t (fun n : Int => [.s (.int k n)]) (fun n => k.min ≤ n ∧ n ≤ k.max) (fun _ => 1) := by
 intro H enc w base spare held fuel cs d ps h hN
 obtain ⟨n, rfl, hx, hw⟩ := DataW.trod_int ht h
 refine ⟨n, .one (.s _ rfl), ?_, B.one d⟩
 simpa [Lit.wf] using hw

theorem RdB.bool {N : Nat} {t : TypeId} (ht : P.underlying t = some .bool) : RdB B P N t (fun b : Bool => [.s (.bool b)]) (fun _ => True) (fun _ => 1) := by
 intro H enc w base spare held fuel cs d ps h hN
 obtain ⟨b, rfl, hx⟩ := DataW.trod_bool ht h
 exact ⟨b, .one (.s _ rfl), trivial, B.one d⟩

theorem RdB.str {N : Nat} {t : TypeId} (ht : P.underlying t = some .string) : RdB B P N t (fun s : ByteArray => [.s (.string s)]) (fun _ => True) (fun s => s.size + 1) := by
 intro H enc w base spare held fuel cs d ps h hN
 obtain ⟨s, rfl, hx, hs⟩ := DataW.trod_string ht h
 simp only [Prod.mk.injEq] at hx
 obtain ⟨rfl, rfl⟩ := hx
 refine ⟨s, .one (.s _ rfl), trivial, ?_⟩
 have := B.str (H := H) s.data.toList
 simpa using this

theorem cell_lt {w : World} {a : Addr} {v : Value} (h : w.cell? a = some v) : a.block < w.heap.size := by
 unfold World.cell? at h
 split at h
 ·rename_i h1; exact (Array.getElem?_eq_some_iff.1 h1).1
 ·cases h

theorem sum_ge {α : Type} {f : α → Nat} {l : List α} {x : α} (h : x ∈ l) : f x ≤ (l.map f).sum := by
 induction l with
 | nil => cases h
 | cons y l ih =>
  simp only [List.map_cons, List.sum_cons]
  rcases List.mem_cons.1 h with rfl | h
  ·omega
  ·have := ih h; omega

theorem choose_list {α β : Type} {q : Nat → α → β → Prop} : ∀ {l : List α} , (∀ (i : Nat) a, l[i]? = some a → ∃ b, q i a b) → ∃ bs : List β, bs.length = l.length ∧ ∀ (i : Nat) a b, l[i]? = some a → bs[i]? = some b → q i a b := by
 intro l
 induction l generalizing q with
 | nil => intro _; exact ⟨[], rfl, fun i a b h => by simp at h⟩
 | cons x l ih =>
  intro h
  obtain ⟨b0, h0⟩ := h 0 x rfl
  obtain ⟨bs, hl, hb⟩ := ih (q := fun i => q (i + 1)) (fun i a hi => h (i + 1) a (by simpa using hi))
  refine ⟨b0 :: bs, by simp [hl], fun i a b h1 h2 => ?_⟩
  cases i with
  | zero => simp at h1 h2; subst h1; subst h2; exact h0
  | succ i => exact hb i a b (by simpa using h1) (by simpa using h2)

theorem sum_le_of {α β : Type} {f : α → Nat} {g : β → Nat} : ∀ {l : List α} {m : List β}, m.length = l.length → (∀ (i : Nat) a b, l[i]? = some a → m[i]? = some b → g b ≤ f a) → (m.map g).sum ≤ (l.map f).sum
 | [], [], _, _ => by simp
 | [], _ :: _, h, _ => by simp at h
 | _ :: _, [], h, _ => by simp at h
 | a :: l, b :: m, h, hk => by
  have h0 := hk 0 a b rfl rfl
  have := sum_le_of (f := f) (g := g) (l := l) (m := m) (by simpa using h) (fun i x y h1 h2 => hk (i + 1) x y (by simpa using h1) (by simpa using h2))
  simp only [List.map_cons, List.sum_cons]
  omega

theorem RdB.slice {N : Nat} {t e : TypeId} {α : Type} {cells : α → List PV} {wf : α → Prop} {size : α → Nat} (ht : P.underlying t = some (.slice e)) (hc : ∀ x, (cells x).length = P.cellsOf e)
  (hpos : 0 < P.cellsOf e) (h : ∀ N', N' < N → RdB B P N' e cells wf size) :
  RdB B P N t (fun xs : List α => [.ro (xs.map cells)]) (fun xs => ∀ x ∈ xs, wf x) (fun xs => (xs.map size).sum + 1) := by
 intro H enc w base spare held fuel cs d ps hd hN
 rcases DataW.trod_slice ht hd with ⟨rfl, hx⟩ | ⟨a, len, cap, elems, rest, n, _, rfl, hx, hb, hl, hm, hlen, hel, _, _⟩
 ·exact ⟨[], .one .nl, by simp, by simpa using B.one d⟩
 simp only [Prod.mk.injEq] at hx
 obtain ⟨rfl, rfl⟩ := hx
 have hsum := B.sl (elems.map (·.1)) (rest.map (·.1))
 have hel' : ∀ (i : Nat) z, elems[i]? = some z → ∃ x : α, (∃ cs', w.cells? base (a.add (i * P.cellsOf e)) (P.cellsOf e) = some cs' ∧ RdOk w cs' (cells x)) ∧ wf x ∧ size x ≤ B.f z.1 := by
  intro i z hz
  have hi : i < len := by rw [← hlen]; exact (List.getElem?_eq_some_iff.1 hz).1
  have hk := hel i hi
  rw [hz] at hk
  obtain ⟨cs', h1, h2⟩ := Option.bind_eq_some_iff.1 hk
  have hle : B.f z.1 ≤ ((elems.map (·.1)).map B.f).sum := sum_ge (f := B.f) (List.mem_map.2 ⟨z, List.mem_of_getElem? hz, rfl⟩)
  obtain ⟨x, k1, k2, k3⟩ := h (B.f z.1) (by omega) (d := z.1) (ps := z.2) h2 (Nat.le_refl _)
  exact ⟨x, ⟨cs', h1, k1⟩, k2, k3⟩
 obtain ⟨xs, hxl, hxs⟩ := choose_list hel'
 have hxlen : xs.length = len := by omega
 have key : ∀ (i : Nat) x, xs[i]? = some x → ∃ z, elems[i]? = some z ∧ (∃ cs', w.cells? base (a.add (i * P.cellsOf e)) (P.cellsOf e) = some cs' ∧ RdOk w cs' (cells x)) ∧ wf x ∧ size x ≤ B.f z.1 := by
  intro i x hx
  have hi : i < elems.length := by rw [← hxl]; exact (List.getElem?_eq_some_iff.1 hx).1
  exact ⟨_, List.getElem?_eq_getElem hi, hxs i _ x (List.getElem?_eq_getElem hi) hx⟩
 refine ⟨xs, .one ?_, ?_, ?_⟩
 ·have hcell : ∀ (i : Nat) (ee : List PV) (j : Nat) c, (xs.map cells)[i]? = some ee → ee[j]? = some c → ∃ v, w.cell? (a.add (i * P.cellsOf e + j)) = some v ∧ PRel noMut w v c := by
   intro i ee j c h1 h2
   rw [List.getElem?_map, Option.map_eq_some_iff] at h1
   obtain ⟨x, hx, rfl⟩ := h1
   obtain ⟨z, _, ⟨cs', hcs, hrd⟩, _, _⟩ := key i x hx
   obtain ⟨_, hcl, hcc⟩ := World.cells?_some hcs
   have hj : j < P.cellsOf e := by rw [← hc x]; exact (List.getElem?_eq_some_iff.1 h2).1
   have := hcc j hj
   rw [add_add] at this
   have hget : cs'[j]? = some cs'[j] := List.getElem?_eq_getElem (by omega)
   exact ⟨cs'[j], this.trans hget, hrd.2 j _ c hget h2⟩
  have := PRel.ro (μ := noMut) (w := w) a cap (P.cellsOf e) (xs.map cells) (fun i j => (w.cell? (a.add (i * P.cellsOf e + j))).getD undef) (by simpa [hxlen] using hl)
   (fun ee he => by obtain ⟨x, _, rfl⟩ := List.mem_map.1 he; exact hc x)
   (fun hne => by
    refine ⟨?_, fun h => h⟩
    cases xs with
    | nil => simp at hne
    | cons x0 r0 =>
     have h0 : 0 < (cells x0).length := by rw [hc]; exact hpos
     obtain ⟨v, hv, _⟩ := hcell 0 (cells x0) 0 _ rfl (List.getElem?_eq_getElem h0)
     have := cell_lt hv
     rwa [add_block] at this)
   (fun i ee j c h1 h2 => by obtain ⟨v, hv, _⟩ := hcell i ee j c h1 h2; simp [hv])
   (fun i ee j c h1 h2 => by obtain ⟨v, hv, hr⟩ := hcell i ee j c h1 h2; simpa [hv] using hr)
  rw [List.length_map, hxlen] at this
  exact this
 ·intro x hx
  obtain ⟨i, hi, rfl⟩ := List.getElem_of_mem hx
  obtain ⟨_, _, _, k, _⟩ := key i _ (List.getElem?_eq_getElem hi)
  exact k
 ·have : (xs.map size).sum ≤ ((elems.map (·.1)).map B.f).sum := by
   rw [List.map_map]
   exact sum_le_of (f := B.f ∘ Prod.fst) (g := size) hxl (fun i z x h1 h2 => (hxs i z x h1 h2).2.2)
  show (xs.map size).sum + 1 ≤ _
  omega

def RdF (B : Bulk) (P : Program) (N : Nat) (off : Nat) (fs : List Field) {α : Type} (cells : α → List PV) (wf : α → Prop) (size : α → Nat) : Prop :=
 ∀ ⦃H : Type⦄ ⦃enc : TypeId × Value → H⦄ ⦃w : World⦄ ⦃base : Nat⦄ ⦃spare : Nat → Bool⦄ ⦃held : Bool⦄ ⦃n : Nat⦄ ⦃cs : List Value⦄ ⦃xs : List (DataW H × List MemPlace)⦄,
  xs.length = fs.length → (∀ (i : Nat) f, fs[i]? = some f → DataW.trod enc P w base spare held n f.type ((cs.drop f.offset).take (P.cellsOf f.type)) = xs[i]?) → ((xs.map (·.1)).map B.f).sum ≤ N →
  cs.length = off + (fs.map fun f => P.cellsOf f.type).sum →
  ∃ x, RdOk w (cs.drop off) (cells x) ∧ wf x ∧ size x ≤ ((xs.map (·.1)).map B.f).sum

theorem RdF.nil {N off : Nat} : RdF B P N off [] (fun _ : Unit => []) (fun _ => True) (fun _ => 0) := by
 intro H enc w base spare held n cs xs hl h hN hc
 refine ⟨(), ?_, trivial, Nat.zero_le _⟩
 have : cs.drop off = [] := by simp at hc ⊢; omega
 rw [this]
 exact .nil

theorem RdF.cons {N off : Nat} {f : Field} {fs : List Field} {α β : Type} {c1 : α → List PV} {w1 : α → Prop} {s1 : α → Nat} {c2 : β → List PV} {w2 : β → Prop} {s2 : β → Nat} (ho : f.offset = off) (hc : ∀ x, (c1 x).length = P.cellsOf f.type)
  (h : RdB B P N f.type c1 w1 s1) (k : RdF B P N (off + P.cellsOf f.type) fs c2 w2 s2) : RdF B P N off (f :: fs) (fun p : α × β => c1 p.1 ++ c2 p.2) (fun p => w1 p.1 ∧ w2 p.2) (fun p => s1 p.1 + s2 p.2) := by
 intro H enc w base spare held n cs xs hl hx hN hlen
 match xs, hl with
 | z :: zs, hl =>
  simp only [List.map_cons, List.sum_cons] at hN hlen ⊢
  have h0 := hx 0 f rfl
  obtain ⟨x, a1, a2, a3⟩ := h (d := z.1) (ps := z.2) h0 (by omega)
  obtain ⟨y, b1, b2, b3⟩ := k (xs := zs) (cs := cs) (by simpa using hl) (fun i g hg => hx (i + 1) g (by simpa using hg)) (by omega) (by omega)
  refine ⟨(x, y), ?_, ⟨a2, b2⟩, by simp only; omega⟩
  rw [ho] at a1
  refine RdOk.app (n := P.cellsOf f.type) a1 ?_ (hc x)
  rw [List.drop_drop]
  exact b1

theorem RdB.struct {N : Nat} {t : TypeId} {fs : Array Field} {α β : Type} {c : β → List PV} {wf : β → Prop} {s : β → Nat} {cells : α → List PV} {wf' : α → Prop} {size : α → Nat} (ht : P.underlying t = some (.struct fs)) (hsz : P.cellsOf t = 0 + (fs.toList.map fun f => P.cellsOf f.type).sum)
  (h : ∀ N', N' < N → RdF B P N' 0 fs.toList c wf s) (mk : β → α) (h1 : ∀ y, cells (mk y) = c y) (h2 : ∀ y, wf y → wf' (mk y)) (h3 : ∀ y, size (mk y) ≤ s y + 1) : RdB B P N t cells wf' size := by
 intro H enc w base spare held fuel cs d ps hd hN
 obtain ⟨xs, n, _, hx, hlen, hxl, hf⟩ := DataW.trod_struct ht hd
 simp only [Prod.mk.injEq] at hx
 obtain ⟨rfl, rfl⟩ := hx
 have hag := B.ag (xs.map (·.1))
 obtain ⟨y, a1, a2, a3⟩ := h _ (show ((xs.map (·.1)).map B.f).sum < N by omega) (xs := xs) (cs := cs) (by simpa using hxl) (fun i f hi => hf i f (by simpa using hi)) (Nat.le_refl _) (hlen.trans hsz)
 refine ⟨mk y, ?_, h2 y a2, ?_⟩
 ·rw [h1]; simpa using a1
 ·have := h3 y; omega

theorem RdB.conv {N : Nat} {t : TypeId} {α : Type} {c c' : α → List PV} {wf wf' : α → Prop} {s s' : α → Nat} (h : RdB B P N t c wf s) (h1 : ∀ x, c' x = c x) (h2 : ∀ x, wf x → wf' x) (h3 : ∀ x, s' x ≤ s x) : RdB B P N t c' wf' s' := by
 intro H enc w base spare held fuel cs d ps hd hN
 obtain ⟨x, a1, a2, a3⟩ := h hd hN
 exact ⟨x, by rw [h1]; exact a1, h2 x a2, Nat.le_trans (h3 x) a3⟩

end

/-! ### arguments -/

theorem PRel.toVRel {w : World} {v : Value} {p : PV} (h : PRel noMut w v p) : VRel ⟨fun _ => none, fun _ => False⟩ w [] v (.pv p) :=
 .pv v p (h.mono (Nat.le_refl _) (fun b _ _ => ⟨rfl, fun hm => by
  rcases hm with hm | ⟨id, o, h1, _, _⟩
  ·exact hm
  ·simp at h1⟩))

theorem arg_one {w : World} {v : Value} {p : PV} (h : RdOk w [v] [p]) : AVRel ⟨fun _ => none, fun _ => False⟩ w [] v (.one (.pv p)) := .one _ _ (h.2 0 v p rfl rfl).toVRel

theorem arg_ag {w : World} {cs : List Value} {ps : List PV} (h : RdOk w cs ps) : AVRel ⟨fun _ => none, fun _ => False⟩ w [] (.agg cs.toArray) (.ag (ps.map .pv)) := by
 refine .ag _ _ ⟨by simpa using h.1, fun j v c h1 h2 => ?_⟩
 rw [List.getElem?_map, Option.map_eq_some_iff] at h2
 obtain ⟨p, h2, rfl⟩ := h2
 exact (h.2 j v p h1 h2).toVRel

theorem arg_read {B : Bulk} {P : Program} {H : Type} {enc : TypeId × Value → H} {w : World} {base b0 : Nat} {spare : Nat → Bool} {held : Bool} {r : Reach} {t : TypeId} {v : Value} {d : DataW H} {ps : List MemPlace} {α : Type} {cells : α → List PV} {wf : α → Prop} {size : α → Nat}
  (h : ∀ N, RdB B P N t cells wf size) (hval : Value.okWide P w r b0 t v) (hd : DataW.Trod enc P w base spare held t v d ps) :
  ∃ x, RdOk w v.cells.toList (cells x) ∧ wf x ∧ size x ≤ B.f d := by
 obtain ⟨fuel, hd⟩ := hd
 exact h _ hd (Nat.le_refl _)

theorem ok_struct {P : Program} {w : World} {r : Reach} {b0 : Nat} {t : TypeId} {v : Value} {fs : Array Field} (ht : P.underlying t = some (.struct fs)) (hval : Value.okWide P w r b0 t v) : v = .agg v.cells := by
 simp only [Value.okWide, ht] at hval
 obtain ⟨cs, rfl, _⟩ := hval
 rfl

theorem arg_struct {w : World} {v : Value} {ps : List PV} (hv : v = .agg v.cells) (h : RdOk w v.cells.toList ps) : AVRel ⟨fun _ => none, fun _ => False⟩ w [] v (.ag (ps.map .pv)) := by
 have := arg_ag h
 rw [hv]
 simpa [Value.cells] using this

theorem arg_cell {w : World} {v : Value} {p : PV} (h : RdOk w v.cells.toList [p]) (hv : ∀ cs, v ≠ .agg cs) : AVRel ⟨fun _ => none, fun _ => False⟩ w [] v (.one (.pv p)) := by
 have e : v.cells = #[v] := by cases v <;> first | rfl | exact absurd rfl (hv _)
 rw [e] at h
 exact arg_one h

theorem ok_cell {P : Program} {w : World} {r : Reach} {b0 : Nat} {t : TypeId} {v : Value} (ht : (match P.underlying t with | some (.int _) => true | some .bool => true | some .string => true | some (.slice _) => true | _ => false) = true) (hval : Value.okWide P w r b0 t v) : ∀ cs, v ≠ .agg cs := by
 rintro cs rfl
 cases hu : P.underlying t with
 | none => simp [hu] at ht
 | some d =>
  cases d <;> simp [hu] at ht <;> simp [Value.okWide, hu, Cell.okWide, Cell.ok] at hval

/-! ### closing -/

structure Kept (w w' : World) : Prop where
 os : w'.os = w.os
 output : w'.output = w.output
 size : w.heap.size ≤ w'.heap.size
 blk : ∀ b : Nat, b < w.heap.size → w'.heap[b]? = w.heap[b]?

theorem PC.call {P : Program} {f : Nat} {args : List AV} {r : AV} (h : PC P f args r) {w : World} {vs : List Value} (hl : vs.length = args.length) (hA : ∀ (j : Nat) v a, vs[j]? = some v → args[j]? = some a → AVRel ⟨fun _ => none, fun _ => False⟩ w [] v a) (hg : ∀ (b : Nat) (l : List Value), glob b = some l → b < w.heap.size ∧ GAt w b l) :
  Calls P f vs.toArray w fun e w' => ∃ v ι', e = .returned v ∧ AVRel ι' w' [] v r ∧ Kept w w' := by
 refine (h ⟨fun _ => none, fun _ => False⟩ w vs ⟨fun id o h => by simp at h, fun b h => h.elim, fun b h => fun h' => h', fun id id' o o' b h => by simp at h, fun b o h => ⟨fun hm => hm.elim id (fun ⟨_, _, h1, _⟩ => by simp at h1), hg b o h⟩⟩ ⟨hl, hA⟩).mono ?_
 rintro e w' ⟨v, av, st', ι', rfl, ⟨rfl, rfl⟩, hR, hv, k⟩
 refine ⟨v, ι', rfl, hv, k.os, k.output, k.size, fun b hb => (k.blk b hb ?_).1⟩
 rintro ⟨id, o, h1, _⟩
 simp at h1

theorem Kept.keptBut {w w' : World} (k : Kept w w') (may : MemPlace → Prop) : w.keptBut w' may := by
 refine ⟨k.os, k.output, fun i hi => ?_⟩
 rw [k.blk i hi]
 have : w.heap[i]? = some w.heap[i] := Array.getElem?_eq_getElem hi
 rw [this]
 cases w.heap[i] with
 | cells c t fr => exact ⟨rfl, rfl, rfl, fun _ _ => rfl⟩
 | map es clock => exact .inr ⟨rfl, rfl⟩
 | _ => rfl

theorem Kept.frozen {w w' : World} (k : Kept w w') {b off : Nat} (hb : b < w.heap.size) : w'.frozen? ⟨b, off, none⟩ = w.frozen? ⟨b, off, none⟩ := by
 simp [World.frozen?, k.blk b hb]

open Go.ChangeShapes Go.WideElems Go.WideShapes in
theorem stays_all {H : Type} {enc : TypeId × Value → H} {P : Program} {W W' : World} (hl : laidOutB P = true) (k : Kept W W') {sp : Nat → Bool} : ∀ {ts : List TypeId} {vs : List Value} {ds : List (DataW H)} {ps : List MemPlace}, (ts.all fun t => P.readableRec t && Nat.ble (t + 1) P.types.size) = true →
  DataW.TrodAll enc P W 0 (fun _ => true) true ts vs ds ps → (∀ p ∈ ps, p.block < W.heap.size) → (∀ p ∈ ps, sp p.block = true) → DataW.TrodAll enc P W' 0 sp true ts vs ds ps
 | [], _, _, _, _, h, _, _ => by
  obtain ⟨rfl, rfl, rfl⟩ := trodAll_nil h
  exact rfl
 | t :: ts, _, _, _, hr, h, hp, hs => by
  obtain ⟨v, vs1, d, ds1, a, b, rfl, rfl, rfl, h1, h2⟩ := trodAll_cons h
  simp only [List.all_cons, Bool.and_eq_true] at hr
  refine ⟨a, b, Trod_stays hl hr.1.1 (Nat.le_of_ble_eq_true hr.1.2) h1 (fun p hpa => ?_) (fun p hpa => hs p (by simp [hpa])), stays_all hl k hr.2 h2 (fun p hpa => hp p (by simp [hpa])) (fun p hpa => hs p (by simp [hpa])), rfl⟩
  have := hp p (by simp [hpa])
  cases p with
  | cell b off => exact cell?_same (k.blk b this)
  | map b => exact k.blk b this

open Go.ChangeShapes Go.RowKit Go.WideShapes Go.ChangeAt in
theorem post_true {H : Type} {enc : TypeId × Value → H} {P : Program} {f : Func} {s : ChangeSpec} {apart fresh handsOn again : Bool} {W W' : World} {args : Array Value} {ds gs : List (DataW H)} {before : List MemPlace}
  (hW : DataW.Whole enc P f.params.toList s.vars apart W args.toList ds gs before) (hl : laidOutB P = true) (hr : (f.params.toList.all fun t => P.readableRec t && Nat.ble (t + 1) P.types.size) = true) (k : Kept W W')
  (hvars : s.vars = []) (t : TypeId) (ht : f.resultTypes = #[t]) (hb : P.underlying t = some .bool) (hsp : s.fn H ds = { results := [.lit (.bool true)], args := ds }) :
  s.post enc P f apart fresh handsOn again W args (.bool true) W' := by
 have hW' := hW
 have hlt : ∀ p ∈ before, p.block < W.heap.size := fun p hp => hW.lt p hp
 obtain ⟨p, q, hA, hV, rfl, hz, hn⟩ := hW'
 rw [hvars] at hV
 obtain ⟨rfl, rfl⟩ := trodVars_none hV
 have hres : ∀ (b : Nat) (sp : Nat → Bool) (hd : Bool), DataW.TrodAll enc P W' b sp hd f.resultTypes.toList ((Value.bool true).resultList f.resultTypes.size) [.lit (.bool true)] [] := by
  intro b sp hd
  rw [ht]
  exact trodAll_cons_mk (shut_bool hb _) trodAll_mk0
 simp only [List.append_nil] at *
 have hargs : ∀ sp : Nat → Bool, (∀ x ∈ p, sp x.block = true) → DataW.TrodAll enc P W' 0 sp true f.params.toList args.toList ds p := fun sp hs => stays_all hl k hr hA hlt hs
 have hold : ∀ x ∈ p, (fun b => decide (b < W.heap.size)) x.block = true := fun x hx => by simpa using hlt x hx
 refine ⟨ds, [], p, [], p, [], by simpa using hW, ?_, ?_, ?_, k.keptBut _, fun _ => ⟨?_, [.lit (.bool true)] ++ ds, [], p, ⟨p, [], ?_, ?_, by simp, ?_, hn⟩, ?_⟩⟩
 ·simp only [List.append_nil, hsp]; exact hres _ _ _
 ·simp only [List.append_nil, hsp]; exact hargs _ hold
 ·simp only [List.append_nil, hsp, hvars]; rfl
 ·exact ok_one ht rfl (okWide_bool_mk hb _)
 ·have := trodAll_append (hargs (fun _ => true) (fun _ _ => rfl)) (hres 0 (fun _ => true) true)
  simpa using this
 ·rw [hvars]; rfl
 ·intro b off hp
  rw [k.frozen (b := b) (off := off) (hlt _ hp)]
  exact hz b off hp
 ·intro x hx _; exact hx

theorem bool_of {ι : IM} {w : World} {v : Value} {b : Bool} (h : AVRel ι w [] v (.one (.pv (.s (.bool b))))) : v = .bool b := by
 cases h with
 | one _ _ h =>
  cases h with
  | pv _ _ h => cases h with | s => rfl

set_option linter.unusedVariables false

def fieldsOf (P : Program) (t : TypeId) : List Field := match P.underlying t with
 | some (.struct fs) => fs.toList
 | _ => []

def isStruct (P : Program) (t : TypeId) : Bool := match P.underlying t with
 | some (.struct _) => true
 | _ => false

def fld (P : Program) (t : TypeId) (i : Nat) : Field := (fieldsOf P t)[i]?.getD default

section
variable {B : Bulk} {P : Program}

theorem RdB.structF {N : Nat} {t : TypeId} {L : List Field} {α β : Type} {c : β → List PV} {wf : β → Prop} {s : β → Nat} {cells : α → List PV} {wf' : α → Prop} {size : α → Nat} (hu : isStruct P t = true) (hL : fieldsOf P t = L) (hsz : P.cellsOf t = 0 + (L.map fun f => P.cellsOf f.type).sum)
  (h : ∀ N', N' < N → RdF B P N' 0 L c wf s) (mk : β → α) (h1 : ∀ y, cells (mk y) = c y) (h2 : ∀ y, wf y → wf' (mk y)) (h3 : ∀ y, size (mk y) ≤ s y + 1) : RdB B P N t cells wf' size := by
 unfold isStruct at hu
 unfold fieldsOf at hL
 cases hd : P.underlying t with
 | none => simp [hd] at hu
 | some d =>
  cases d <;> simp [hd] at hu
  rename_i fs
  simp only [hd] at hL
  subst hL
  exact RdB.struct hd hsz h mk h1 h2 h3

theorem ok_structF {w : World} {r : Reach} {b0 : Nat} {t : TypeId} {v : Value} (hu : isStruct P t = true) (hval : Value.okWide P w r b0 t v) : v = .agg v.cells := by
 unfold isStruct at hu
 cases hd : P.underlying t with
 | none => simp [hd] at hu
 | some d =>
  cases d <;> simp [hd] at hu
  exact ok_struct hd hval

end

set_option linter.unusedVariables false
set_option linter.unusedSimpArgs false

theorem rdTransform {B : Bulk} {P : Program} (t i : TypeId) (hi : P.underlying i = some (.int .i64)) (hu : isStruct P t = true) (hL : fieldsOf P t = [fld P t 0, fld P t 1]) (hs : P.cellsOf t = 2) (h1 : P.cellsOf i = 1)
  (ht : (fld P t 0).type = i ∧ (fld P t 1).type = i) (ho : (fld P t 0).offset = 0 ∧ (fld P t 1).offset = 1) (N : Nat) :
  RdB B P N t (fun c : GTransform => [pi c.kind, pi c.param]) (fun _ => True) (fun _ => 1) := by
 obtain ⟨t0, t1⟩ := ht
 obtain ⟨o0, o1⟩ := ho
 have I : ∀ (N : Nat) (f : Field), f.type = i → RdB B P N f.type (fun n : Int => [.s (.int .i64 n)]) (fun n => IntKind.min .i64 ≤ n ∧ n ≤ IntKind.max .i64) (fun _ => 1) := fun N f hf => RdB.int (by rw [hf]; exact hi)
 have C : ∀ (f : Field), f.type = i → ∀ x : Int, ([PV.s (.int .i64 x)] : List PV).length = P.cellsOf f.type := fun f hf x => by rw [hf, h1]; rfl
 refine RdB.structF (α := GTransform) (cells := fun c : GTransform => [pi c.kind, pi c.param]) (wf' := fun _ => True) (size := fun _ => 1) hu hL (by simp [t0, t1, h1, hs]) (fun N' _ => RdF.cons o0 (C _ t0) (I N' _ t0) (RdF.cons (by rw [o1, t0, h1]) (C _ t1) (I N' _ t1) RdF.nil))
  (fun y => (⟨y.1, y.2.1⟩ : GTransform)) (fun y => rfl) (fun _ _ => trivial) (fun y => by simp)

set_option linter.unusedVariables false
set_option linter.unusedSimpArgs false

theorem rdSpecField {B : Bulk} {P : Program} (tf tt ti : TypeId) (hi : P.underlying ti = some (.int .i64)) (hu : isStruct P tf = true) (hu' : isStruct P tt = true) (hL : fieldsOf P tf = [fld P tf 0, fld P tf 1]) (hL' : fieldsOf P tt = [fld P tt 0, fld P tt 1]) (hz : P.cellsOf tf = 3 ∧ P.cellsOf tt = 2 ∧ P.cellsOf ti = 1)
  (ht : (fld P tf 0).type = ti ∧ (fld P tf 1).type = tt ∧ (fld P tt 0).type = ti ∧ (fld P tt 1).type = ti) (ho : (fld P tf 0).offset = 0 ∧ (fld P tf 1).offset = 1 ∧ (fld P tt 0).offset = 0 ∧ (fld P tt 1).offset = 1) (N : Nat) :
  RdB B P N tf spfC (fun _ => True) (fun _ => 1) := by
 obtain ⟨t0, t1, t2, t3⟩ := ht
 obtain ⟨o0, o1, o2, o3⟩ := ho
 obtain ⟨z0, z1, z2⟩ := hz
 have I : ∀ (N : Nat) (f : Field), f.type = ti → RdB B P N f.type (fun n : Int => [.s (.int .i64 n)]) (fun n => IntKind.min .i64 ≤ n ∧ n ≤ IntKind.max .i64) (fun _ => 1) := fun N f hf => RdB.int (by rw [hf]; exact hi)
 have C : ∀ (f : Field), f.type = ti → ∀ x : Int, ([PV.s (.int .i64 x)] : List PV).length = P.cellsOf f.type := fun f hf x => by rw [hf, z2]; rfl
 have T : ∀ N, RdB B P N (fld P tf 1).type (fun c : GTransform => [pi c.kind, pi c.param]) (fun _ => True) (fun _ => 1) := fun N => by
  rw [t1]; exact rdTransform tt ti hi hu' hL' z1 z2 ⟨t2, t3⟩ ⟨o2, o3⟩ N
 refine RdB.structF (α := GSpecField) (cells := spfC) (wf' := fun _ => True) (size := fun _ => 1) hu hL (by simp [t0, t1, z0, z1, z2]) (fun N' _ =>
  RdF.cons o0 (C _ t0) (I N' _ t0) (RdF.cons (c1 := fun c : GTransform => [pi c.kind, pi c.param]) (by rw [o1, t0, z2]) (fun x => by rw [t1, z1]; rfl) (T N') RdF.nil))
  (fun y => (⟨y.1, y.2.1⟩ : GSpecField)) (fun y => rfl) (fun _ _ => trivial) (fun y => by simp)

theorem rdSpec {B : Bulk} {P : Program} (t tl tf tt ti : TypeId) (hl : P.underlying tl = some (.slice tf)) (h0 : isStruct P t = true) (hL0 : fieldsOf P t = [fld P t 0]) (hz0 : P.cellsOf t = 1 ∧ P.cellsOf tl = 1) (ht0 : (fld P t 0).type = tl) (ho0 : (fld P t 0).offset = 0)
  (hi : P.underlying ti = some (.int .i64)) (hu : isStruct P tf = true) (hu' : isStruct P tt = true) (hL : fieldsOf P tf = [fld P tf 0, fld P tf 1]) (hL' : fieldsOf P tt = [fld P tt 0, fld P tt 1]) (hz : P.cellsOf tf = 3 ∧ P.cellsOf tt = 2 ∧ P.cellsOf ti = 1)
  (ht : (fld P tf 0).type = ti ∧ (fld P tf 1).type = tt ∧ (fld P tt 0).type = ti ∧ (fld P tt 1).type = ti) (ho : (fld P tf 0).offset = 0 ∧ (fld P tf 1).offset = 1 ∧ (fld P tt 0).offset = 0 ∧ (fld P tt 1).offset = 1) (N : Nat) :
  RdB B P N t (fun x : GSpec => [PV.ro (eSpecField.els x.fields)]) (fun _ => True) (fun x => x.fields.length) := by
 have hS : ∀ N, RdB B P N (fld P t 0).type (fun xs : List GSpecField => [PV.ro (xs.map spfC)]) (fun xs => ∀ x ∈ xs, True) (fun xs => (xs.map fun _ => 1).sum + 1) := fun N => by
  rw [ht0]; exact RdB.slice (e := tf) (cells := spfC) hl (fun x => by rw [hz.1]; rfl) (by rw [hz.1]; omega) (fun N' _ => rdSpecField tf tt ti hi hu hu' hL hL' hz ht ho N')
 refine RdB.structF (α := GSpec) (cells := fun x : GSpec => [PV.ro (eSpecField.els x.fields)]) (wf' := fun _ => True) (size := fun x => x.fields.length) h0 hL0 (by simp [ht0, hz0]) (fun N' _ =>
  RdF.cons (c1 := fun xs : List GSpecField => [PV.ro (xs.map spfC)]) ho0 (fun x => by rw [ht0, hz0.2]; rfl) (hS N') RdF.nil)
  (fun y => (⟨y.1⟩ : GSpec)) (fun y => ?_) (fun _ _ => trivial) (fun y => ?_)
 ·show [PV.ro (eSpecField.els y.1)] = [PV.ro (y.1.map spfC)] ++ []
  rw [eSpecField.hels]; rfl
 ·show y.1.length ≤ (y.1.map fun _ => 1).sum + 1 + 0 + 1
  have : ∀ l : List GSpecField, (l.map fun _ => 1).sum = l.length := fun l => by induction l with
   | nil => rfl
   | cons a l ih => simp only [List.map_cons, List.sum_cons, List.length_cons, ih]; omega
  rw [this]; omega

set_option linter.unusedVariables false

abbrev i64ok (n : Int) : Prop := IntKind.min .i64 ≤ n ∧ n ≤ IntKind.max .i64

set_option linter.unusedVariables false
set_option linter.unusedSimpArgs false

theorem rdField {B : Bulk} {P : Program} {wfT : GType → Prop} {szT : GType → Nat} {wfF : GField → Prop} {szF : GField → Nat} (tt tf ti ts tb : TypeId) (hi : P.underlying ti = some (.int .i64)) (hs : P.underlying ts = some .string) (hb : P.underlying tb = some .bool) (hu : isStruct P tf = true)
  (hL : fieldsOf P tf = [fld P tf 0, fld P tf 1, fld P tf 2, fld P tf 3]) (hz : P.cellsOf tf = 6 ∧ P.cellsOf tt = 3 ∧ P.cellsOf ti = 1 ∧ P.cellsOf ts = 1 ∧ P.cellsOf tb = 1)
  (ht : (fld P tf 0).type = ti ∧ (fld P tf 1).type = ts ∧ (fld P tf 2).type = tb ∧ (fld P tf 3).type = tt)
  (ho : (fld P tf 0).offset = 0 ∧ (fld P tf 1).offset = 1 ∧ (fld P tf 2).offset = 2 ∧ (fld P tf 3).offset = 3)
  (hwf : ∀ i n q t, i64ok i → wfT t → wfF ⟨i, n, q, t⟩) (hsz : ∀ i n q t, szF ⟨i, n, q, t⟩ ≤ n.size + szT t + 4) {N : Nat} (ih : ∀ N', N' < N → RdB B P N' tt GType.cells wfT szT) :
  RdB B P N tf GType.fcell wfF szF := by
 obtain ⟨t0, t1, t2, t3⟩ := ht
 obtain ⟨o0, o1, o2, o3⟩ := ho
 obtain ⟨z0, z1, z2, z3, z4⟩ := hz
 refine RdB.structF (α := GField) (cells := GType.fcell) (wf' := wfF) (size := szF) hu hL (by simp [t0, t1, t2, t3, z0, z1, z2, z3, z4]) (fun N' hN' =>
  RdF.cons (c1 := fun n : Int => [PV.s (.int .i64 n)]) o0 (fun x => by rw [t0, z2]; rfl) (RdB.int (by rw [t0]; exact hi))
   (RdF.cons (c1 := fun s : ByteArray => [PV.s (.string s)]) (by rw [o1, t0, z2]) (fun x => by rw [t1, z3]; rfl) (RdB.str (by rw [t1]; exact hs))
    (RdF.cons (c1 := fun b : Bool => [PV.s (.bool b)]) (by rw [o2, t0, t1, z2, z3]) (fun x => by rw [t2, z4]; rfl) (RdB.bool (by rw [t2]; exact hb))
     (RdF.cons (c1 := GType.cells) (by rw [o3, t0, t1, t2, z2, z3, z4]) (fun x => by rw [t3, z1]; cases x; rfl) (by rw [t3]; exact ih N' hN') RdF.nil))))
  (fun y => (⟨y.1, y.2.1, y.2.2.1, y.2.2.2.1⟩ : GField)) (fun y => ?_) (fun y h => hwf _ _ _ _ h.1 h.2.2.2.1) (fun y => ?_)
 ·simp only [GType.fcell, List.append_nil]
  rfl
 ·have := hsz y.1 y.2.1 y.2.2.1 y.2.2.2.1
  exact Nat.le_trans this (by show _ ≤ 1 + ((y.2.1).size + 1 + (1 + (szT y.2.2.2.1 + 0))) + 1; omega)

theorem rdType {B : Bulk} {P : Program} {wfT : GType → Prop} {szT : GType → Nat} {wfF : GField → Prop} {szF : GField → Nat} (tt tf ti ts tb tl : TypeId) (hi : P.underlying ti = some (.int .i64)) (hs : P.underlying ts = some .string) (hb : P.underlying tb = some .bool)
  (hl : P.underlying tl = some (.slice tf)) (hu : isStruct P tf = true) (hu' : isStruct P tt = true)
  (hL : fieldsOf P tf = [fld P tf 0, fld P tf 1, fld P tf 2, fld P tf 3]) (hL' : fieldsOf P tt = [fld P tt 0, fld P tt 1, fld P tt 2]) (hz : P.cellsOf tf = 6 ∧ P.cellsOf tt = 3 ∧ P.cellsOf ti = 1 ∧ P.cellsOf ts = 1 ∧ P.cellsOf tb = 1) (hzl : P.cellsOf tl = 1)
  (ht : (fld P tf 0).type = ti ∧ (fld P tf 1).type = ts ∧ (fld P tf 2).type = tb ∧ (fld P tf 3).type = tt)
  (ho : (fld P tf 0).offset = 0 ∧ (fld P tf 1).offset = 1 ∧ (fld P tf 2).offset = 2 ∧ (fld P tf 3).offset = 3)
  (ht' : (fld P tt 0).type = ti ∧ (fld P tt 1).type = ti ∧ (fld P tt 2).type = tl)
  (ho' : (fld P tt 0).offset = 0 ∧ (fld P tt 1).offset = 1 ∧ (fld P tt 2).offset = 2)
  (hwf : ∀ i n q t, i64ok i → wfT t → wfF ⟨i, n, q, t⟩) (hsz : ∀ i n q t, szF ⟨i, n, q, t⟩ ≤ n.size + szT t + 4)
  (hwf' : ∀ k s fs, i64ok k → i64ok s → (∀ f ∈ fs, wfF f) → wfT ⟨k, s, fs⟩) (hsz' : ∀ k s fs, szT ⟨k, s, fs⟩ ≤ (fs.map szF).sum + 4) :
  ∀ N, RdB B P N tt GType.cells wfT szT := by
 intro N
 induction N using Nat.strongRecOn with
 | _ N ih =>
  have hF : ∀ N', N' ≤ N → RdB B P N' tf GType.fcell wfF szF := fun N' h => rdField tt tf ti ts tb hi hs hb hu hL hz ht ho hwf hsz (fun N'' h'' => ih N'' (by omega))
  obtain ⟨t0, t1, t2⟩ := ht'
  obtain ⟨o0, o1, o2⟩ := ho'
  obtain ⟨z0, z1, z2, z3, z4⟩ := hz
  refine RdB.structF (α := GType) (cells := GType.cells) (wf' := wfT) (size := szT) hu' hL' (by simp [t0, t1, t2, z1, z2, hzl]) (fun N' hN' =>
   RdF.cons (c1 := fun n : Int => [PV.s (.int .i64 n)]) o0 (fun x => by rw [t0, z2]; rfl) (RdB.int (by rw [t0]; exact hi))
    (RdF.cons (c1 := fun n : Int => [PV.s (.int .i64 n)]) (by rw [o1, t0, z2]) (fun x => by rw [t1, z2]; rfl) (RdB.int (by rw [t1]; exact hi))
     (RdF.cons (c1 := fun xs : List GField => [PV.ro (xs.map GType.fcell)]) (by rw [o2, t0, t1, z2]) (fun x => by rw [t2, hzl]; rfl)
      (RdB.slice (e := tf) (by rw [t2]; exact hl) (fun x => by rw [z0]; obtain ⟨_, _, _, ⟨_, _, _⟩⟩ := x; rfl) (by omega) (fun N'' hN'' => hF N'' (by omega))) RdF.nil)))
   (fun y => (⟨y.1, y.2.1, y.2.2.1⟩ : GType)) (fun y => ?_) (fun y h => hwf' _ _ _ h.1 h.2.1 h.2.2.1) (fun y => ?_)
  ·simp only [GType.cells, GType.fcells_eq]
   rfl
  ·have := hsz' y.1 y.2.1 y.2.2.1
   exact Nat.le_trans this (by show _ ≤ 1 + (1 + ((y.2.2.1.map szF).sum + 1 + 0)) + 1; omega)

set_option linter.unusedVariables false
set_option linter.unusedSimpArgs false

theorem rdFields {B : Bulk} {P : Program} {wfT : GType → Prop} {szT : GType → Nat} {wfF : GField → Prop} {szF : GField → Nat} {szL : List GField → Nat} (tt tf ti ts tb tl : TypeId) (hi : P.underlying ti = some (.int .i64)) (hs : P.underlying ts = some .string) (hb : P.underlying tb = some .bool)
  (hl : P.underlying tl = some (.slice tf)) (hu : isStruct P tf = true) (hu' : isStruct P tt = true)
  (hL : fieldsOf P tf = [fld P tf 0, fld P tf 1, fld P tf 2, fld P tf 3]) (hL' : fieldsOf P tt = [fld P tt 0, fld P tt 1, fld P tt 2]) (hz : P.cellsOf tf = 6 ∧ P.cellsOf tt = 3 ∧ P.cellsOf ti = 1 ∧ P.cellsOf ts = 1 ∧ P.cellsOf tb = 1) (hzl : P.cellsOf tl = 1)
  (ht : (fld P tf 0).type = ti ∧ (fld P tf 1).type = ts ∧ (fld P tf 2).type = tb ∧ (fld P tf 3).type = tt)
  (ho : (fld P tf 0).offset = 0 ∧ (fld P tf 1).offset = 1 ∧ (fld P tf 2).offset = 2 ∧ (fld P tf 3).offset = 3)
  (ht' : (fld P tt 0).type = ti ∧ (fld P tt 1).type = ti ∧ (fld P tt 2).type = tl)
  (ho' : (fld P tt 0).offset = 0 ∧ (fld P tt 1).offset = 1 ∧ (fld P tt 2).offset = 2)
  (hwf : ∀ i n q t, i64ok i → wfT t → wfF ⟨i, n, q, t⟩) (hsz : ∀ i n q t, szF ⟨i, n, q, t⟩ ≤ n.size + szT t + 4)
  (hwf' : ∀ k s fs, i64ok k → i64ok s → (∀ f ∈ fs, wfF f) → wfT ⟨k, s, fs⟩) (hsz' : ∀ k s fs, szT ⟨k, s, fs⟩ ≤ (fs.map szF).sum + 4) (hszl : ∀ xs, szL xs ≤ (xs.map szF).sum + 1) (N : Nat) :
  RdB B P N tl (fun xs : List GField => [PV.ro (eField.els xs)]) (fun xs => ∀ x ∈ xs, wfF x) szL := by
 have hT := rdType (B := B) (P := P) tt tf ti ts tb tl hi hs hb hl hu hu' hL hL' hz hzl ht ho ht' ho' hwf hsz hwf' hsz'
 have hF : ∀ N, RdB B P N tf GType.fcell wfF szF := fun N => rdField tt tf ti ts tb hi hs hb hu hL hz ht ho hwf hsz (fun N' _ => hT N')
 refine RdB.conv (RdB.slice (e := tf) (cells := GType.fcell) hl (fun x => by rw [hz.1]; obtain ⟨_, _, _, ⟨_, _, _⟩⟩ := x; rfl) (by rw [hz.1]; omega) (fun N' _ => hF N')) (fun x => ?_) (fun x h => h) hszl
 show [PV.ro (GType.fcells x)] = _
 rw [GType.fcells_eq]

set_option linter.unusedVariables false

set_option linter.unusedVariables false

end Go.SX
