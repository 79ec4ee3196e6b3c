/- SX: a machine that runs the program's code over frames up to the next event (a condition, a call, a list's operation); proofs name the events only. SX: the events' rules. SX: the events' rules, second part: objects. SX: the events' rules, third part: lists of our own. SX: the events' rules, fourth part: operations on lists of our own. The program's data as Lean's, with their cells. SX: functions whose contract is given over plain worlds; utf8.ValidString by the shelf's contract. SX: functions that the model stands in for, at any arguments; bytes.Compare. SX: the way from a given row to a contract of pure values: reading the arguments, and closing the row. SX: readings of structs by the program's own fields. SX: a struct of two integers, read. SX: a specification, read. SX: readings of values and types. Types out of rows. Lists of fields out of rows. Lists of values, of numbers, of bytes out of rows. Lists of lists of values out of rows. -/
import Derived.Shelf.Unicode.ValidAny
import Derived.Lib.Bytealg
import Derived.OpenShut
import Derived.JoinedCond
import Derived.WideKeyArgs
import Derived.Test.YtbfekiekbifgcaaGreatDoorSxB
set_option linter.unusedVariables false
set_option linter.unusedSimpArgs false
set_option linter.unnecessarySimpa false
namespace Go.SX
open Go
section force
variable {β : Type}
def fN (n : Nat) (K : Nat → β) : β :=
 bif Nat.beq n 0 then K 0 else bif Nat.beq n 1 then K 1 else bif Nat.beq n 2 then K 2 else bif Nat.beq n 3 then K 3 else
 bif Nat.beq n 4 then K 4 else bif Nat.beq n 5 then K 5 else bif Nat.beq n 6 then K 6 else bif Nat.beq n 7 then K 7 else
 bif Nat.beq n 8 then K 8 else bif Nat.beq n 9 then K 9 else bif Nat.beq n 10 then K 10 else bif Nat.beq n 11 then K 11 else
 bif Nat.beq n 12 then K 12 else bif Nat.beq n 13 then K 13 else K n
theorem J2 (n : Nat) (K : Nat → β) : fN n K = K n := by
 have h : ∀ (m : Nat) (r : β), r = K n → (bif Nat.beq n m then K m else r) = K n := by
  intro m r hr
  cases hb : Nat.beq n m with
  | true => rw [Nat.eq_of_beq_eq_true hb]; rfl
  | false => exact hr
 unfold fN
 repeat first | exact rfl | apply h
def fV (v : Value) (K : Value → β) : β := match v with
 | .int k n => K (.int k n)
 | .bool b => K (.bool b)
 | .string s => K (.string s)
 | .slice none 0 0 => K (.slice none 0 0)
 | v => K v
theorem Mz (v : Value) (K : Value → β) : fV v K = K v := by unfold fV; split <;> rfl
def M4 (p : PV) (K : PV → β) : β := match p with
 | .s v => fV v fun v => K (.s v)
 | .ro els => K (.ro els)
 | .rp els i off => fN off fun off => K (.rp els i off)
 | .fn f caps => K (.fn f caps)
theorem Im (p : PV) (K : PV → β) : M4 p K = K p := by unfold M4; split <;> simp only [Mz, J2]
def MN : List PV → (List PV → β) → β
 | [], K => K []
 | p :: l, K => M4 p fun p => MN l fun l => K (p :: l)
theorem Io : ∀ (l : List PV) (K : List PV → β), MN l K = K l
 | [], K => rfl
 | p :: l, K => by simp only [MN, Im, Io l]
def fP (p : PV) (K : PV → β) : β := match p with
 | .fn f caps => MN caps fun caps => K (.fn f caps)
 | p => M4 p K
theorem Kb (p : PV) (K : PV → β) : fP p K = K p := by unfold fP; split <;> simp only [Io, Im]
def MR (c : CV) (K : CV → β) : β := match c with
 | .pv p => fP p fun p => K (.pv p)
 | .pt id sz i off => fN id fun id => fN off fun off => K (.pt id sz i off)
 | .sl id sz off len => fN id fun id => K (.sl id sz off len)
 | .fn f caps => K (.fn f caps)
 | .mp id => fN id fun id => K (.mp id)
 | .cl els => K (.cl els)
theorem IE (c : CV) (K : CV → β) : MR c K = K c := by unfold MR; split <;> simp only [Kb, J2]
def LH : List CV → (List CV → β) → β
 | [], K => K []
 | p :: l, K => MR p fun p => LH l fun l => K (p :: l)
theorem Bp : ∀ (l : List CV) (K : List CV → β), LH l K = K l
 | [], K => rfl
 | p :: l, K => by simp only [LH, IE, Bp l]
def fC (c : CV) (K : CV → β) : β := match c with
 | .fn f caps => LH caps fun caps => K (.fn f caps)
 | c => MR c K
theorem MA (c : CV) (K : CV → β) : fC c K = K c := by unfold fC; split <;> simp only [Bp, IE]
def M9 (a : AV) (K : AV → β) : β := match a with
 | .j => K .j
 | .one c => fC c fun c => K (.one c)
 | .ag cs => LH cs fun cs => K (.ag cs)
 | .tp vs => K (.tp vs)
theorem Ik (a : AV) (K : AV → β) : M9 a K = K a := by unfold M9; split <;> simp only [MA, Bp]
def M7 : List AV → (List AV → β) → β
 | [], K => K []
 | p :: l, K => M9 p fun p => M7 l fun l => K (p :: l)
theorem Hn : ∀ (l : List AV) (K : List AV → β), M7 l K = K l
 | [], K => rfl
 | p :: l, K => by simp only [M7, Ik, Hn l]
def fA (a : AV) (K : AV → β) : β := match a with
 | .tp vs => M7 vs fun vs => K (.tp vs)
 | a => M9 a K
theorem rT (a : AV) (K : AV → β) : fA a K = K a := by unfold fA; split <;> simp only [Hn, Ik]
def fB (b : bF) (K : bF → β) : β := match b with
 | .box cells => LH cells fun cells => K (.box cells)
 | .dead => K .dead
 | .arr sz els => K (.arr sz els)
 | .rel R ps => K (.rel R ps)
theorem Ci (b : bF) (K : bF → β) : fB b K = K b := by unfold fB; split <;> simp only [Bp]
def fS : St → (St → β) → β
 | [], K => K []
 | p :: l, K => fB p fun p => fS l fun l => K (p :: l)
theorem pd : ∀ (l : St) (K : St → β), fS l K = K l
 | [], K => rfl
 | p :: l, K => by simp only [fS, Ci, pd l]
def fF : Fr → (Fr → β) → β
 | [], K => K []
 | (d, a) :: l, K => fA a fun a => fF l fun l => K ((d, a) :: l)
theorem vT : ∀ (l : Fr) (K : Fr → β), fF l K = K l
 | [], K => rfl
 | (d, a) :: l, K => by simp only [fF, rT, vT l]
def M8 : List PV → (List PV → β) → β
 | [], K => K []
 | p :: l, K => fP p fun p => M8 l fun l => K (p :: l)
theorem HQ : ∀ (l : List PV) (K : List PV → β), M8 l K = K l
 | [], K => rfl
 | p :: l, K => by simp only [M8, Kb, HQ l]
def MH : List (List PV) → (List (List PV) → β) → β
 | [], K => K []
 | p :: l, K => M8 p fun p => MH l fun l => K (p :: l)
theorem DY : ∀ (l : List (List PV)) (K : List (List PV) → β), MH l K = K l
 | [], K => rfl
 | p :: l, K => by simp only [MH, HQ, DY l]
def Lp (a : AV) (K : AV → β) : β := match a with
 | .one (.pv (.ro els)) => MH els fun els => K (.one (.pv (.ro els)))
 | a => fA a K
theorem JC (a : AV) (K : AV → β) : Lp a K = K a := by unfold Lp; split <;> simp only [DY, rT]
def J4 : St → (St → β) → β
 | [], K => K []
 | [.arr sz els], K => MH els fun els => K [.arr sz els]
 | p :: l, K => fB p fun p => J4 l fun l => K (p :: l)
theorem zc : ∀ (l : St) (K : St → β), J4 l K = K l
 | [], K => rfl
 | [.arr sz els], K => by simp only [J4, DY]
 | .dead :: l, K => by simp only [J4, Ci, zc l]
 | .box c :: l, K => by simp only [J4, Ci, zc l]
 | .rel R c :: l, K => by simp only [J4, Ci, zc l]
 | .arr sz els :: x :: l, K => by simp only [J4, Ci, zc (x :: l)]
inductive FM where
 | n
 | a
 | s
def fX (b : FM) (a : AV) (st : St) (K : AV → St → β) : β := match b with
 | .a => Lp a fun a => K a st
 | .s => fA a fun a => J4 st fun st => K a st
 | .n => fA a fun a => fS st fun st => K a st
theorem Hf (b : FM) (a : AV) (st : St) (K : AV → St → β) : fX b a st K = K a st := by cases b <;> simp only [fX, rT, pd, JC, zc]
end force
section
variable {P : Program} {n : Nat} {an X : List Nat} {ops : Array Oper} {l : List Oper} {fr : Fr} {st : St}
def Hp (ops : Array Oper) (X : List Nat) (tw : List (List Nat × List Nat)) : Bool := Bh ops tw && DW X tw
def GK (P : Program) (n : Nat) (X : List Nat) (ops : Array Oper) (l : List Oper) (tw : List (List Nat × List Nat)) (R : Fr → St → Prop) (fr : Fr) (st : St) : Prop :=
 ∃ fr' st' tw', GX P n ops X l tw' fr st fr' st' ∧ Hp ops X (tw ++ tw') = true ∧ R fr' st'
theorem GK.nil {tw : List (List Nat × List Nat)} {R : Fr → St → Prop} (h : Hp ops X tw = true) (k : R fr st) : GK P n X ops [] tw R fr st := ⟨fr, st, [], GX.done rfl, by rw [List.append_nil]; exact h, k⟩
theorem GK.of {tw : List (List Nat × List Nat)} {R : Fr → St → Prop} {fr' : Fr} {st' : St} {l' : List Oper} {tw1 : List Nat × List Nat} (h : ∀ {tw2 : List (List Nat × List Nat)} {fr2 : Fr} {st2 : St}, GX P n ops X l' tw2 fr' st' fr2 st2 → GX P n ops X l (tw1 :: tw2) fr st fr2 st2) (k : GK P n X ops l' (tw ++ [tw1]) R fr' st') : GK P n X ops l tw R fr st := by
 obtain ⟨fr2, st2, tw2, h1, h2, h3⟩ := k
 exact ⟨fr2, st2, tw1 :: tw2, h h1, by rw [show tw ++ tw1 :: tw2 = tw ++ [tw1] ++ tw2 by simp]; exact h2, h3⟩
theorem Yd.aside {o : Oper} {f : Fr} {a : AV} (T : List Nat) (h : Yd P n (i8 (aP T) 0 st) o f a) : Nh P n X o f ⟨a, T, [], [], st⟩ st := by
 intro st' ι w act hl hT hX hR hF K Q hK
 have hl : st'.length = st.length := hl
 have hT : ∀ id, aP T id = true → st'[id]? = st[id]? := hT
 rw [← BY hl hT] at h
 have hRm := hR.mask (aP T)
 have hFm : ip n (SX.aside (aP T) ι st') w (i8 (aP T) 0 st') act f :=
  ⟨hF.defers, hF.size, fun t => (hF.slot t).chg (fun b hb => wE.1 hb) (by rw [eN]; exact Nat.le_refl _) (fun _ => rfl)⟩
 refine h _ w act hRm hFm K Q fun v w' ι2 hv hR2 k => ?_
 obtain ⟨r1, m1, k1⟩ := hR.unmask (T := aP T) (q := fun _ => true) (by rw [eN]; exact Nat.le_refl _) hR2 (k.weaken fun _ _ => trivial) (fun _ _ _ => rfl)
  (fun id o ho _ => eu (q := fun _ => true) (fun _ _ => rfl) o (by cases o <;> first | rfl | exact oI _))
  (fun id hid hTf => by rw [j8, Nat.zero_add, List.getElem?_eq_getElem hid, hTf]; rfl)
 have e1 : fp (aP T) 0 st' (i8 (aP T) 0 st') = st' := CC
 have e2 : fp (aP ([] : List Nat)) 0 st' st = st' := BU hl
 have hv := hv.chg m1 (by rw [e1, eN]; exact Nat.le_refl _) (fun _ => rfl)
 rw [e1] at r1 k1 hv
 exact hK v w' _ (by rw [e2]; exact hv) (by rw [e2]; exact r1) (by rw [e2]; exact k1.weaken fun _ _ => rfl)
theorem xq : ∀ fr : Fr, kp (fun id => !aP [] id) fr = fr
 | [] => rfl
 | (d, av) :: fr => by
  have h : cL (fun id => !aP [] id) av = true := m7 (q := fun _ => true) (fun _ _ => rfl) av (xy av)
  simp only [kp, h, cond_true, xq fr]
def CB (ops : Array Oper) (X : List Nat) (o : Oper) (fr : Fr) (av : AV) : Bool := nN ops X o fr (nj ops X o fr) && cL (fun i => aP (nj ops X o fr) (i + 1000) || !aP X i) av
theorem GK.yd {o : Oper} {tw : List (List Nat × List Nat)} {R : Fr → St → Prop} {fr' : Fr} {av : AV} (hp : (∀ d, o.dst = some d → d < n) ∧ qA o.dst av fr = fr') (hc : CB ops X o fr av = true)
  (h : (cp ops o (cn ops o fr) = some true ∧ Yd P n (i8 (aP (nj ops X o fr)) 0 st) o (cn ops o fr) av) ∨ (cp ops o (cn ops o fr) = some false ∧ av = .tp []))
  (k : GK P n X ops l (tw ++ [(nj ops X o fr, [])]) R fr' st) : GK P n X ops (o :: l) tw R fr st := by
 unfold CB at hc
 rw [Bool.and_eq_true] at hc
 refine GK.of (tw1 := (nj ops X o fr, [])) (fun h2 => GX.cons (s := ⟨av, nj ops X o fr, [], [], st⟩) ⟨hp.1, rfl, fun _ _ => rfl, fun id h => by simp [aP] at h, fun id h => by simp [aP] at h, nV hc.1, hc.2, fun x b h => by simp [aP] at h, ?_⟩ (by
  show GX P n ops X l _ (qA o.dst av (kp (fun id => !aP [] id) fr)) st _ _
  rw [xq, hp.2]; exact h2)) k
 rcases h with ⟨hg, h⟩ | ⟨hg, rfl⟩
 ·exact .inl ⟨hg, h.aside⟩
 ·exact .inr ⟨hg, rfl, rfl, rfl⟩
def GM : List Nat → St → Option Nat
 | [], _ => none
 | x :: X, st => (match st[x]? with
  | some .dead => some x
  | _ => GM X st)
theorem Mr {W : List Nat} {hs : HS} {fr' : Fr} {T : List Nat} {st' : St} {ob : List Prop} (h : Mf P n ops X W l fr st hs = some (fr', T, st', ob)) (hl : st.length ≤ 1000) : fp (aP W) 0 st st' = st' := by
 unfold Mf at h
 split at h
 ·rename_i o ho
  split at h
  ·split at h
   ·rename_i out hev
    cases hc : L5 n ops X W o fr st ((W ++ Fb X (bE ops o fr ++ mF W st))) out with
    | false => rw [hc] at h; cases h
    | true =>
     rw [hc] at h
     simp only [cond_true, Option.some.injEq, Prod.mk.injEq] at h
     obtain ⟨_, _, rfl, _⟩ := h
     unfold L5 at hc
     simp only [Bool.and_eq_true] at hc
     have hlen := Nat.eq_of_beq_eq_true hc.1.1.2
     generalize hT : W ++ Fb X (bE ops o fr ++ mF W st) = T at *
     have z : (fp (aP T) 0 st out.st).length = st.length := by rw [cK _ _ _ (by omega)]; exact hlen
     refine m9 (by rw [cK _ _ _ (by omega)]) (fun id hid => ?_)
     rw [cK _ _ _ (by omega), z] at hid
     rw [ef _ _ _ _ (by omega), Nat.zero_add]
     by_cases hw : id < st.length ∧ aP W id = false
     ·have hq : aP T id = false := by
       rw [← hT, lO, hw.2, Bool.false_or]
       exact A8 (by omega)
      have y : (fp (aP T) 0 st out.st)[id]? = if id < st.length ∧ aP T id = false then st[id]? else out.st[id]? := by rw [ef _ _ _ _ (by omega), Nat.zero_add]
      rw [if_pos hw, y, if_pos ⟨hw.1, hq⟩]
     ·rw [if_neg hw]
   ·cases h
  ·cases h
 ·cases h
def gW (P : Program) (n : Nat) (an X : List Nat) (ops : Array Oper) (l : List Oper) (fr : Fr) (st : St) : Option (Fr × List Nat × List Nat × St) :=
 match Ae l with
 | some o => (match o.op with
  | .alloc .. => (match GM X st with
   | some id => (match LP P n ops X (qX an o) id l fr st [] with
    | some (fr', T, st', []) => bif Fg st T then some (fr', n9 X T, T ++ [id + 1000], st') else none
    | _ => none)
   | none => none)
  | .store _ a _ => (match rv (cn ops o fr) a with
   | .one (.pt id _ _ _) => (match st[id]? with
    | some (.box _) => (match Mf P n ops X [id] l fr st [] with
     | some (fr', T, st', []) => bif Nat.ble st.length 1000 then some (fr', T, [id], st') else none
     | _ => none)
    | _ => none)
   | _ => none)
  | _ => none)
 | none => none
theorem GK.w {fr' : Fr} {T W : List Nat} {st' : St} {tw : List (List Nat × List Nat)} {R : Fr → St → Prop} (h : gW P n an X ops l fr st = some (fr', T, W, st')) (k : GK P n X ops (l.drop 1) (tw ++ [(T, W)]) R fr' st') : GK P n X ops l tw R fr st := by
 refine GK.of (tw1 := (T, W)) (fun h2 => ?_) k
 unfold gW at h
 split at h
 ·rename_i o ho
  split at h
  ·split at h
   ·rename_i id hid
    split at h
    ·rename_i he
     cases hq : Fg st _ with
     | false => rw [hq] at h; cases h
     | true =>
      rw [hq] at h
      simp only [cond_true, Option.some.injEq, Prod.mk.injEq] at h
      obtain ⟨rfl, rfl, rfl, rfl⟩ := h
      exact GX.new _ id [] _ _ _ [] he trivial hq h2
    ·cases h
   ·cases h
  ·split at h
   ·split at h
    ·split at h
     ·rename_i he
      cases hq : Nat.ble st.length 1000 with
      | false => rw [hq] at h; cases h
      | true =>
       rw [hq] at h
       simp only [cond_true, Option.some.injEq, Prod.mk.injEq] at h
       obtain ⟨rfl, rfl, rfl, rfl⟩ := h
       exact GX.sto _ [] _ _ _ [] he trivial (Mr he (Nat.le_of_ble_eq_true hq)) h2
     ·cases h
    ·cases h
   ·cases h
  ·cases h
 ·cases h
end
inductive It where
 | c (x : Code)
 | o (ops : Array Oper) (l : List Oper)
 | d (ops : Array Oper) (l : List Oper)
 | b (id : Nat)
 | r (x : Code) (j : Nat)
 | g (X : List Nat) (ops : Array Oper) (l : List Oper) (tw : List (List Nat × List Nat))
structure SS where
 ks : List It
 fr : Fr
 st : St
 kn : List Nat
section
variable (P : Program) (n n0 : Nat) (loose : List Nat)
def QK : List It → QT → QT
 | [], Q => Q
 | .b id :: ks, Q => sR id (QK ks Q)
 | .c x :: ks, Q => kj (XW P n n0 loose x (QK ks Q)) (QK ks Q)
 | .o ops l :: ks, Q => kj (XO P n n0 loose ops l (QK ks Q)) (QK ks Q)
 | .d ops l :: ks, Q => kj (fun fr st => ∃ fr', DX P n st ops l fr fr' ∧ QK ks Q .normal fr' st) (QK ks Q)
 | .r x j :: ks, Q => kj (XR P n n0 loose x (QK ks Q) j) (QK ks Q)
 | .g X ops l tw :: ks, Q => kj (GK P n X ops l tw (QK ks Q .normal)) (QK ks Q)
def XK (Q : QT) (s : SS) : Prop := QK P n n0 loose s.ks Q .normal s.fr s.st
def An (id : Nat) : List It → Option (List It)
 | [] => none
 | .b i :: ks => bif Nat.beq i id then some ks else An id ks
 | _ :: ks => An id ks
variable {P n n0 loose}
theorem xk {a b : Nat} (h : a ≠ b) : Nat.beq a b = false := by
 cases hq : Nat.beq a b with
 | false => rfl
 | true => exact absurd (Nat.eq_of_beq_eq_true hq) h
theorem sC {id : Nat} {Q : QT} {fr : Fr} {st : St} : ∀ {ks ks' : List It}, An id ks = some ks' → QK P n n0 loose ks' Q .normal fr st → QK P n n0 loose ks Q (.exit id) fr st
 | [], _, h, _ => by simp [An] at h
 | .b i :: ks, ks', h, hq => by
  simp only [An] at h
  simp only [QK, sR]
  cases hb : Nat.beq i id with
  | true =>
   have := Nat.eq_of_beq_eq_true hb
   subst this
   simp only [hb, cond_true, Option.some.injEq] at h
   subst h
   simpa using hq
  | false =>
   simp only [hb, cond_false] at h
   have : Nat.beq id i = false := xk (fun e => by subst e; simp at hb)
   simp only [this, cond_false]
   exact sC h hq
 | .c x :: ks, ks', h, hq => sC (ks := ks) (by simpa [An] using h) hq
 | .o ops l :: ks, ks', h, hq => sC (ks := ks) (by simpa [An] using h) hq
 | .d ops l :: ks, ks', h, hq => sC (ks := ks) (by simpa [An] using h) hq
 | .r _ _ :: ks, ks', h, hq => sC (ks := ks) (by simpa [An] using h) hq
 | .g _ _ _ _ :: ks, ks', h, hq => sC (ks := ks) (by simpa [An] using h) hq
theorem pW {id : Nat} {Q : QT} {fr : Fr} {st : St} : ∀ {ks : List It}, An id ks = none → Q (.exit id) fr st → QK P n n0 loose ks Q (.exit id) fr st
 | [], h, hq => hq
 | .b i :: ks, h, hq => by
  simp only [An] at h
  simp only [QK, sR]
  cases hb : Nat.beq i id with
  | true => simp [hb] at h
  | false =>
   simp only [hb, cond_false] at h
   have : Nat.beq id i = false := xk (fun e => by subst e; simp at hb)
   simp only [this, cond_false]
   exact pW h hq
 | .c x :: ks, h, hq => pW (ks := ks) (by simpa [An] using h) hq
 | .o ops l :: ks, h, hq => pW (ks := ks) (by simpa [An] using h) hq
 | .d ops l :: ks, h, hq => pW (ks := ks) (by simpa [An] using h) hq
 | .r _ _ :: ks, h, hq => pW (ks := ks) (by simpa [An] using h) hq
 | .g _ _ _ _ :: ks, h, hq => pW (ks := ks) (by simpa [An] using h) hq
theorem sP {Q : QT} {fr : Fr} {st : St} : ∀ {ks : List It}, Q .ret fr st → QK P n n0 loose ks Q .ret fr st
 | [], hq => hq
 | .b i :: ks, hq => sP (ks := ks) hq
 | .c x :: ks, hq => sP (ks := ks) hq
 | .o ops l :: ks, hq => sP (ks := ks) hq
 | .d ops l :: ks, hq => sP (ks := ks) hq
 | .r _ _ :: ks, hq => sP (ks := ks) hq
 | .g _ _ _ _ :: ks, hq => sP (ks := ks) hq
def DF (kn : List Nat) : Operand → Bool
 | .tmp t => kn.any (Nat.beq t)
 | _ => true
def H7 (kn : List Nat) (o : Oper) (fr : Fr) (st : St) : Bool :=
 match o.op with
 | .pick c a b => bif DF kn c then false else (match rv fr a with
  | .one (.pv (.s (.bool _))) => (match rv fr b with
   | .one (.pv (.s (.bool _))) => false
   | _ => true)
  | _ => true)
 | .call ⟨.builtin .len, args, _⟩ => (match args.toList with
  | [x] => (match rv fr x with
   | .one (.pv (.ro _)) => true
   | _ => false)
  | _ => true)
 | .call ⟨.builtin .max, _, _⟩ => false
 | .call ⟨.builtin .min, _, _⟩ => false
 | .call _ => true
 | .makeSlice .. => true
 | .slice .. => true
 | .convert _ _ x => (match rv fr x with
  | .one (.pv (.s (.int _ _))) => false
  | _ => true)
 | .indexAddr _ x i => (match rv fr x with
  | .one (.pv (.rp ..)) => !(DF kn i)
  | .one (.pt ..) => !(DF kn i)
  | _ => true)
 | .index _ x i => (match rv fr x with
  | .ag _ => !(DF kn i)
  | _ => true)
 | .load _ a => (match rv fr a with
  | .one (.pv (.rp ..)) => false
  | .one (.pt id _ _ _) => (match st[id]? with
   | some (.box _) => false
   | _ => true)
  | _ => true)
 | .store _ a _ => (match rv fr a with
  | .one (.pt id _ _ _) => (match st[id]? with
   | some (.box _) => false
   | _ => true)
  | _ => true)
 | _ => false
def Gc (o : Oper) (fr : Fr) : HS :=
 match o.op with
 | .load _ a => (match rv fr a with
  | .one (.pv (.rp [c] _ _)) => [c]
  | _ => [])
 | _ => []
def xm (P : Program) (t : TypeId) : Nat := match P.underlying t with
 | some (.array len _) => len
 | _ => 0
def LB (P : Program) (kn : List Nat) (o : Oper) (fr : Fr) : Bool :=
 match o.op with
 | .binOp op _ _ y _ => bif DF kn y then (match rv fr y with
  | .one (.pv (.s (.int _ b))) => (match op with
   | .shl => decide (0 ≤ b)
   | .shr => decide (0 ≤ b)
   | .quo => decide (b ≠ 0)
   | .rem => decide (b ≠ 0)
   | _ => false)
  | _ => false) else false
 | .load _ a => (match rv fr a with
  | .one (.pv (.rp [_] 0 _)) => true
  | _ => false)
 | .indexAddr t x i => (match rv fr x with
  | .one (.pv (.rp ..)) => (match rv fr i with
   | .one (.pv (.s (.int _ n))) => decide (0 ≤ n) && decide (n < xm P t)
   | _ => false)
  | .one (.pt ..) => (match rv fr i with
   | .one (.pv (.s (.int _ n))) => decide (0 ≤ n) && decide (n < xm P t)
   | _ => false)
  | _ => false)
 | .index t x i => (match rv fr x with
  | .ag _ => (match rv fr i with
   | .one (.pv (.s (.int _ n))) => decide (0 ≤ n) && decide (n < xm P t)
   | _ => false)
  | _ => false)
 | _ => false
theorem Lc {op : BinOp} {t : TypeId} {a : Value} {k : IntKind} {b : Int} {v : Value} {ob : List Prop} (hb : (match op with
   | .shl => decide (0 ≤ b)
   | .shr => decide (0 ≤ b)
   | .quo => decide (b ≠ 0)
   | .rem => decide (b ≠ 0)
   | _ => false) = true) (h : Dz P op t a (.int k b) = some (v, ob)) : eO ob := by
 have h : Jy op a (.int k b) = some (v, ob) := by
  cases a <;> first | exact h | cases h
 unfold Jy at h
 cases a <;> simp only at h <;> try (cases h; done)
 rename_i k1 a1 _
 cases op
 case shl => simp only [decide_eq_true_eq] at hb; simp only [Option.some.injEq, Prod.mk.injEq] at h; obtain ⟨_, rfl⟩ := h; exact ⟨hb, trivial⟩
 case shr => simp only [decide_eq_true_eq] at hb; simp only [Option.some.injEq, Prod.mk.injEq] at h; obtain ⟨_, rfl⟩ := h; exact ⟨hb, trivial⟩
 case quo =>
  simp only [decide_eq_true_eq] at hb
  cases hk : decide (k1 = k) <;> simp only [hk, cond_true, cond_false] at h
  ·cases h
  ·simp only [Option.some.injEq, Prod.mk.injEq] at h; obtain ⟨_, rfl⟩ := h; exact ⟨hb, trivial⟩
 case rem =>
  simp only [decide_eq_true_eq] at hb
  cases hk : decide (k1 = k) <;> simp only [hk, cond_true, cond_false] at h
  ·cases h
  ·simp only [Option.some.injEq, Prod.mk.injEq] at h; obtain ⟨_, rfl⟩ := h; exact ⟨hb, trivial⟩
 all_goals (cases hb; done)
theorem GV {kn : List Nat} {o : Oper} {fr : Fr} {st : St} {mu : Bool} {out : ua} (hb : LB P kn o fr = true) (h : ev P mu o fr st (Gc o fr) = some out) : eO out.ob := by
 unfold LB at hb
 unfold ev at h
 split at hb
 ·rename_i op tt x y _ ho
  simp only [ho] at h
  cases hk : DF kn y with
  | false => simp [hk] at hb
  | true =>
   simp only [hk, cond_true] at hb
   split at hb
   ·rename_i k b hy
    rw [hy] at h
    split at h
    ·rename_i a b' e1 e2
     simp only [AV.one.injEq, CV.pv.injEq, PV.s.injEq] at e2
     subst e2
     split at h
     ·rename_i v ob hbo
      simp only [Option.some.injEq] at h
      subst h
      exact Lc hb hbo
     ·simp only [Option.map_eq_some_iff] at h
      obtain ⟨_, _, rfl⟩ := h
      exact trivial
    ·rename_i e2; cases e2
    ·rename_i e2; cases e2
    ·cases h
   ·cases hb
 ·rename_i t a ho
  simp only [ho, Gc] at h
  split at hb
  ·rename_i c off hr
   simp only [hr] at h
   unfold DM at h
   split at h
   ·simp only [Option.map_eq_some_iff] at h
    obtain ⟨av, _, rfl⟩ := h
    exact ⟨rfl, trivial⟩
   ·cases h
  ·cases hb
 ·rename_i t x i ho
  simp only [ho] at h
  split at hb
  ·rename_i e1
   split at hb
   ·rename_i e2
    simp only [e1, e2] at h
    simp only [Bool.and_eq_true, decide_eq_true_eq] at hb
    unfold Gg at h
    unfold xm at hb
    split at h
    ·rename_i q1 q2
     split at q2
     ·rename_i hu
      rw [hu] at hb
      split at q2
      ·simp only [Option.some.injEq, Prod.mk.injEq] at q2
       obtain ⟨rfl, rfl⟩ := q2
       simp only [Option.some.injEq] at h
       subst h
       exact ⟨hb, trivial⟩
      ·cases q2
     ·split at q2 <;> simp at q2
     ·cases q2
    ·cases h
   ·cases hb
  ·rename_i e1
   split at hb
   ·rename_i e2
    simp only [e1, e2] at h
    simp only [Bool.and_eq_true, decide_eq_true_eq] at hb
    unfold Gg at h
    unfold xm at hb
    split at h
    ·rename_i q1 q2
     split at q2
     ·rename_i hu
      rw [hu] at hb
      split at q2
      ·simp only [Option.some.injEq, Prod.mk.injEq] at q2
       obtain ⟨rfl, rfl⟩ := q2
       simp only [Option.some.injEq] at h
       subst h
       exact ⟨hb, trivial⟩
      ·cases q2
     ·split at q2 <;> simp at q2
     ·cases q2
    ·cases h
   ·cases hb
  ·cases hb
 ·rename_i t x i ho
  simp only [ho] at h
  split at hb
  ·rename_i e1
   split at hb
   ·rename_i e2
    simp only [e1, e2] at h
    simp only [Bool.and_eq_true, decide_eq_true_eq] at hb
    unfold xm at hb
    split at h
    ·rename_i q1 q2 q3; cases q2
    ·rename_i q1 q2 q3
     rw [q1] at hb
     simp only [AV.one.injEq, CV.pv.injEq, PV.s.injEq, Value.int.injEq] at q3
     obtain ⟨_, rfl⟩ := q3
     split at h
     ·simp only [Option.map_eq_some_iff] at h
      obtain ⟨av, _, rfl⟩ := h
      exact ⟨hb, trivial⟩
     ·cases h
    ·cases h
   ·cases hb
  ·cases hb
 ·cases hb
def Md (P : Program) (an kn : List Nat) (o : Oper) (fr : Fr) (st : St) : Option (AV × St) :=
 bif H7 kn o fr st then none else
 match ev P (qX an o) o fr st (Gc o fr) with
 | some ⟨av, st', ob, _, none⟩ => (match ob with
  | [] => some (av, st')
  | _ => bif LB P kn o fr then some (av, st') else none)
 | _ => none
theorem EA {an kn : List Nat} {o : Oper} {fr : Fr} {st : St} {av : AV} {st' : St} (h : Md P an kn o fr st = some (av, st')) :
  ∃ ob hs', ev P (qX an o) o fr st (Gc o fr) = some ⟨av, st', ob, hs', none⟩ ∧ eO ob := by
 unfold Md at h
 cases hs : H7 kn o fr st with
 | true => simp [hs] at h
 | false =>
  simp only [hs, cond_false] at h
  split at h
  ·rename_i av1 st1 ob hs' he
   split at h
   ·simp only [Option.some.injEq, Prod.mk.injEq] at h
    obtain ⟨rfl, rfl⟩ := h
    exact ⟨_, _, he, trivial⟩
   ·cases hb : LB P kn o fr with
    | false => simp [hb] at h
    | true =>
     simp only [hb, cond_true, Option.some.injEq, Prod.mk.injEq] at h
     obtain ⟨rfl, rfl⟩ := h
     exact ⟨_, _, he, GV hb he⟩
  ·cases h
def IU (ops : Array Oper) (kn : List Nat) (o : Oper) (fr : Fr) : Option Bool :=
 match o.guard with
 | none => some true
 | some (j, want) =>
  match (ops[j]?).bind (·.dst) with
  | some d => (match lk fr d with
   | .one (.pv (.s (.bool b))) => bif kn.any (Nat.beq d) then some (b == want) else none
   | .tp [] => some false
   | _ => none)
  | none => none
theorem oX {ops : Array Oper} {kn : List Nat} {o : Oper} {fr : Fr} {g : Bool} (h : IU ops kn o fr = some g) : cp ops o fr = some g := by
 unfold IU at h
 unfold cp
 cases hg : o.guard with
 | none => simpa [hg] using h
 | some jw =>
  obtain ⟨j, want⟩ := jw
  simp only [hg] at h ⊢
  cases hd : (ops[j]?).bind (·.dst) with
  | none => simp [hd] at h
  | some d =>
   simp only [hd] at h ⊢
   split at h
   ·rename_i b hb
    cases hk : kn.any (Nat.beq d) with
    | false => simp [hk] at h
    | true => simpa [hk, hb] using h
   ·rename_i hb; simpa [hb] using h
   ·cases h
def td {β : Type} (n : Nat) (dst : Option Nat) (av : AV) (fr : Fr) (K : Fr → β) (E : β) : β := match dst with
 | none => K fr
 | some d => bif Nat.ble (d + 1) n then K ((d, av) :: fr) else E
def AO (u : Option Nat) (o : Oper) : Bool := match u with
 | none => false
 | some t => (match o.dst with
  | some d => Nat.beq d t
  | none => false)
def KA (an : List Nat) (o : Oper) : FM := match o.op with
 | .buildSlice .. => (match qX an o with
  | true => .s
  | false => .a)
 | _ => .n
def v6 (kn : List Nat) (o : Oper) (fr : Fr) : Bool := match o.op with
 | .move x => DF kn x
 | .assign x => DF kn x
 | .pick c a b => bif DF kn c then (match rv fr c with
  | .one (.pv (.s (.bool t))) => (match t with
   | true => DF kn a
   | false => DF kn b)
  | _ => false) else false
 | .binOp _ _ x y _ => DF kn x && DF kn y
 | .unOp _ _ x => DF kn x
 | .convert _ _ x => DF kn x
 | _ => false
def IY {β : Type} (d : Nat) : List Nat → (List Nat → β) → β
 | [], K => K []
 | x :: l, K => IY d l fun l => bif Nat.beq x d then K l else K (x :: l)
def uI {β : Type} (b : Bool) (dst : Option Nat) (kn : List Nat) (K : List Nat → β) : β := match dst with
 | none => K kn
 | some d => IY d kn fun l => bif b then K (d :: l) else K l
theorem Ft {β : Type} {d : Nat} : ∀ (l : List Nat) (K : List Nat → β), ∃ l', IY d l K = K l'
 | [], K => ⟨[], rfl⟩
 | x :: l, K => by
  obtain ⟨l', h⟩ := Ft (d := d) l (fun l => bif Nat.beq x d then K l else K (x :: l))
  unfold IY
  rw [h]
  cases Nat.beq x d
  ·exact ⟨_, rfl⟩
  ·exact ⟨_, rfl⟩
theorem lQ {β : Type} (b : Bool) (dst : Option Nat) (kn : List Nat) (K : List Nat → β) : ∃ l, uI b dst kn K = K l := by
 unfold uI
 cases dst with
 | none => exact ⟨_, rfl⟩
 | some d =>
  obtain ⟨l', h⟩ := Ft (d := d) kn (fun l => bif b then K (d :: l) else K l)
  simp only [h]
  cases b
  ·exact ⟨_, rfl⟩
  ·exact ⟨_, rfl⟩
def Cb {β : Type} (P : Program) (n : Nat) (an : List Nat) (u : Option Nat) (s : SS) (K E : SS → β) : β :=
 match s with
 | ⟨ks, fr, st, kn⟩ => match ks with
  | [] => E s
  | .b _ :: k => K ⟨k, fr, st, kn⟩
  | .c x :: k => (match x with
   | .skip => K ⟨k, fr, st, kn⟩
   | .seq a b => K ⟨.c a :: .c b :: k, fr, st, kn⟩
   | .block id a => K ⟨.c a :: .b id :: k, fr, st, kn⟩
   | .region _ ops false => K ⟨.o ops ops.toList :: k, fr, st, kn⟩
   | .cond o a b => (match DF kn o with
    | true => (match rv fr o with
     | .one (.pv (.s (.bool t))) => (match t with
      | true => K ⟨.c a :: k, fr, st, kn⟩
      | false => K ⟨.c b :: k, fr, st, kn⟩)
     | _ => E s)
    | false => E s)
   | .exit id => (match An id k with
    | some k' => K ⟨k', fr, st, kn⟩
    | none => E s)
   | _ => E s)
  | .r x j :: k => (match j with
   | j + 1 => K ⟨.c x :: .r x j :: k, fr, st, kn⟩
   | 0 => E s)
  | .o ops l :: k => (match l with
   | [] => K ⟨k, fr, st, kn⟩
   | o :: l' => bif AO u o then E s else (match IU ops kn o fr with
    | some true => (match Md P an kn o fr st with
     | some (av, st') => fX (KA an o) av st' fun av st' => td n o.dst av fr (fun fr' => uI (v6 kn o fr) o.dst kn fun kn' => K ⟨.o ops l' :: k, fr', st', kn'⟩) (E s)
     | none => E s)
    | some false => td n o.dst (.tp []) fr (fun fr' => uI false o.dst kn fun kn' => K ⟨.o ops l' :: k, fr', st, kn'⟩) (E s)
    | none => E s))
  | .d ops l :: k => (match l with
   | [] => K ⟨k, fr, st, kn⟩
   | o :: l' => bif AO u o then E s else (match IU ops kn o (cn ops o fr) with
    | some true => bif iS o.op then (match Md P [] kn o (cn ops o fr) st with
     | some (av, _) => fX (KA [] o) av [] fun av _ => td n o.dst av fr (fun fr' => uI (v6 kn o fr) o.dst kn fun kn' => K ⟨.d ops l' :: k, fr', st, kn'⟩) (E s)
     | none => E s) else E s
    | some false => td n o.dst (.tp []) fr (fun fr' => uI false o.dst kn fun kn' => K ⟨.d ops l' :: k, fr', st, kn'⟩) (E s)
    | none => E s))
  | .g X ops l tw :: k => (match l with
   | [] => bif Hp ops X tw then K ⟨k, fr, st, kn⟩ else E s
   | o :: l' => bif AO u o then E s else (match IU ops kn o (cn ops o fr) with
    | some true => bif iS o.op && !qX an o then (match Md P [] kn o (cn ops o fr) (i8 (aP (nj ops X o fr)) 0 st) with
     | some (av, _) => fX (KA [] o) av [] fun av _ => bif CB ops X o fr av then td n o.dst av fr (fun fr' => uI (v6 kn o fr) o.dst kn fun kn' => K ⟨.g X ops l' (tw ++ [(nj ops X o fr, [])]) :: k, fr', st, kn'⟩) (E s) else E s
     | none => E s) else (match gW P n an X ops (o :: l') fr st with
      | some (fr', T, W, st') => fF fr' fun fr' => fS st' fun st' => uI false o.dst kn fun kn' => K ⟨.g X ops l' (tw ++ [(T, W)]) :: k, fr', st', kn'⟩
      | none => E s)
    | some false => bif CB ops X o fr (.tp []) then td n o.dst (.tp []) fr (fun fr' => uI false o.dst kn fun kn' => K ⟨.g X ops l' (tw ++ [(nj ops X o fr, [])]) :: k, fr', st, kn'⟩) (E s) else E s
    | none => E s))
theorem ko {β : Type} (dst : Option Nat) (av : AV) (fr : Fr) (K : Fr → β) (E : β) : (∃ fr', qN n dst av fr = some fr' ∧ td n dst av fr K E = K fr') ∨ td n dst av fr K E = E := by
 cases dst with
 | none => exact .inl ⟨fr, rfl, rfl⟩
 | some d =>
  unfold td qN
  cases h : Nat.ble (d + 1) n with
  | true => exact .inl ⟨(d, av) :: fr, by simp [h], by simp [h]⟩
  | false => exact .inr (by simp [h])
theorem oM {dst : Option Nat} {av : AV} {fr fr' : Fr} (h : qN n dst av fr = some fr') : (∀ d, dst = some d → d < n) ∧ qA dst av fr = fr' := by
 cases dst with
 | none => simp only [qN, Option.some.injEq] at h; exact ⟨(fun d hd => nomatch hd), h⟩
 | some d =>
  simp only [qN] at h
  cases hb : Nat.ble (d + 1) n with
  | false => simp [hb] at h
  | true =>
   simp only [hb, cond_true, Option.some.injEq] at h
   exact ⟨(fun d' hd => Option.some.inj hd ▸ Nat.le_of_ble_eq_true hb), h⟩
theorem DX.cons {ops : Array Oper} {o : Oper} {l : List Oper} {fr fr' fr2 : Fr} {st : St} {a : AV} (hp : qN n o.dst a fr = some fr')
  (h : (cp ops o (cn ops o fr) = some true ∧ Yd P n st o (cn ops o fr) a) ∨ (cp ops o (cn ops o fr) = some false ∧ a = .tp []))
  (k : DX P n st ops l fr' fr2) : DX P n st ops (o :: l) fr fr2 := by
 obtain ⟨h1, h2⟩ := oM hp
 subst h2
 obtain ⟨asv, k1, k2⟩ := k
 exact ⟨a :: asv, ⟨⟨h1, h⟩, k1⟩, k2⟩
theorem FT {an : List Nat} {ops : Array Oper} {o : Oper} {fr fr' : Fr} {st st' : St} {hs hs' : HS} {av : AV} {ob : List Prop} (hg : cp ops o fr = some true)
  (h : ev P (qX an o) o fr st hs = some ⟨av, st', ob, hs', none⟩) (hp : qN n o.dst av fr = some fr') : iI P n n0 loose an ops [o] fr st hs = some ⟨.normal, fr', st', hs', ob ++ []⟩ := by
 simp only [iI, hg, h, yB, IT, hp, cond_true]
theorem XO.op {an : List Nat} {ops : Array Oper} {o : Oper} {l : List Oper} {fr fr' : Fr} {st st' : St} {hs hs' : HS} {av : AV} {ob : List Prop} {Q : QT} (hg : cp ops o fr = some true)
  (h : ev P (qX an o) o fr st hs = some ⟨av, st', ob, hs', none⟩) (hob : eO ob) (hp : qN n o.dst av fr = some fr') (k : XO P n n0 loose ops l Q fr' st') : XO P n n0 loose ops (o :: l) Q fr st :=
 XO.run (l := [o]) (FT hg h hp) (by rw [List.append_nil]; exact hob) k
theorem XO.opN {ops : Array Oper} {o : Oper} {l : List Oper} {fr fr' : Fr} {st : St} {Q : QT} (hg : cp ops o fr = some false)
  (hp : qN n o.dst (.tp []) fr = some fr') (k : XO P n n0 loose ops l Q fr' st) : XO P n n0 loose ops (o :: l) Q fr st := by
 have : iI P n n0 loose [] ops [o] fr st [] = some ⟨.normal, fr', st, [], []⟩ := by simp only [iI, hg, hp]
 exact XO.run (l := [o]) this trivial k
theorem GL {an : List Nat} {u : Option Nat} {Q : QT} {β : Type} (s : SS) (K E : SS → β) : ∃ s', (Cb P n an u s K E = K s' ∨ Cb P n an u s K E = E s') ∧ (XK P n n0 loose Q s' → XK P n n0 loose Q s) := by
 obtain ⟨ks, fr, st, kn⟩ := s
 have stay : ∃ s', (E ⟨ks, fr, st, kn⟩ = K s' ∨ E ⟨ks, fr, st, kn⟩ = E s') ∧ (XK P n n0 loose Q s' → XK P n n0 loose Q ⟨ks, fr, st, kn⟩) := ⟨_, .inr rfl, id⟩
 have go : ∀ s', (XK P n n0 loose Q s' → XK P n n0 loose Q ⟨ks, fr, st, kn⟩) → ∃ s2, (K s' = K s2 ∨ K s' = E s2) ∧ (XK P n n0 loose Q s2 → XK P n n0 loose Q ⟨ks, fr, st, kn⟩) := fun s' h => ⟨s', .inl rfl, h⟩
 unfold Cb
 match ks, stay, go with
 | [], stay, go => exact stay
 | .b id :: k, stay, go => exact go _ (fun h => h)
 | .r x j :: k, stay, go =>
  cases j with
  | zero => exact stay
  | succ j => exact go _ (fun h => h)
 | .c x :: k, stay, go =>
  cases x with
  | skip => exact go _ (fun h => XW.skip rfl h)
  | seq a b =>
   refine go _ (fun h => XW.seq (x := a) (y := b) rfl fun K hK => ?_)
   refine XW.mono (show XW P n n0 loose a (kj (XW P n n0 loose b (QK P n n0 loose k Q)) (QK P n n0 loose k Q)) fr st from h) ?_
   intro e f s hq
   cases e with
   | normal => exact hK _ _ hq
   | _ => exact hq
  | block id a => exact go _ (fun h => XW.block rfl h)
  | region id ops d =>
   cases d with
   | true => exact stay
   | false => exact go _ (fun h => XO.region rfl h)
  | cond o a b =>
   simp only
   split
   ·split
    ·rename_i t hx
     cases t with
     | true => exact go _ (fun h => XW.cond (n := n) rfl hx (fun _ => h) (fun h => nomatch h))
     | false => exact go _ (fun h => XW.cond (n := n) rfl hx (fun h => nomatch h) (fun _ => h))
    ·exact stay
   ·exact stay
  | exit id =>
   simp only
   split
   ·rename_i k' hk
    exact go _ (fun h => XW.exit rfl (sC hk h))
   ·exact stay
  | _ => exact stay
 | .o ops l :: k, stay, go =>
  cases l with
  | nil => exact go _ (fun h => XO.nil h)
  | cons o l' =>
   simp only
   cases hu : AO u o with
   | true => exact stay
   | false =>
    simp only [cond_false]
    split
    ·rename_i hg
     have hg := oX hg
     split
     ·rename_i av st' hq
      obtain ⟨ob, hs', he, hob⟩ := EA hq
      rw [Hf]
      rcases ko (n := n) o.dst av fr (fun fr' => uI (v6 kn o fr) o.dst kn fun kn' => K ⟨.o ops l' :: k, fr', st', kn'⟩) (E ⟨.o ops (o :: l') :: k, fr, st, kn⟩) with ⟨fr', hp, e⟩ | e
      ·rw [e]
       obtain ⟨kn', ek⟩ := lQ (v6 kn o fr) o.dst kn fun kn' => K ⟨.o ops l' :: k, fr', st', kn'⟩
       rw [ek]; exact go _ (fun h => XO.op hg he hob hp h)
      ·rw [e]; exact stay
     ·exact stay
    ·rename_i hg
     have hg := oX hg
     rcases ko (n := n) o.dst (.tp []) fr (fun fr' => uI false o.dst kn fun kn' => K ⟨.o ops l' :: k, fr', st, kn'⟩) (E ⟨.o ops (o :: l') :: k, fr, st, kn⟩) with ⟨fr', hp, e⟩ | e
     ·rw [e]
      obtain ⟨kn', ek⟩ := lQ false o.dst kn fun kn' => K ⟨.o ops l' :: k, fr', st, kn'⟩
      rw [ek]; exact go _ (fun h => XO.opN hg hp h)
     ·rw [e]; exact stay
    ·exact stay
 | .d ops l :: k, stay, go =>
  cases l with
  | nil => exact go _ (fun h => ⟨fr, DX.done rfl, h⟩)
  | cons o l' =>
   simp only
   cases hu : AO u o with
   | true => exact stay
   | false =>
    simp only [cond_false]
    split
    ·rename_i hg
     have hg := oX hg
     cases hqq : iS o.op with
     | false => exact stay
     | true =>
      simp only [cond_true]
      split
      ·rename_i av st' hq
       obtain ⟨ob, hs', he, hob⟩ := EA hq
       have hmu : qX [] o = false := by unfold qX; split <;> rfl
       rw [hmu] at he
       rw [Hf]
       rcases ko (n := n) o.dst av fr (fun fr' => uI (v6 kn o fr) o.dst kn fun kn' => K ⟨.d ops l' :: k, fr', st, kn'⟩) (E ⟨.d ops (o :: l') :: k, fr, st, kn⟩) with ⟨fr', hp, e⟩ | e
       ·rw [e]
        obtain ⟨kn', ek⟩ := lQ (v6 kn o fr) o.dst kn fun kn' => K ⟨.d ops l' :: k, fr', st, kn'⟩
        rw [ek]
        exact go _ (fun ⟨fr2, h1, h2⟩ => ⟨fr2, DX.cons hp (.inl ⟨hg, Yd.ev hqq he hob⟩) h1, h2⟩)
       ·rw [e]; exact stay
      ·exact stay
    ·rename_i hg
     have hg := oX hg
     rcases ko (n := n) o.dst (.tp []) fr (fun fr' => uI false o.dst kn fun kn' => K ⟨.d ops l' :: k, fr', st, kn'⟩) (E ⟨.d ops (o :: l') :: k, fr, st, kn⟩) with ⟨fr', hp, e⟩ | e
     ·rw [e]
      obtain ⟨kn', ek⟩ := lQ false o.dst kn fun kn' => K ⟨.d ops l' :: k, fr', st, kn'⟩
      rw [ek]
      exact go _ (fun ⟨fr2, h1, h2⟩ => ⟨fr2, DX.cons hp (.inr ⟨hg, rfl⟩) h1, h2⟩)
     ·rw [e]; exact stay
    ·exact stay
 | .g X ops l tw :: k, stay, go =>
  cases l with
  | nil =>
   simp only
   cases ht : Hp ops X tw with
   | false => exact stay
   | true => exact go _ (fun h => GK.nil ht h)
  | cons o l' =>
   simp only
   cases hu : AO u o with
   | true => exact stay
   | false =>
    simp only [cond_false]
    split
    ·rename_i hg
     have hg := oX hg
     cases hqq : (iS o.op && !qX an o) with
     | false =>
      simp only [cond_false]
      split
      ·rename_i fr' T W st' hw
       simp only [vT, pd]
       obtain ⟨kn', ek⟩ := lQ false o.dst kn fun kn' => K ⟨.g X ops l' (tw ++ [(T, W)]) :: k, fr', st', kn'⟩
       rw [ek]
       exact go _ (fun h => GK.w hw h)
      ·exact stay
     | true =>
      simp only [cond_true]
      rw [Bool.and_eq_true] at hqq
      split
      ·rename_i av st' hq
       obtain ⟨ob, hs', he, hob⟩ := EA hq
       have hmu : qX [] o = false := by unfold qX; split <;> rfl
       rw [hmu] at he
       rw [Hf]
       cases hc : CB ops X o fr av with
       | false => exact stay
       | true =>
        simp only [cond_true]
        rcases ko (n := n) o.dst av fr (fun fr' => uI (v6 kn o fr) o.dst kn fun kn' => K ⟨.g X ops l' (tw ++ [(nj ops X o fr, [])]) :: k, fr', st, kn'⟩) (E ⟨.g X ops (o :: l') tw :: k, fr, st, kn⟩) with ⟨fr', hp, e⟩ | e
        ·rw [e]
         obtain ⟨kn', ek⟩ := lQ (v6 kn o fr) o.dst kn fun kn' => K ⟨.g X ops l' (tw ++ [(nj ops X o fr, [])]) :: k, fr', st, kn'⟩
         rw [ek]
         exact go _ (fun h => GK.yd (oM hp) hc (.inl ⟨hg, Yd.ev hqq.1 he hob⟩) h)
        ·rw [e]; exact stay
      ·exact stay
    ·rename_i hg
     have hg := oX hg
     cases hc : CB ops X o fr (.tp []) with
     | false => exact stay
     | true =>
      simp only [cond_true]
      rcases ko (n := n) o.dst (.tp []) fr (fun fr' => uI false o.dst kn fun kn' => K ⟨.g X ops l' (tw ++ [(nj ops X o fr, [])]) :: k, fr', st, kn'⟩) (E ⟨.g X ops (o :: l') tw :: k, fr, st, kn⟩) with ⟨fr', hp, e⟩ | e
      ·rw [e]
       obtain ⟨kn', ek⟩ := lQ false o.dst kn fun kn' => K ⟨.g X ops l' (tw ++ [(nj ops X o fr, [])]) :: k, fr', st, kn'⟩
       rw [ek]
       exact go _ (fun h => GK.yd (oM hp) hc (.inr ⟨hg, rfl⟩) h)
      ·rw [e]; exact stay
    ·exact stay
def FX {β : Type} (P : Program) (n : Nat) (an : List Nat) (u : Option Nat) : Nat → SS → (SS → β) → β
 | 0, s, E => E s
 | f + 1, s, E => Cb P n an u s (fun s' => FX P n an u f s' E) E
theorem ut {an : List Nat} {u : Option Nat} {Q : QT} {β : Type} : ∀ (f : Nat) (s : SS) (E : SS → β), ∃ s', FX P n an u f s E = E s' ∧ (XK P n n0 loose Q s' → XK P n n0 loose Q s)
 | 0, s, E => ⟨s, rfl, id⟩
 | f + 1, s, E => by
  simp only [FX]
  obtain ⟨s', h1, h2⟩ := GL (n0 := n0) (loose := loose) (Q := Q) (P := P) (n := n) (an := an) (u := u) s (fun s' => FX P n an u f s' E) E
  rcases h1 with h1 | h1
  ·obtain ⟨s2, k1, k2⟩ := ut f s' E
   exact ⟨s2, h1.trans k1, fun h => h2 (k2 h)⟩
  ·exact ⟨s', h1, h2⟩
def run (P : Program) (n : Nat) (an : List Nat) (s : SS) : SS := FX P n an none 4000 s id
def CN (P : Program) (n : Nat) (an : List Nat) (d : Nat) (s : SS) : SS := FX P n an (some d) 4000 s id
theorem cq {an : List Nat} {Q : QT} {s : SS} (h : XK P n n0 loose Q (run P n an s)) : XK P n n0 loose Q s := by
 obtain ⟨s', h1, h2⟩ := ut (n0 := n0) (loose := loose) (Q := Q) (P := P) (n := n) (an := an) (u := none) 4000 s id
 unfold run at h
 rw [h1] at h
 exact h2 h
theorem ur {an : List Nat} {d : Nat} {Q : QT} {s : SS} (h : XK P n n0 loose Q (CN P n an d s)) : XK P n n0 loose Q s := by
 obtain ⟨s', h1, h2⟩ := ut (n0 := n0) (loose := loose) (Q := Q) (P := P) (n := n) (an := an) (u := some d) 4000 s id
 unfold CN at h
 rw [h1] at h
 exact h2 h
end
end Go.SX
namespace Go.SX
open Go
theorem fk.at1 {μ : Nat → Prop} {w : World} {v : Value} {els : List (List PV)} {i off : Nat} {c : List PV} (h : fk μ w v (.rp els i off)) (hc : els[i]? = some c) : fk μ w v (.rp [c] 0 off) := by
 cases h with
 | rp a sz _ _ _ vf hsz hb hcell hv =>
  have hm := List.mem_of_getElem? hc
  have hne : els ≠ [] := fun e => by subst e; simp at hc
  have e1 : a.add (i * sz + off) = (a.add (i * sz)).add (0 * sz + off) := by rw [rj]; simp
  rw [e1]
  refine .rp (a.add (i * sz)) sz [c] 0 off (fun _ j => vf i j) (fun e he => by simp at he; subst he; exact hsz _ hm) (fun _ => by rw [qr]; exact hb hne) ?_ ?_
  ·intro i' e j p h1 h2
   cases i' with
   | zero =>
    simp at h1; subst h1
    rw [rj]
    have := hcell i c j p hc h2
    rw [show i * sz + (0 * sz + j) = i * sz + j by simp]
    exact this
   | succ i' => simp at h1
  ·intro i' e j p h1 h2
   cases i' with
   | zero => simp at h1; subst h1; exact hv i c j p hc h2
   | succ i' => simp at h1
section
variable {P : Program} {n n0 : Nat} {loose an : List Nat} {Q Q1 : QT} {α β : Type} {T x y : Option β} {r : β} {s : SS}
structure GG (P : Program) (n n0 : Nat) (loose an : List Nat) {β : Type} (r : β) (Q : QT) (T : Option β) (s : SS) : Prop where
 go : T = some r → XK P n n0 loose Q s
instance : CoeFun (GG P n n0 loose an r Q T s) (fun _ => T = some r → XK P n n0 loose Q s) := ⟨GG.go⟩
theorem Yd.le {st : St} {o : Oper} {f : Fr} {av av' : AV} (h : Yd P n st o f av) (hl : ∀ ι w v, aL ι w st v av → aL ι w st v av') : Yd P n st o f av' :=
 fun ι w a hR hF K Q hK => h ι w a hR hF K Q fun v w' ι' h1 h2 h3 => hK v w' ι' (hl _ _ _ h1) h2 h3
def tT (s : SS) : Option (Oper × Fr) :=
 match s.ks with
 | .o ops (o :: _) :: _ => (match IU ops s.kn o s.fr with
  | some true => some (o, s.fr)
  | _ => none)
 | .d ops (o :: _) :: _ => (match IU ops s.kn o (cn ops o s.fr) with
  | some true => some (o, cn ops o s.fr)
  | _ => none)
 | .g _ ops (o :: _) _ :: _ => (match IU ops s.kn o (cn ops o s.fr) with
  | some true => some (o, cn ops o s.fr)
  | _ => none)
 | _ => none
def yD (s : SS) : St := match s.ks with
 | .g X ops (o :: _) _ :: _ => i8 (aP (nj ops X o s.fr)) 0 s.st
 | _ => s.st
def yp (n : Nat) (av : AV) (s : SS) : SS :=
 match s with
 | ⟨.o ops (o :: l) :: k, fr, st, kn⟩ => fA av fun av => td n o.dst av fr (fun fr' => uI false o.dst kn fun kn' => ⟨.o ops l :: k, fr', st, kn'⟩) s
 | ⟨.d ops (o :: l) :: k, fr, st, kn⟩ => fA av fun av => td n o.dst av fr (fun fr' => uI false o.dst kn fun kn' => ⟨.d ops l :: k, fr', st, kn'⟩) s
 | ⟨.g X ops (o :: l) tw :: k, fr, st, kn⟩ => fA av fun av => bif CB ops X o fr av then td n o.dst av fr (fun fr' => uI false o.dst kn fun kn' => ⟨.g X ops l (tw ++ [(nj ops X o fr, [])]) :: k, fr', st, kn'⟩) s else s
 | s => s
theorem XO.yd {ops : Array Oper} {o : Oper} {l : List Oper} {fr fr' : Fr} {st : St} {av : AV} (hg : cp ops o fr = some true) (h : Yd P n st o fr av) (hp : qN n o.dst av fr = some fr')
  (k : XO P n n0 loose ops l Q fr' st) : XO P n n0 loose ops (o :: l) Q fr st := by
 intro ι w a hR hF
 have hw := cr hg hF
 refine wpList_step fun K hK => ?_
 rw [if_pos hw]
 refine h ι w a hR hF K _ fun v w' ι' hv hR' kk => ?_
 exact hK _ _ (dG (fun e a w h => h.trans (kk.weaken (fun _ _ => trivial))) (k ι' w' _ hR' (je hp (hF.mono' kk) hv)))
theorem mh {o : Oper} {f : Fr} {av : AV} (he : tT s = some (o, f)) (h : Yd P n (yD s) o f av) (k : XK P n n0 loose Q (yp n av s)) : XK P n n0 loose Q s := by
 obtain ⟨ks, fr, st, kn⟩ := s
 match ks, he with
 | .o ops (o' :: l) :: ks, he =>
  simp only [tT] at he
  split at he
  ·rename_i hg
   have hg := oX hg
   simp only [Option.some.injEq, Prod.mk.injEq] at he
   obtain ⟨rfl, rfl⟩ := he
   simp only [yp, rT] at k
   rcases ko (n := n) o'.dst av fr (fun fr' => uI false o'.dst kn fun kn' => (⟨.o ops l :: ks, fr', st, kn'⟩ : SS)) ⟨.o ops (o' :: l) :: ks, fr, st, kn⟩ with ⟨fr', hp, e⟩ | e
   ·obtain ⟨kn', ek⟩ := lQ false o'.dst kn fun kn' => (⟨.o ops l :: ks, fr', st, kn'⟩ : SS)
    rw [e, ek] at k; exact XO.yd hg h hp k
   ·rw [e] at k; exact k
  ·cases he
 | .d ops (o' :: l) :: ks, he =>
  simp only [tT] at he
  split at he
  ·rename_i hg
   have hg := oX hg
   simp only [Option.some.injEq, Prod.mk.injEq] at he
   obtain ⟨rfl, rfl⟩ := he
   simp only [yp, rT] at k
   rcases ko (n := n) o'.dst av fr (fun fr' => uI false o'.dst kn fun kn' => (⟨.d ops l :: ks, fr', st, kn'⟩ : SS)) ⟨.d ops (o' :: l) :: ks, fr, st, kn⟩ with ⟨fr', hp, e⟩ | e
   ·obtain ⟨kn', ek⟩ := lQ false o'.dst kn fun kn' => (⟨.d ops l :: ks, fr', st, kn'⟩ : SS)
    rw [e, ek] at k
    obtain ⟨fr2, k1, k2⟩ := k
    exact ⟨fr2, DX.cons hp (.inl ⟨hg, h⟩) k1, k2⟩
   ·rw [e] at k; exact k
  ·cases he
 | .g X ops (o' :: l) tw :: ks, he =>
  simp only [tT] at he
  split at he
  ·rename_i hg
   have hg := oX hg
   simp only [Option.some.injEq, Prod.mk.injEq] at he
   obtain ⟨rfl, rfl⟩ := he
   simp only [yp, rT] at k
   cases hc : CB ops X o' fr av with
   | false => simp only [hc, cond_false] at k; exact k
   | true =>
    simp only [hc, cond_true] at k
    rcases ko (n := n) o'.dst av fr (fun fr' => uI false o'.dst kn fun kn' => (⟨.g X ops l (tw ++ [(nj ops X o' fr, [])]) :: ks, fr', st, kn'⟩ : SS)) ⟨.g X ops (o' :: l) tw :: ks, fr, st, kn⟩ with ⟨fr', hp, e⟩ | e
    ·obtain ⟨kn', ek⟩ := lQ false o'.dst kn fun kn' => (⟨.g X ops l (tw ++ [(nj ops X o' fr, [])]) :: ks, fr', st, kn'⟩ : SS)
     rw [e, ek] at k
     exact GK.yd (oM hp) hc (.inl ⟨hg, h⟩) k
    ·rw [e] at k; exact k
  ·cases he
def vG : List It → Bool
 | .c _ :: _ => true
 | .o _ _ :: _ => true
 | .b _ :: k => vG k
 | _ => false
theorem QK.sub {fr' : Fr} {st' : St} : ∀ {ks : List It} {fr : Fr} {st : St}, vG ks = true → nC n n0 loose fr st fr' st' → QK P n n0 loose ks Q .normal fr' st' → QK P n n0 loose ks Q .normal fr st
 | .c _ :: _, _, _, _, hs, h => XW.sub hs h
 | .o _ _ :: _, _, _, _, hs, h => XO.sub hs h
 | .b _ :: k, _, _, ht, hs, h => QK.sub (ks := k) (by simpa [vG] using ht) hs h
theorem XK.sub {fr' fr : Fr} {st' st : St} {ks : List It} {kn kn' : List Nat} (ht : vG ks = true) (hs : nC n n0 loose fr st fr' st') (h : XK P n n0 loose Q ⟨ks, fr', st', kn'⟩) : XK P n n0 loose Q ⟨ks, fr, st, kn⟩ := QK.sub ht hs h
def D6 (d : Nat) (av : AV) : Fr → Fr
 | [] => []
 | (t, a) :: f => bif Nat.beq t d then (t, av) :: f else (t, a) :: D6 d av f
theorem FH (d : Nat) : ∀ f : Fr, D6 d (lk f d) f = f
 | [] => rfl
 | (t, a) :: f => by
  simp only [D6, lk]
  cases hb : Nat.beq t d with
  | true => rfl
  | false => simp only [cond_false]; rw [FH d f]
def Fu {β : Type} (d : Nat) (av : AV) : Fr → (Fr → β) → β
 | [], K => K []
 | (t, a) :: f, K => bif Nat.beq t d then K ((t, av) :: f) else Fu d av f fun f => K ((t, a) :: f)
theorem vW {β : Type} (d : Nat) (av : AV) : ∀ (f : Fr) (K : Fr → β), Fu d av f K = K (D6 d av f)
 | [], K => rfl
 | (t, a) :: f, K => by
  simp only [Fu, D6]
  cases Nat.beq t d with
  | true => rfl
  | false => simp only [cond_false]; exact vW d av f _
def Ms (kn : List Nat) (o : Oper) : Option Nat := match o.op with
 | .pick (.tmp c) _ _ => bif kn.any (Nat.beq c) then none else some c
 | _ => none
def Nd (ops : Array Oper) (kn : List Nat) (o : Oper) : Option Nat := match o.guard with
 | some (j, _) => (match (ops[j]?).bind (·.dst) with
  | some d => bif kn.any (Nat.beq d) then Ms kn o else some d
  | none => none)
 | none => Ms kn o
def Lt (s : SS) : Option Nat := match s.ks with
 | .o ops (o :: _) :: _ => Nd ops s.kn o
 | .d ops (o :: _) :: _ => Nd ops s.kn o
 | .g _ ops (o :: _) _ :: _ => Nd ops s.kn o
 | _ => none
def bool? (a : AV) : Option Bool := match a with
 | .one (.pv (.s (.bool t))) => some t
 | _ => none
theorem bool?_eq {a : AV} {t : Bool} (h : bool? a = some t) : a = vb t := by
 unfold bool? at h
 split at h
 ·simp only [Option.some.injEq] at h; subst h; rfl
 ·cases h
def Il (s : SS) : Option Bool :=
 match s.ks with
 | .c (.cond o _ _) :: _ => bool? (rv s.fr o)
 | _ => (match Lt s with
  | some d => bool? (lk s.fr d)
  | none => none)
def IS (t : Bool) (s : SS) : SS :=
 match s with
 | ⟨ks, fr, st, kn⟩ => match ks with
  | .c (.cond o a b) :: k => (match t with
   | true => ⟨.c a :: k, fr, st, kn⟩
   | false => ⟨.c b :: k, fr, st, kn⟩)
  | ks => (match Lt ⟨ks, fr, st, kn⟩ with
   | some d => Fu d (vb t) fr fun fr => ⟨ks, fr, st, d :: kn⟩
   | none => ⟨ks, fr, st, kn⟩)
theorem L9 {ks : List It} {fr : Fr} {st : St} {kn : List Nat} {d : Nat} {t : Bool} (hd : Lt ⟨ks, fr, st, kn⟩ = some d) : IS t ⟨ks, fr, st, kn⟩ = ⟨ks, D6 d (vb t) fr, st, d :: kn⟩ := by
 cases ks with
 | nil => simp [Lt] at hd
 | cons x k =>
  cases x with
  | c x => simp [Lt] at hd
  | b => simp [Lt] at hd
  | r => simp [Lt] at hd
  | o ops l => simp only [IS, hd, vW]
  | d ops l => simp only [IS, hd, vW]
  | g X ops l tw => simp only [IS, hd, vW]
theorem v7 {t : Bool} (he : Il s = some t) (k : XK P n n0 loose Q (IS t s)) : XK P n n0 loose Q s := by
 obtain ⟨ks, fr, st, kn⟩ := s
 unfold Il at he
 split at he
 ·rename_i o a b ks' hk
  simp only at hk
  subst hk
  have hx := bool?_eq he
  simp only [IS] at k
  refine XW.cond (n := n) rfl hx (fun h => ?_) (fun h => ?_)
  ·subst h; exact k
  ·subst h; exact k
 ·rename_i hk
  split at he
  ·rename_i d hd
   have hx := bool?_eq he
   rw [L9 hd, ← hx] at k
   have k : QK P n n0 loose ks Q .normal (D6 d (lk fr d) fr) st := k
   rw [FH] at k
   exact k
  ·cases he
theorem uC {t : Bool} (ht : GG P n n0 loose an r Q x (IS true (run P n an s))) (hf : GG P n n0 loose an r Q y (IS false (run P n an s)))
  (he : Il (run P n an s) = some t := by kernel_rfl) : GG P n n0 loose an r Q (aA t x y) s := by
 refine ⟨fun h => ?_⟩
 refine cq (an := an) ?_
 cases t with
 | true => exact v7 he (ht h)
 | false => exact v7 he (hf h)
theorem uT (k : GG P n n0 loose an r Q T (IS true (run P n an s))) (he : Il (run P n an s) = some true := by kernel_rfl) : GG P n n0 loose an r Q T s :=
 ⟨fun h => cq (an := an) (v7 he (k h))⟩
theorem uF (k : GG P n n0 loose an r Q T (IS false (run P n an s))) (he : Il (run P n an s) = some false := by kernel_rfl) : GG P n n0 loose an r Q T s :=
 ⟨fun h => cq (an := an) (v7 he (k h))⟩
theorem jL {o : Option β} {p : Prop} (e : o = none) (h : o = some r) : p := by rw [e] at h; cases h
theorem Ol : GG P n n0 loose an r Q (none : Option β) s := ⟨fun h =>
 nomatch h⟩
def NP (s : SS) : Option Nat := match tT s with
 | some (o, _) => (match o.op with
  | .indexAddr _ _ (.tmp t) => some t
  | .index _ _ (.tmp t) => some t
  | _ => none)
 | none => none
def Oy (s : SS) : Option (IntKind × Int) := match NP s with
 | some t => (match lk s.fr t with
  | .one (.pv (.s (.int k m))) => some (k, m)
  | _ => none)
 | none => none
def El (P : Program) (s : SS) : Option (AV × List Prop) :=
 match tT s with
 | some (o, f) => bif iS o.op then (match ev P false o f (yD s) (Gc o f) with
  | some out => some (out.av, out.ob)
  | none => none) else none
 | none => none
theorem Ix {av : AV} {ob : List Prop} (he : El P s = some (av, ob)) (hob : eO ob) : ∃ o f, tT s = some (o, f) ∧ Yd P n (yD s) o f av := by
 unfold El at he
 split at he
 ·rename_i o f hd
  cases hq : iS o.op with
  | false => simp [hq] at he
  | true =>
   simp only [hq, cond_true] at he
   split at he
   ·rename_i out hev
    simp only [Option.some.injEq, Prod.mk.injEq] at he
    obtain ⟨rfl, rfl⟩ := he
    exact ⟨o, f, hd, Yd.ev hq hev hob⟩
   ·cases he
 ·cases he
theorem uV (av av' : AV) {ob : List Prop} (hob : eO ob) (hav : av = av') (k : GG P n n0 loose an r Q T (yp n av' (run P n an s))) (he : El P (run P n an s) = some (av, ob)) : GG P n n0 loose an r Q T s := by
 refine ⟨fun h => ?_⟩
 obtain ⟨o, f, h1, h2⟩ := Ix (n := n) he hob
 subst hav
 exact cq (an := an) (mh h1 h2 (k h))
def Ny (P : Program) (s : SS) : AV := match El P s with
 | some (av, _) => av
 | none => .j
def NO (P : Program) (s : SS) : Option (List Prop) := match El P s with
 | some (_, ob) => some ob
 | none => none
theorem Nt {ob : List Prop} (h : NO P s = some ob) : El P s = some (Ny P s, ob) := by
 unfold NO at h
 unfold Ny
 split at h
 ·rename_i av ob' he
  simp only [Option.some.injEq] at h
  subst h
  rw [he]
 ·cases h
def Nv (P : Program) (s : SS) : Option AV :=
 match tT s with
 | some (o, f) => bif iS o.op then (match ev P false o f (yD s) (Gc o f) with
  | some out => (match out.ob with
   | [] => some out.av
   | _ => bif LB P s.kn o f then some out.av else none)
  | none => none) else none
 | none => none
theorem Lg {av : AV} (he : Nv P s = some av) : ∃ o f, tT s = some (o, f) ∧ Yd P n (yD s) o f av := by
 unfold Nv at he
 split at he
 ·rename_i o f hd
  cases hq : iS o.op with
  | false => simp [hq] at he
  | true =>
   simp only [hq, cond_true] at he
   split at he
   ·rename_i out hev
    have hob : eO out.ob ∧ out.av = av := by
     split at he
     ·rename_i hob
      rw [hob]
      exact ⟨trivial, Option.some.inj he⟩
     ·cases hb : LB P s.kn o f with
      | false => simp [hb] at he
      | true => rw [hb] at he; exact ⟨GV hb hev, Option.some.inj he⟩
    rw [← hob.2]
    exact ⟨o, f, hd, Yd.ev hq hev hob.1⟩
   ·cases he
 ·cases he
theorem uY (d : Nat) {e : α} (m : α → AV) {f : α → Option β} (k : ∀ y, GG P n n0 loose an r Q (f y) (yp n (m y) (CN P n an d s)))
  (he : Nv P (CN P n an d s) = some (m e) := by kernel_rfl) : GG P n n0 loose an r Q (aD (some e) f) s := by
 refine ⟨fun h => ?_⟩
 obtain ⟨o, g, h1, h2⟩ := Lg (n := n) he
 exact ur (mh h1 h2 (k e h))
theorem uG {p : Prop} [Decidable p] (k : GG P n n0 loose an r Q x (yp n (Ny P (run P n an s)) (run P n an s))) (he : NO P (run P n an s) = some [p] := by kernel_rfl) : GG P n n0 loose an r Q (eZ p x) s := by
 refine ⟨fun h => ?_⟩
 obtain ⟨hp, h⟩ := lF h
 exact uV _ _ (ob := [p]) ⟨hp, trivial⟩ rfl k (Nt he) h
def I1 (P : Program) (s : SS) : Option (List (List PV) × Int × Nat) :=
 match tT s with
 | some (o, f) => (match o.op with
  | .indexAddr t x i => (match P.underlying t, rv f x, rv f i with
   | some (.slice e), .one (.pv (.ro els)), .one (.pv (.s (.int _ m))) => (match wV P e with
    | some es => some (els, m, es)
    | none => none)
   | _, _, _ => none)
  | _ => none)
 | none => none
theorem J9 {els : List (List PV)} {i : Int} {es : Nat} {c : List PV} (he : I1 P s = some (els, i, es)) (h : 0 ≤ i ∧ i < (els.length : Int) ∧ fc es els) (hc : els[i.toNat]? = some c) :
  ∃ o f, tT s = some (o, f) ∧ Yd P n (yD s) o f (.one (.pv (.rp [c] 0 0))) := by
 unfold I1 at he
 split at he
 ·rename_i o f hd
  refine ⟨o, f, hd, ?_⟩
  split at he
  ·rename_i t x i' ho
   split at he
   ·rename_i e els' k m hu hx hi
    split at he
    ·rename_i es' hes
     simp only [Option.some.injEq, Prod.mk.injEq] at he
     obtain ⟨rfl, rfl, rfl⟩ := he
     have hev : ev P false o f (yD s) [] = some ⟨.one (.pv (.rp els' m.toNat 0)), yD s, [0 ≤ m ∧ m < (els'.length : Int) ∧ fc es' els'], [], none⟩ := by
      unfold ev
      simp only [ho, hx, hi, Gg, hu, hes]
     refine (Yd.ev (by rw [ho]; rfl) hev ⟨h, trivial⟩).le ?_
     intro ι w v hv
     cases ky hv with
     | pv _ _ hp => exact .one _ _ (.pv _ _ (hp.at1 hc))
    ·cases he
   ·cases he
  ·cases he
 ·cases he
theorem uL (E : pD α) {xs : List α} {i : Int} {f : α → Option β} (k : ∀ e, at? xs i = some e → GG P n n0 loose an r Q (f e) (yp n (.one (.pv (.rp [E.cells e] 0 0))) (run P n an s)))
  (he : I1 P (run P n an s) = some (E.els xs, i, E.sz) := by kernel_rfl) : GG P n n0 loose an r Q (aD (at? xs i) f) s := by
 refine ⟨fun h => ?_⟩
 obtain ⟨e, ha, h⟩ := nW h
 obtain ⟨o, g, h1, h2⟩ := J9 (n := n) he (E.inb ha) (E.get ha)
 exact cq (an := an) (mh h1 h2 (k e ha h))
theorem uM (E : pD α) {xs : List α} {i : Int} {e : α} (ha : at? xs i = some e) (k : GG P n n0 loose an r Q T (yp n (.one (.pv (.rp [E.cells e] 0 0))) (run P n an s)))
  (he : I1 P (run P n an s) = some (E.els xs, i, E.sz) := by kernel_rfl) : GG P n n0 loose an r Q T s := by
 refine ⟨fun h => ?_⟩
 obtain ⟨o, g, h1, h2⟩ := J9 (n := n) he (E.inb ha) (E.get ha)
 exact cq (an := an) (mh h1 h2 (k h))
theorem uN (E : pD α) (xs : List α) (k : GG P n n0 loose an r Q T (yp n (vi (xs.length : Int)) (run P n an s)))
  (he : El P (run P n an s) = some (vi ((E.els xs).length : Int), []) := by kernel_rfl) : GG P n n0 loose an r Q T s :=
 uV _ _ (ob := []) trivial (by rw [E.len]) k he
theorem uX (E : pD α) {xs : List α} {a b : Int} (k : GG P n n0 loose an r Q x (yp n (vl E ((xs.drop a.toNat).take (b.toNat - a.toNat))) (run P n an s)))
  (he : El P (run P n an s) = some (.one (.pv (.ro (((E.els xs).drop a.toNat).take (b.toNat - a.toNat)))), [(0 ≤ a ∧ a ≤ b ∧ b ≤ ((E.els xs).length : Int)) ∧ fc E.sz (E.els xs)]) := by kernel_rfl) :
  GG P n n0 loose an r Q (eZ (0 ≤ a ∧ a ≤ b ∧ b ≤ (xs.length : Int)) x) s := by
 refine ⟨fun h => ?_⟩
 obtain ⟨hp, h⟩ := lF h
 exact uV _ _ (ob := [_]) ⟨E.cutOk hp, trivial⟩ (by rw [E.cut]) k he h
theorem MK (E : pD α) {xs : List α} {a b m : Int} (k : GG P n n0 loose an r Q x (yp n (vl E ((xs.drop a.toNat).take (b.toNat - a.toNat))) (run P n an s)))
  (he : El P (run P n an s) = some (.one (.pv (.ro (((E.els xs).drop a.toNat).take (b.toNat - a.toNat)))), [(0 ≤ a ∧ a ≤ b ∧ b ≤ m ∧ m ≤ ((E.els xs).length : Int)) ∧ fc E.sz (E.els xs)]) := by kernel_rfl) :
  GG P n n0 loose an r Q (eZ (0 ≤ a ∧ a ≤ b ∧ b ≤ m ∧ m ≤ (xs.length : Int)) x) s := by
 refine ⟨fun h => ?_⟩
 obtain ⟨hp, h⟩ := lF h
 exact uV _ _ (ob := [_]) ⟨E.cutMOk hp, trivial⟩ (by rw [E.cut]) k he h
theorem On (xs : List Int) (k : GG P n n0 loose an r Q T (yp n (vs (runesBytes xs)) (run P n an s)))
  (he : El P (run P n an s) = some (vs (pj ((eK .i32).els xs)), [wN ((eK .i32).els xs)]) := by kernel_rfl) : GG P n n0 loose an r Q T s :=
 uV _ _ (ob := [_]) ⟨EM xs, trivial⟩ (by rw [Ap]) k he
theorem Oo {a : ByteArray} (k : GG P n n0 loose an r Q x (yp n (vl (eK .i32) (dW a)) (run P n an s)))
  (he : El P (run P n an s) = some (.one (.pv (.ro (oG a))), [a.size ≤ 4294967296]) := by kernel_rfl) : GG P n n0 loose an r Q (eZ (a.size ≤ 4294967296) x) s := by
 refine ⟨fun h => ?_⟩
 obtain ⟨hp, h⟩ := lF h
 exact uV _ _ (ob := [_]) ⟨hp, trivial⟩ (by rw [EJ]) k he h
def M0 (P : Program) (s : SS) : Option (Nat × List AV) :=
 match tT s with
 | some (o, f) => sH P o f
 | none => none
theorem J8 {g : Nat} {avs : List AV} {v : AV} (he : M0 P s = some (g, avs)) (h : PC P g avs v) (hp : n7 avs = true) (hr : rz v = true) : ∃ o f, tT s = some (o, f) ∧ Yd P n (yD s) o f v := by
 unfold M0 at he
 split at he
 ·rename_i o f hd
  exact ⟨o, f, hd, Yd.call he h hp hr⟩
 ·cases he
def CT (P : Program) (f : Nat) (args : List AV) {β : Type} (T : Option β) (rv : β → AV) : Prop := ∀ r, T = some r → PC P f args (rv r)
theorem N9 {α : Type} {o : Option α} {f : α → Option β} {g : Nat} {avs : List AV} {rv : α → AV} (c : CT P g avs o rv)
  (k : ∀ v, o = some v → GG P n n0 loose an r Q (f v) (yp n (rv v) (run P n an s)))
  (he : M0 P (run P n an s) = some (g, avs) := by kernel_rfl) (hp : n7 avs = true := by kernel_rfl) (hr : ∀ v, rz (rv v) = true := by intro v; kernel_rfl) : GG P n n0 loose an r Q (aD o f) s := by
 refine ⟨fun h => ?_⟩
 obtain ⟨v, ho, h⟩ := nW h
 obtain ⟨o', f', h1, h2⟩ := J8 (n := n) he (c v ho) hp (hr v)
 exact cq (an := an) (mh h1 h2 (k v ho h))
def MJ : CV → CV
 | .pv (.s (.slice none 0 0)) => .pv (.ro [])
 | .cl els => .pv (.ro els)
 | c => c
def LD : AV → AV
 | .one c => .one (MJ c)
 | .ag cs => .ag (cs.map MJ)
 | a => a
theorem Hr (c : CV) : H9 c (MJ c) := by
 unfold MJ
 split
 ·exact .nl
 ·exact .cl _
 ·exact .rfl _
theorem H5 (a : AV) : FP a (LD a) := by
 unfold LD
 split
 ·exact .one (Hr _)
 ·refine .ag (by simp) (fun i c c' h1 h2 => ?_)
  rw [List.getElem?_map, h1] at h2
  simp only [Option.map_some, Option.some.injEq] at h2
  subst h2
  exact Hr c
 ·exact .rfl _
theorem xl.refl : ∀ l : List AV, xl l l
 | [] => trivial
 | a :: l => ⟨.rfl _, xl.refl l⟩
theorem Da (l : List AV) : xl l (l.map LD) := by
 induction l with
 | nil => trivial
 | cons a l ih => exact ⟨H5 a, ih⟩
def Oi (P : Program) (s : SS) : Option (Nat × List AV) := match M0 P s with
 | some (g, l) => bif n7 l then some (g, l.map LD) else none
 | none => none
theorem uP {α : Type} {o : Option α} {f : α → Option β} {g : Nat} {avs : List AV} {rv : α → AV} (c : CT P g avs o rv)
  (k : ∀ v, o = some v → GG P n n0 loose an r Q (f v) (yp n (rv v) (run P n an s)))
  (he : Oi P (run P n an s) = some (g, avs) := by kernel_rfl) (hr : ∀ v, rz (rv v) = true := by intro v; kernel_rfl) : GG P n n0 loose an r Q (aD o f) s := by
 refine ⟨fun h => ?_⟩
 obtain ⟨v, ho, h⟩ := nW h
 unfold Oi at he
 split at he
 ·rename_i g' l hq
  cases hp : n7 l with
  | false => simp [hp] at he
  | true =>
   simp only [hp, cond_true, Option.some.injEq, Prod.mk.injEq] at he
   obtain ⟨rfl, rfl⟩ := he
   obtain ⟨o', f', h1, h2⟩ := J8 (n := n) hq ((c v ho).le (Da l)) hp (hr v)
   exact cq (an := an) (mh h1 h2 (k v ho h))
 ·cases he
structure KP (n n0 : Nat) (loose : List Nat) where
 p : Fr → St → Prop
 cl : ∀ {fr st fr' st'}, nC n n0 loose fr st fr' st' → p fr' st' → p fr st
theorem uo (Q : QT) : ∀ l1 l2 : List It, QK P n n0 loose (l1 ++ l2) Q = QK P n n0 loose l1 (QK P n n0 loose l2 Q)
 | [], l2 => rfl
 | .b _ :: l, l2 => by simp only [List.cons_append, QK, uo Q l l2]
 | .c _ :: l, l2 => by simp only [List.cons_append, QK, uo Q l l2]
 | .o _ _ :: l, l2 => by simp only [List.cons_append, QK, uo Q l l2]
 | .d _ _ :: l, l2 => by simp only [List.cons_append, QK, uo Q l l2]
 | .g _ _ _ _ :: l, l2 => by simp only [List.cons_append, QK, uo Q l l2]
 | .r _ _ :: l, l2 => by simp only [List.cons_append, QK, uo Q l l2]
theorem Ex (Q : QT) : kj (Q .normal) Q = Q := by funext e f s; cases e <;> rfl
def JV {α β : Type} : Nat → List α → (List α → β) → β
 | d + 1, x :: l, K => JV d l fun l => K (x :: l)
 | _, _, K => K []
def Fp {α β : Type} : List α → List β → Bool
 | [], [] => true
 | _ :: l, _ :: m => Fp l m
 | _, _ => false
def Na {β : Type} (l2 : List It) : List It → (List It → β) → β
 | [], K => K []
 | x :: l, K => bif Fp l2 (x :: l) then K [] else Na l2 l fun l => K (x :: l)
def Gu (l2 : List It) : List It → List It
 | [] => []
 | x :: l => bif Fp l2 (x :: l) then x :: l else Gu l2 l
theorem EY {β : Type} (l2 : List It) : ∀ (l : List It) (K : List It → β), ∃ l1, Na l2 l K = K l1 ∧ l = l1 ++ Gu l2 l
 | [], K => ⟨[], rfl, rfl⟩
 | x :: l, K => by
  obtain ⟨l1, h1, h2⟩ := EY l2 l (fun l => K (x :: l))
  unfold Na Gu
  cases hb : Fp l2 (x :: l) with
  | true => exact ⟨[], rfl, rfl⟩
  | false => exact ⟨x :: l1, by simp only [cond_false, h1], by simp only [cond_false, List.cons_append]; rw [← h2]⟩
def MT (l2 : List It) (s : SS) : SS := match s with
 | ⟨ks, fr, st, kn⟩ => Na l2 ks fun ks => ⟨ks, fr, st, kn⟩
def KF : List Nat → Code → List It → List It
 | [], _, acc => acc
 | i :: p, c, acc => match c with
  | .seq a b => bif Nat.beq i 0 then KF p a (.c b :: acc) else KF p b acc
  | .block id a => KF p a (.b id :: acc)
  | .cond _ a b => bif Nat.beq i 0 then KF p a acc else KF p b acc
  | .loop x => KF p x []
  | _ => acc
def kS (fn : Func) (p : List Nat) (m : Nat) : List It := JV m (KF p (cd fn []) []) id
theorem EN {l2 : List It} {s' : SS} (h : ∀ K : KP n n0 loose, (∀ {γ : Type} {T1 : Option γ} {r1 : γ} {f : Fr} {st : St}, T1 = some r1 → GG P n n0 loose an r1 Q T1 ⟨l2, f, st, []⟩ → K.p f st) → GG P n n0 loose an r (kj K.p (QK P n n0 loose l2 Q)) T (MT l2 s'))
  (he : Gu l2 s'.ks = l2) (ht : vG l2 = true) (hT : T = some r) : XK P n n0 loose Q s' := by
 have := h ⟨fun f st => XK P n n0 loose Q ⟨l2, f, st, []⟩, fun hs h => XK.sub ht hs h⟩ (fun hT g => g hT) hT
 obtain ⟨ks, fr, st, kn⟩ := s'
 obtain ⟨l1, e1, e3⟩ := EY l2 ks fun ks => (⟨ks, fr, st, kn⟩ : SS)
 have e : XK P n n0 loose Q ⟨ks, fr, st, kn⟩ = QK P n n0 loose (l1 ++ l2) Q .normal fr st := by
  simp only at he
  rw [he] at e3
  unfold XK
  rw [e3]
 rw [e, uo]
 have e2 : kj (fun f st => XK P n n0 loose Q ⟨l2, f, st, []⟩) (QK P n n0 loose l2 Q) = QK P n n0 loose l2 Q := Ex (QK P n n0 loose l2 Q)
 unfold MT at this
 simp only at this
 rw [e1] at this
 have t2 : QK P n n0 loose l1 (kj (fun f st => XK P n n0 loose Q ⟨l2, f, st, []⟩) (QK P n n0 loose l2 Q)) .normal fr st := this
 rw [e2] at t2
 exact t2
theorem uQ (l2 : List It) (h : ∀ K : KP n n0 loose, (∀ {γ : Type} {T1 : Option γ} {r1 : γ} {f : Fr} {st : St}, T1 = some r1 → GG P n n0 loose an r1 Q T1 ⟨l2, f, st, []⟩ → K.p f st) → GG P n n0 loose an r (kj K.p (QK P n n0 loose l2 Q)) T (MT l2 (run P n an s)))
 (he : Gu l2 (run P n an s).ks = l2 := by kernel_rfl) (ht : vG l2 = true := by kernel_rfl) : GG P n n0 loose an r Q T s := ⟨fun hT => cq (EN h he ht hT)⟩
theorem Ln (d : Nat) (l2 : List It) (h : ∀ K : KP n n0 loose, (∀ {γ : Type} {T1 : Option γ} {r1 : γ} {f : Fr} {st : St}, T1 = some r1 → GG P n n0 loose an r1 Q T1 ⟨l2, f, st, []⟩ → K.p f st) → GG P n n0 loose an r (kj K.p (QK P n n0 loose l2 Q)) T (MT l2 (CN P n an d s)))
 (he : Gu l2 (CN P n an d s).ks = l2 := by kernel_rfl) (ht : vG l2 = true := by kernel_rfl) : GG P n n0 loose an r Q T s := ⟨fun hT => ur (EN h he ht hT)⟩
def Lu : CV → CV → CV
 | .pv (.s (.slice none 0 0)), .pv (.ro _) => .pv (.ro [])
 | c, _ => c
def GQ : List CV → List CV → List CV
 | c :: l, e :: m => Lu c e :: GQ l m
 | l, _ => l
def CA : AV → AV → AV
 | .one c, .one e => .one (Lu c e)
 | .ag l, .ag m => .ag (GQ l m)
 | a, _ => a
def En : List AV → List AV → List AV
 | a :: l, e :: m => CA a e :: En l m
 | l, _ => l
def Js : AV → AV → AV
 | .tp l, .tp m => .tp (En l m)
 | a, e => CA a e
theorem HU (c e : CV) : H9 c (Lu c e) := by
 unfold Lu
 split
 ·exact .nl
 ·exact .rfl _
theorem Fv : ∀ (l m : List CV), l.length = (GQ l m).length ∧ ∀ (i : Nat) c c', l[i]? = some c → (GQ l m)[i]? = some c' → H9 c c'
 | [], m => by cases m <;> exact ⟨rfl, fun i c c' h => by simp at h⟩
 | c :: l, [] => ⟨rfl, fun i a b h1 h2 => by simp only [GQ] at h2; rw [h1] at h2; cases h2; exact .rfl _⟩
 | c :: l, e :: m => by
  obtain ⟨h1, h2⟩ := Fv l m
  refine ⟨by simp only [GQ, List.length_cons]; omega, fun i a b q1 q2 => ?_⟩
  cases i with
  | zero => simp only [GQ, List.getElem?_cons_zero, Option.some.injEq] at q1 q2; subst q1; subst q2; exact HU _ _
  | succ i => exact h2 i a b (by simpa using q1) (by simpa [GQ] using q2)
theorem JN (a e : AV) : FP a (CA a e) := by
 unfold CA
 split
 ·exact .one (HU _ _)
 ·obtain ⟨h1, h2⟩ := Fv _ _
  exact .ag h1 h2
 ·exact .rfl _
def Ig (fr : Fr) : Fr → Fr
 | [] => []
 | (t, e) :: l => (t, CA (lk fr t) e) :: Ig fr l
theorem Dv (fr : Fr) : ∀ fr0, IA fr (Ig fr fr0)
 | [] => trivial
 | (t, e) :: l => ⟨JN _ _, Dv fr l⟩
def sQ : Nat → St → List Nat
 | _, [] => []
 | i, .dead :: l => sQ (i + 1) l
 | i, _ :: l => i :: sQ (i + 1) l
def MO (n0 : Nat) (fr0 : Fr) (st0 : St) (fr : Fr) (st : St) : Option (Fr × St) :=
 bif ((List.range n0).all (aP (sQ 0 st0)) && (sQ 0 st0).all (fun x => Nat.ble (x + 1) st0.length)) && dc (aP (sQ 0 st0)) st0 then some (Ig (kp (aP (sQ 0 st0)) fr) fr0, qQ (sQ 0 st0) 0 (st.take st0.length)) else none
theorem FD {fr0 fr : Fr} {st0 st : St} (he : MO n0 fr0 st0 fr st = some (fr0, st0)) : nC n n0 loose fr st fr0 st0 := by
 unfold MO at he
 cases hb : ((List.range n0).all (aP (sQ 0 st0)) && (sQ 0 st0).all (fun x => Nat.ble (x + 1) st0.length)) && dc (aP (sQ 0 st0)) st0 with
 | false => simp [hb] at he
 | true =>
  simp only [hb, cond_true, Option.some.injEq, Prod.mk.injEq] at he
  rw [Bool.and_eq_true] at hb
  refine nC.trans (nC.only (sQ 0 st0) st0.length hb.1 rfl he.2 hb.2) ?_
  rw [← he.1]
  exact nC.frame (Dv _ _)
def Oe (n0 : Nat) (fr0 : Fr) (st0 : St) (s : SS) : Option (Fr × St) := match s.ks with
 | [] => MO n0 fr0 st0 s.fr s.st
 | _ => none
theorem uJ {K : KP n n0 loose} {fr0 : Fr} {st0 : St} (j : T = some r → K.p fr0 st0) (he : Oe n0 fr0 st0 (run P n an s) = some (fr0, st0) := by kernel_rfl) : GG P n n0 loose an r (kj K.p Q1) T s := by
 refine ⟨fun hT => ?_⟩
 refine cq (an := an) ?_
 unfold Oe at he
 split at he
 ·rename_i hk
  unfold XK
  rw [hk]
  exact K.cl (FD he) (j hT)
 ·cases he
def N0 (s : SS) : Option (Code × List It) := match s.ks with
 | .c (.loop x) :: k => some (x, k)
 | _ => none
theorem uO (x' : Code) (k : List It) (h : ∀ (R : Nat → KP n n0 loose), (∀ {γ : Type} {T1 : Option γ} {r1 : γ} {j : Nat} {f : Fr} {st : St}, T1 = some r1 → GG P n n0 loose an r1 (kj (R j).p (QK P n n0 loose k Q)) T1 ⟨[.c x'], f, st, []⟩ → (R (j + 1)).p f st) →
   T = some r → (R aV).p (run P n an s).fr (run P n an s).st)
  (he : N0 (run P n an s) = some (x', k) := by kernel_rfl) : GG P n n0 loose an r Q T s := by
 refine ⟨fun hT => ?_⟩
 refine cq (an := an) ?_
 have h1 := h (fun j => ⟨fun f st => XR P n n0 loose x' (QK P n n0 loose k Q) j f st, fun hs h => XR.sub hs h⟩) (fun h g => g h) hT
 generalize run P n an s = s' at *
 obtain ⟨ks, fr, st, kn⟩ := s'
 unfold N0 at he
 split at he
 ·rename_i y k' hk
  simp only [Option.some.injEq, Prod.mk.injEq] at he
  obtain ⟨rfl, rfl⟩ := he
  subst hk
  exact XW.rounds aV rfl h1
 ·cases he
def N2 (j : Nat) (s : SS) : SS := match s with
 | ⟨ks, fr, st, kn⟩ => match ks with
  | .c (.loop x) :: k => ⟨.c x :: .r x j :: k, fr, st, kn⟩
  | ks => ⟨ks, fr, st, kn⟩
theorem Ku (j : Nat) (g : GG P n n0 loose an r Q T (N2 j (run P n an s))) : GG P n n0 loose an r Q T s := by
 refine ⟨fun hT => ?_⟩
 refine cq (an := an) ?_
 have h1 := g hT
 generalize run P n an s = s' at *
 obtain ⟨ks, fr, st, kn⟩ := s'
 unfold N2 at h1
 simp only at h1
 split at h1
 ·exact XW.rounds (j + 1) rfl h1
 ·exact h1
theorem uE {K : KP n n0 loose} {fr0 fr : Fr} {st0 st : St} (j : T = some r → K.p fr0 st0) (he : MO n0 fr0 st0 fr st = some (fr0, st0) := by kernel_rfl) : T = some r → K.p fr st :=
 fun hT => K.cl (FD he) (j hT)
theorem uU {T' : Option β} (hu : T' = T) (g : GG P n n0 loose an r Q T s) : GG P n n0 loose an r Q T' s := hu ▸ g
def N5 (s : SS) : Option Exit := match s.ks with
 | .c (.exit id) :: k => bif (An id k).isNone then some (.exit id) else none
 | .c .ret :: _ => some .ret
 | _ => none
structure RE (P : Program) (n n0 : Nat) (loose an : List Nat) {β : Type} (r : β) (e : Exit) (Q : QT) (T : Option β) (s : SS) : Prop where
 go : T = some r → Q e s.fr s.st
instance {e : Exit} : CoeFun (RE P n n0 loose an r e Q T s) (fun _ => T = some r → Q e s.fr s.st) := ⟨RE.go⟩
theorem uR (e : Exit) (g : RE P n n0 loose an r e Q T (run P n an s)) (he : N5 (run P n an s) = some e := by kernel_rfl) : GG P n n0 loose an r Q T s := by
 refine ⟨fun hT => ?_⟩
 have g := g hT
 refine cq (an := an) ?_
 generalize run P n an s = s' at *
 obtain ⟨ks, fr, st, kn⟩ := s'
 unfold N5 at he
 split at he
 ·rename_i id k0 hk
  simp only at hk
  subst hk
  cases hu : An id k0 with
  | some k' => simp [hu] at he
  | none =>
   simp only [hu, Option.isNone_none, cond_true, Option.some.injEq] at he
   subst he
   exact XW.exit rfl (pW hu g)
 ·rename_i k0 hk
  simp only at hk
  subst hk
  simp only [Option.some.injEq] at he
  subst he
  exact XW.ret rfl (sP g)
 ·cases he
def HZ (e : Exit) (k : List It) : Option (List It) := match e with
 | .exit id => An id k
 | _ => none
def Nu : Exit → Bool
 | .ret => true
 | .exit _ => true
 | _ => false
theorem xM {e : Exit} {R : Fr → St → Prop} {k : List It} (g : GG P n n0 loose an r Q T ⟨(HZ e k).getD [], s.fr, s.st, []⟩) (he : (HZ e k).isSome = true := by kernel_rfl) : RE P n n0 loose an r e (kj R (QK P n n0 loose k Q)) T s := by
 refine ⟨fun hT => ?_⟩
 have g := g hT
 cases e <;> simp only [HZ] at he g <;> try (cases he; done)
 rename_i id
 obtain ⟨k', hk⟩ := Option.isSome_iff_exists.1 he
 rw [hk] at g
 exact sC hk g
theorem xN {e : Exit} {R : Fr → St → Prop} {k : List It} (g : RE P n n0 loose an r e Q T s) (he : ((HZ e k).isNone && Nu e) = true := by kernel_rfl) : RE P n n0 loose an r e (kj R (QK P n n0 loose k Q)) T s := by
 refine ⟨fun hT => ?_⟩
 have g := g hT
 cases e with
 | exit id => exact pW (Option.isNone_iff_eq_none.1 (by simpa [HZ, Nu] using he)) g
 | ret => exact sP g
 | _ => simp [Nu] at he
theorem HP {st : St} {q : Nat → Bool} {c e : CV} (h : l8 q (Lu c e) = true) : CF st q c (Lu c e) := by
 unfold Lu at *
 split
 ·exact .nl
 ·exact .rfl _ (by simpa using h)
theorem LF.same {st : St} {q : Nat → Bool} : ∀ {l : List CV}, tP q l = true → LF st q l l
 | [], _ => .nil
 | c :: l, h => by
  simp only [tP, Bool.and_eq_true] at h
  exact .cons (.rfl _ h.1) (LF.same h.2)
theorem H1 {st : St} {q : Nat → Bool} : ∀ {l m : List CV}, tP q (GQ l m) = true → LF st q l (GQ l m)
 | c :: l, e :: m, h => by
  simp only [GQ, tP, Bool.and_eq_true] at h
  exact .cons (HP h.1) (H1 h.2)
 | [], _, _ => by simp only [GQ]; exact .nil
 | c :: l, [], h => by simp only [GQ] at h ⊢; exact LF.same h
theorem AF.same {st : St} {q : Nat → Bool} : ∀ {a : AV}, cL q a = true → AF st q a a
 | .j, _ => .j _
 | .one c, h => .one (.rfl _ h)
 | .ag l, h => .ag (LF.same h)
 | .tp [], _ => .tp0
 | .tp (a :: l), h => by
  simp only [cL, cL.go, Bool.and_eq_true] at h
  exact .tpc (AF.same h.1) (AF.same (a := .tp l) (by simpa [cL] using h.2))
theorem FC {st : St} {q : Nat → Bool} {a e : AV} (h : cL q (CA a e) = true) : AF st q a (CA a e) := by
 unfold CA at *
 split
 ·exact .one (HP (by simpa [cL] using h))
 ·exact .ag (H1 (by simpa [cL] using h))
 ·exact AF.same (by simpa using h)
theorem Fd {st : St} {q : Nat → Bool} : ∀ {l m : List AV}, cL.go q (En l m) = true → AF st q (.tp l) (.tp (En l m))
 | c :: l, e :: m, h => by
  simp only [En, cL.go, Bool.and_eq_true] at h
  exact .tpc (FC h.1) (Fd h.2)
 | [], _, _ => by simp only [En]; exact .tp0
 | c :: l, [], h => by simp only [En] at h ⊢; exact AF.same (a := .tp (c :: l)) (by simpa [cL] using h)
theorem G1 {st : St} {q : Nat → Bool} {a e : AV} (h : cL q (Js a e) = true) : AF st q a (Js a e) := by
 unfold Js at *
 split
 ·exact Fd (by simpa [cL] using h)
 ·exact FC (by simpa using h)
def Ns (P : Program) (fn : Func) (s : SS) (e : AV) : Option AV := match mU P s.fr s.st fn.results.toList [] with
 | some (avs, []) => bif cL (fun _ => false) (Js (qp avs) e) then some (Js (qp avs) e) else none
 | _ => none
theorem KW {fn : Func} {e : Exit} {R : AV} (he : e = .normal ∨ e = .ret) (h : Ns P fn s R = some R) : yj P fn R e s.fr s.st := by
 unfold Ns at h
 split at h
 ·rename_i avs hr
  cases hi : cL (fun _ => false) (Js (qp avs) R) with
  | false => simp [hi] at h
  | true =>
   simp only [hi, cond_true, Option.some.injEq] at h
   have := G1 (st := s.st) hi
   rw [h] at this
   exact ⟨he, [], avs, [], hr, trivial, this⟩
 ·cases h
def Hz (P : Program) (fn : Func) {β : Type} (rv : β → AV) (r : β) : QT := yj P fn (rv r)
theorem xF {fn : Func} {rv : β → AV} {v : β} (he : Ns P fn s (rv v) = some (rv v) := by kernel_rfl) : RE P n n0 loose an r .ret (Hz P fn rv r) (some v) s := by
 refine ⟨fun h => ?_⟩
 simp only [Option.some.injEq] at h
 subst h
 show yj P fn (rv v) _ _ _
 exact KW (.inr rfl) he
def LI (args : List AV) : Fr := fF (kg args 0) id
theorem dx {f : Nat} {args : List AV} {rv : β → AV} (n : Nat) (an : List Nat) (fn : Func) (g : ∀ r, GG P n 0 [] an r (Hz P fn rv r) T ⟨[.c (cd fn [])], LI args, [], []⟩)
  (hf : P.funcs[f]? = some fn := by kernel_rfl) (hb : fn.body = some (cd fn []) := by kernel_rfl) (hn : fn.ntmps = n := by kernel_rfl) (hl : Nat.ble args.length n = true := by rfl) : CT P f args T rv := by
 intro r hT
 refine PC.of hf hb hn (Nat.le_of_ble_eq_true hl) ?_
 have := g r hT
 unfold LI at this
 rw [vT] at this
 refine XW.mono (show XW P n 0 [] (cd fn []) (QK P n 0 [] [] (Hz P fn rv r)) (kg args 0) [] from ?_) (fun e f s h => h)
 have e : kj (XW P n 0 [] (cd fn []) (Hz P fn rv r)) (Hz P fn rv r) .normal (kg args 0) [] := this
 exact e
theorem Ds {f : Nat} {args : List AV} {rv : β → AV} (e : T = none) : CT P f args T rv := fun r h => jL e h
def Od (P : Program) (m : Nat) (s : SS) : Bool := match s.ks with
 | .c (.region _ ops true) :: _ => (ri ops && xP ops m) && P.follows .mixedOrders
 | _ => false
def Ow (m : Nat) (s : SS) : SS := match s with
 | ⟨.c (.region _ ops true) :: k, fr, st, kn⟩ => ⟨.d ops (ops.toList.take m) :: .o ops (ops.toList.drop m) :: k, fr, st, kn⟩
 | s => s
theorem nZ (m : Nat) (k : GG P n n0 loose an r Q T (Ow m (run P n an s))) (he : Od P m (run P n an s) = true := by kernel_rfl) : GG P n n0 loose an r Q T s := by
 refine ⟨fun hT => ?_⟩
 have k := k hT
 refine cq (an := an) ?_
 generalize run P n an s = s' at *
 obtain ⟨ks, fr, st, kn⟩ := s'
 unfold Od at he
 split at he
 ·rename_i id ops k0 hk
  simp only at hk
  subst hk
  obtain ⟨fr', h1, h2⟩ := k
  exact XW.drwS (c := .region id ops true) m fr' rfl he h1 h2
 ·cases he
def NS (P : Program) (n0 : Nat) (loose : List Nat) (m K : Nat) (X : List Nat) (s : SS) : Bool := match s.ks with
 | .c (.region _ ops true) :: _ => ((ri ops && xP ops m) && P.follows .mixedOrders) && (dc (fun i => !aP X i) s.st && BZ n0 loose X)
 | _ => false
def N1 (m K : Nat) (X : List Nat) (s : SS) : SS := match s with
 | ⟨.c (.region _ ops true) :: k, fr, st, kn⟩ => fS (st ++ List.replicate K .dead) fun st => ⟨.g X ops (ops.toList.take m) [] :: .o ops (ops.toList.drop m) :: k, fr, st, kn⟩
 | s => s
theorem AU {q : Nat → Bool} : ∀ {a b : St}, dc q a = true → dc q b = true → dc q (a ++ b) = true
 | [], b, _, h => h
 | x :: a, b, h, h2 => by
  simp only [List.cons_append, dc, Bool.and_eq_true] at h ⊢
  exact ⟨h.1, AU h.2 h2⟩
theorem yF {q : Nat → Bool} : ∀ K : Nat, dc q (List.replicate K .dead) = true
 | 0 => rfl
 | K + 1 => by rw [List.replicate_succ]; simp only [dc, Bool.and_eq_true]; exact ⟨rfl, yF K⟩
theorem FA (m K : Nat) (X : List Nat) (k : GG P n n0 loose an r Q T (N1 m K X (run P n an s))) (he : NS P n0 loose m K X (run P n an s) = true := by kernel_rfl) : GG P n n0 loose an r Q T s := by
 refine ⟨fun hT => ?_⟩
 have k := k hT
 refine cq (an := an) ?_
 generalize run P n an s = s' at *
 obtain ⟨ks, fr, st, kn⟩ := s'
 unfold NS at he
 split at he
 ·rename_i id ops k0 hk
  simp only at hk
  subst hk
  simp only [N1, pd] at k
  obtain ⟨fr2, st2, tw2, h1, h2, h3⟩ := k
  simp only [Bool.and_eq_true] at he
  obtain ⟨he, he1, he2⟩ := he
  rw [List.nil_append] at h2
  unfold Hp at h2
  rw [Bool.and_eq_true] at h2
  have h4 : dc (fun i => !aP X i) (st ++ List.replicate K .dead) = true := AU he1 (yF K)
  exact XW.sub (nC.dead K) (XW.drwG (c := .region id ops true) m X tw2 fr2 st2 rfl (by simp only [Bool.and_eq_true]; exact ⟨he, ⟨h2, h4⟩, he2⟩) h1 h3)
 ·cases he
end
end Go.SX
namespace Go.SX
open Go
section
variable {P : Program} {n n0 : Nat} {loose an : List Nat} {Q Q1 : QT} {α β : Type} {T x y : Option β} {r : β} {s : SS} {fr : Fr} {st : St} {ops : Array Oper} {l : List Oper}
def LG (b : Bool) (a : AV) : AV := match b with
 | true => LD a
 | false => a
theorem KH (b : Bool) (l : List AV) : xl l (l.map (LG b)) := by
 cases b with
 | true => exact Da l
 | false => rw [show l.map (LG false) = l from List.map_id l]; exact xl.refl l
theorem rJ.soft {ι : IM} {w : World} {vs : List Value} {asv : List AV} (b : Bool) (h : rJ ι w st vs asv) : rJ ι w st vs (asv.map (LG b)) := by
 obtain ⟨e1, e2⟩ := (KH b asv).get
 refine ⟨h.1.trans e1, fun j v a h1 h2 => ?_⟩
 have hlt : j < asv.length := by rw [e1]; exact (List.getElem?_eq_some_iff.1 h2).1
 exact (h.2 j v _ h1 (List.getElem?_eq_getElem hlt)).le (e2 j _ a (List.getElem?_eq_getElem hlt) h2)
def CM (P : Program) (f : Nat) (args : List AV) (sc : St) {β : Type} (T : Option β) (rv : β → AV) (nb : β → St) : Prop := ∀ r, T = some r → MC P f args sc (rv r) (nb r)
def wg (P : Program) (fn : Func) (k : Nat) {β : Type} (rv : β → AV) (nb : β → St) (r : β) : QT := BQ P fn (rv r) k (nb r)
def MY (st : St) : St := fS st id
theorem yg {f : Nat} {args : List AV} {sc : St} {rv : β → AV} {nb : β → St} (k n : Nat) (an : List Nat) (fn : Func) (g : ∀ r, GG P n k [] an r (wg P fn k rv nb r) T ⟨[.c (cd fn [])], LI args, MY sc, []⟩)
  (hf : P.funcs[f]? = some fn := by kernel_rfl) (hb : fn.body = some (cd fn []) := by kernel_rfl) (hn : fn.ntmps = n := by kernel_rfl) (hl : Nat.ble args.length n = true := by rfl) (hk : sc.length = k := by rfl) : CM P f args sc T rv nb := by
 intro r hT
 refine MC.of k hf hb hn (Nat.le_of_ble_eq_true hl) hk ?_
 have := g r hT
 unfold LI MY at this
 rw [vT, pd] at this
 refine XW.mono (show XW P n k [] (cd fn []) (QK P n k [] [] (wg P fn k rv nb r)) (kg args 0) sc from ?_) (fun e f s h => h)
 have e : kj (XW P n k [] (cd fn []) (wg P fn k rv nb r)) (wg P fn k rv nb r) .normal (kg args 0) sc := this
 exact e
theorem J6 {f : Nat} {args : List AV} {sc : St} {rv : β → AV} {nb : β → St} (e : T = none) : CM P f args sc T rv nb := fun r h => jL e h
def NQ (P : Program) (fn : Func) (k : Nat) (s : SS) (e : AV) : Option (AV × St) := match mU P s.fr s.st fn.results.toList [] with
 | some (avs, []) => bif cL (fun id => Nat.ble (id + 1) k) (Js (qp avs) e) && dc (fun id => Nat.ble (id + 1) k) (s.st.take k) then some (Js (qp avs) e, s.st.take k) else none
 | _ => none
theorem I7 {fn : Func} {k : Nat} {e : Exit} {R : AV} {sc : St} (he : e = .normal ∨ e = .ret) (h : NQ P fn k s R = some (R, sc)) : BQ P fn R k sc e s.fr s.st := by
 unfold NQ at h
 split at h
 ·rename_i avs hr
  cases hi : cL (fun id => Nat.ble (id + 1) k) (Js (qp avs) R) with
  | false => simp [hi] at h
  | true =>
   cases hs : dc (fun id => Nat.ble (id + 1) k) (s.st.take k) with
   | false => simp [hs] at h
   | true =>
    simp only [hi, hs, Bool.and_self, cond_true, Option.some.injEq, Prod.mk.injEq] at h
    have := G1 (st := s.st) hi
    rw [h.1] at this
    exact ⟨he, [], avs, [], hr, trivial, h.2, by rw [← h.2]; exact hs, this⟩
 ·cases h
theorem qL {fn : Func} {k : Nat} {rv : β → AV} {nb : β → St} {v : β} (he : NQ P fn k s (rv v) = some (rv v, nb v) := by kernel_rfl) : RE P n n0 loose an r .ret (wg P fn k rv nb r) (some v) s := by
 refine ⟨fun h => ?_⟩
 simp only [Option.some.injEq] at h
 subst h
 exact I7 (.inr rfl) he
def cQ (b : Bool) (P : Program) (n : Nat) (s : SS) : Option (Nat × List AV) := match s.ks with
 | .o ops l :: _ => (match lm P n ops l s.fr with
  | some (g, avs) => some (g, avs.map (LG b))
  | none => none)
 | _ => none
def Lh (n : Nat) (av : AV) (st' : St) (s : SS) : SS := match s with
 | ⟨.o ops (o :: l) :: k, fr, _, kn⟩ => fA av fun av => fS st' fun st' => td n o.dst av fr (fun fr' => uI false o.dst kn fun kn' => ⟨.o ops l :: k, fr', st', kn'⟩) s
 | s => s
theorem B5 {av : AV} {st' : St} {o : Oper} {k : List It} {kn : List Nat} : (∃ fr' kn', qN n o.dst av fr = some fr' ∧ Lh n av st' ⟨.o ops (o :: l) :: k, fr, st, kn⟩ = ⟨.o ops l :: k, fr', st', kn'⟩) ∨ Lh n av st' ⟨.o ops (o :: l) :: k, fr, st, kn⟩ = ⟨.o ops (o :: l) :: k, fr, st, kn⟩ := by
 simp only [Lh, rT, pd]
 rcases ko (n := n) o.dst av fr (fun fr' => uI false o.dst kn fun kn' => (⟨.o ops l :: k, fr', st', kn'⟩ : SS)) ⟨.o ops (o :: l) :: k, fr, st, kn⟩ with ⟨fr', hp, e⟩ | e
 ·obtain ⟨kn', ek⟩ := lQ false o.dst kn fun kn' => (⟨.o ops l :: k, fr', st', kn'⟩ : SS)
  exact .inl ⟨fr', kn', hp, by rw [e, ek]⟩
 ·exact .inr e
theorem XO.calmS (g : Nat) (avs avs0 : List AV) (sc sc' : St) (r : AV) (rs : List Nat) (fr' : Fr) (st' : St) (hc : lm P n ops l fr = some (g, avs0)) (b : Bool) (hs : avs0.map (LG b) = avs.map (om (gc rs st.length))) (h : MC P g avs sc r sc') (hb : xT st.length rs sc sc' avs = true)
  (hst : rs.map (fun x => st[x]?) = sc.map (fun o => some (lp (gc rs st.length) o))) (hst' : cU st rs (sc'.map (lp (gc rs st.length))) = st') (hput : se n l (om (gc rs st.length) r) fr = some fr')
  (hk : XO P n n0 loose ops (l.drop 1) Q fr' st') : XO P n n0 loose ops l Q fr st := by
 cases l with
 | nil => simp [lm] at hc
 | cons o rest =>
  simp only [lm] at hc
  split at hc
  ·rename_i hg
   intro ι w a hR hF
   obtain ⟨vs, hrun, hA⟩ := m8 hc hF
   have hA := hA.soft b
   rw [hs] at hA
   have hw := cr hg hF
   refine wpList_step fun K hK => ?_
   rw [if_pos hw]
   simp only [Oper.wp, hrun, Oper.upon]
   refine (h.use' rs (wX hb) hst hR hA).mono ?_
   rintro e w' ⟨v, ι', rfl, hR', hv, k⟩
   rw [hst'] at hR' hv k
   exact hK _ _ (dG (fun e a w h => h.trans (k.weaken (fun _ _ => trivial))) (hk ι' w' _ hR' (je hput (hF.mono' k) hv)))
  ·simp at hc
theorem Dc (b : Bool) (rs : List Nat) {o : Option α} {f : α → Option β} {g : Nat} {avs : List AV} {sc : St} {rv : α → AV} {nb : α → St} (c : CM P g avs sc o rv nb)
  (k : ∀ v, o = some v → GG P n n0 loose an r Q (f v) (Lh n (om (gc rs (run P n an s).st.length) (rv v)) (cU (run P n an s).st rs ((nb v).map (lp (gc rs (run P n an s).st.length)))) (run P n an s)))
  (h1 : cQ b P n (run P n an s) = some (g, avs.map (om (gc rs (run P n an s).st.length))) := by kernel_rfl) (h2 : ∀ v, xT (run P n an s).st.length rs sc (nb v) avs = true := by intro v; kernel_rfl)
  (h3 : rs.map (fun x => (run P n an s).st[x]?) = sc.map (fun o => some (lp (gc rs (run P n an s).st.length) o)) := by kernel_rfl) : GG P n n0 loose an r Q (aD o f) s := by
 refine ⟨fun h => ?_⟩
 obtain ⟨v, ho, h⟩ := nW h
 refine cq (an := an) ?_
 have k := k v ho h
 have h2 := h2 v
 generalize run P n an s = s' at *
 obtain ⟨ks, fr, st, kn⟩ := s'
 unfold cQ at h1
 split at h1
 ·rename_i ops l k' hk
  simp only at hk
  subst hk
  split at h1
  ·rename_i g' avs' hc
   simp only [Option.some.injEq, Prod.mk.injEq] at h1
   obtain ⟨rfl, h1⟩ := h1
   cases l with
   | nil => simp [lm] at hc
   | cons o' l =>
    rcases B5 (n := n) (av := om (gc rs st.length) (rv v)) (st' := cU st rs ((nb v).map (lp (gc rs st.length)))) (o := o') (ops := ops) (l := l) (fr := fr) (st := st) (k := k') (kn := kn) with ⟨fr', kn', hp, e⟩ | e
    ·rw [e] at k
     exact XO.calmS _ _ _ _ _ _ _ fr' _ hc b h1 (c v ho) h2 h3 rfl hp k
    ·rw [e] at k; exact k
  ·cases h1
 ·cases h1
def Oc (P : Program) (s : SS) : Option ByteArray := match s.ks with
 | .o ops l :: _ => C5 P ops l s.fr
 | _ => none
theorem Nf (t : ByteArray) (k : GG P n n0 loose an r Q T (Lh n (.one (.pt (run P n an s).st.length 0 0 0)) ((run P n an s).st ++ [.raw (.stringIter t 0)]) (run P n an s))) (he : Oc P (run P n an s) = some t := by kernel_rfl) : GG P n n0 loose an r Q T s := by
 refine ⟨fun h => cq (an := an) ?_⟩
 have k := k h
 generalize run P n an s = s' at *
 obtain ⟨ks, fr, st, kn⟩ := s'
 unfold Oc at he
 split at he
 ·rename_i ops l k' hk
  simp only at hk
  subst hk
  cases l with
  | nil => simp [C5] at he
  | cons o' l =>
   rcases B5 (n := n) (av := .one (.pt st.length 0 0 0)) (st' := st ++ [.raw (.stringIter t 0)]) (o := o') (ops := ops) (l := l) (fr := fr) (st := st) (k := k') (kn := kn) with ⟨fr', kn', hp, e⟩ | e
   ·rw [e] at k
    exact XO.rng t fr' _ he hp rfl k
   ·rw [e] at k; exact k
 ·cases he
def Nl (s : SS) : Option Nat := match s.ks with
 | .o ops l :: _ => vO ops l s.fr
 | _ => none
theorem Nw (id : Nat) {t : ByteArray} {pos : Nat}
  (k1 : decide (pos < t.size) = true → GG P n n0 loose an r Q x (Lh n (.tp [.one (.pv (.s (.bool true))), .one (.pv (.s (.int .i64 (Int.ofNat pos)))), .one (.pv (.s (.int .i32 (Int.ofNat (Utf8.decode t pos).1))))]) ((run P n an s).st.set id (.raw (.stringIter t (pos + (Utf8.decode t pos).2)))) (run P n an s)))
  (k2 : decide (pos < t.size) = false → GG P n n0 loose an r Q y (Lh n (.tp [.one (.pv (.s (.bool false)))]) (run P n an s).st (run P n an s)))
  (he : Nl (run P n an s) = some id := by kernel_rfl) (ho : (run P n an s).st[id]? = some (.raw (.stringIter t pos)) := by kernel_rfl) : GG P n n0 loose an r Q (aA (decide (pos < t.size)) x y) s := by
 refine ⟨fun h => cq (an := an) ?_⟩
 cases hp0 : decide (pos < t.size) with
 | true =>
  rw [hp0] at h
  have k := k1 hp0 h
  generalize run P n an s = s' at *
  obtain ⟨ks, fr, st, kn⟩ := s'
  unfold Nl at he
  split at he
  ·rename_i ops l k' hk
   simp only at hk
   subst hk
   cases l with
   | nil => simp [vO] at he
   | cons o' l =>
    rcases B5 (n := n) (av := .tp [.one (.pv (.s (.bool true))), .one (.pv (.s (.int .i64 (Int.ofNat pos)))), .one (.pv (.s (.int .i32 (Int.ofNat (Utf8.decode t pos).1))))]) (st' := st.set id (.raw (.stringIter t (pos + (Utf8.decode t pos).2)))) (o := o') (ops := ops) (l := l) (fr := fr) (st := st) (k := k') (kn := kn) with ⟨fr', kn', hp, e⟩ | e
    ·rw [e] at k
     exact XO.nxt id t pos fr' _ he ho hp rfl hp0 k
    ·rw [e] at k; exact k
  ·cases he
 | false =>
  rw [hp0] at h
  have k := k2 hp0 h
  generalize run P n an s = s' at *
  obtain ⟨ks, fr, st, kn⟩ := s'
  unfold Nl at he
  split at he
  ·rename_i ops l k' hk
   simp only at hk
   subst hk
   cases l with
   | nil => simp [vO] at he
   | cons o' l =>
    rcases B5 (n := n) (av := .tp [.one (.pv (.s (.bool false)))]) (st' := st) (o := o') (ops := ops) (l := l) (fr := fr) (st := st) (k := k') (kn := kn) with ⟨fr', kn', hp, e⟩ | e
    ·rw [e] at k
     exact XO.nxtE id t pos fr' he ho hp hp0 k
    ·rw [e] at k; exact k
  ·cases he
end
end Go.SX
namespace Go.SX
open Go
section
variable {P : Program} {n n0 : Nat} {loose an : List Nat} {Q Q1 : QT} {α β : Type} {T x y : Option β} {r : β} {s : SS} {fr : Fr} {st : St} {ops : Array Oper} {l : List Oper}
inductive BF (st : St) (q : Nat → Bool) : bF → bF → Prop where
 | same (o : bF) (h : iR q o = true) : BF st q o o
 | box {cells cells' : List CV} (h : LF st q cells cells') : BF st q (.box cells) (.box cells')
structure B8 (q : Nat → Bool) (st st' : St) : Prop where
 old : ∀ (id : Nat) o', st'[id]? = some o' → o' = .dead ∨ (q id = true ∧ ∃ o, st[id]? = some o ∧ BF st q o o')
 keep : ∀ id, q id = true → id < st.length → id < st'.length
theorem BF.alive {q : Nat → Bool} {o o' : bF} (h : BF st q o o') (ha : o'.alive) : o.alive := by
 cases h with
 | same => exact ha
 | box => simp [bF.alive]
theorem B8.own {q : Nat → Bool} {st' : St} (h : B8 q st st') {ι : IM} {b : Nat} (ho : qj ι st' b) : ∃ id o, q id = true ∧ st[id]? = some o ∧ o.alive ∧ ι id = some b := by
 obtain ⟨id, o, h1, h2, h3⟩ := ho
 rcases h.old id o h1 with rfl | ⟨h4, o0, h5, h6⟩
 ·exact absurd rfl h2
 ·exact ⟨id, o0, h4, h5, h6.alive h2, h3⟩
theorem B8.keeps {q : Nat → Bool} {st' : St} (h : B8 q st st') {ι : IM} {w : World} : bp (fun id => q id = true) ι w st ι w st' :=
 ⟨rfl, rfl, rfl, Nat.le_refl _, rfl, fun b _ hm => ⟨rfl, fun ho => by
  obtain ⟨id, o, _, h2, h3, h4⟩ := h.own ho
  exact hm ⟨id, o, h2, h3, h4⟩⟩, fun id hq hid => ⟨h.keep id hq hid, rfl⟩, fun _ c _ _ h => ⟨c, h, rfl⟩⟩
theorem cy.fzF {q : Nat → Bool} {st' : St} {ι : IM} {w : World} (r : eQ ι w st) (hs : B8 q st st') {v : Value} {c c' : CV} (h : cy ι w st v c) (hf : CF st q c c') : cy ι w st' v c' := by
 have k := hs.keeps (ι := ι) (w := w)
 cases hf with
 | rfl _ hc => exact h.mono k (q := q) (fun _ h _ => h) hc
 | nl =>
  have := bq (aL.one _ _ h)
  subst this
  exact .pv _ _ .nl
 | @sl id sz off len els els' ho hq hl he =>
  subst he
  have hlen : ((els.drop off).take len).length = len := by simp; omega
  cases h with
  | sn _ _ hid hb =>
   have : (els.drop 0).take 0 = [] := by simp
   rw [this]
   exact .pv _ _ .nl
  | sl _ _ _ _ b cap hid hb hcap hc =>
   rcases r.obj id _ ho with ⟨e1, _⟩ | ⟨b', c, ty, e1, e2, hcs, hsz, hcell⟩
   ·rw [hb] at e1; cases e1
   ·rw [hb] at e1; cases e1
    have hown : qj ι st b := ⟨id, _, ho, by simp [bF.alive], hb⟩
    have := fk.ro (μ := jx ι st') (w := w) ⟨b, off * sz, none⟩ cap sz ((els.drop off).take len) (fun i j => c.getD ((off + i) * sz + j) undef) (by rw [hlen]; exact hcap)
     (fun e he => hsz e (List.mem_of_mem_drop (List.mem_of_mem_take he)))
     (fun _ => ⟨cR e2, fun hm => by
      rcases hm with hm | hm
      ·exact r.dis b hown hm
      ·obtain ⟨id', o', hq', h5, h6, h7⟩ := hs.own hm
       have := r.inj id id' _ o' b ho h5 (by simp [bF.alive]) h6 hb h7
       subst this
       rw [hq] at hq'; cases hq'⟩)
     (fun i e j p h1 h2 => by
      rw [List.getElem?_take] at h1
      split at h1
      ·rw [List.getElem?_drop] at h1
       obtain ⟨u, a1, a2⟩ := hcell _ e j p h1 h2
       rw [add_lit, nU e2]
       rw [show off * sz + (i * sz + j) = (off + i) * sz + j by rw [Nat.add_mul]; omega, a1]
       simp [a1]
      ·cases h1)
     (fun i e j p h1 h2 => by
      rw [List.getElem?_take] at h1
      split at h1
      ·rw [List.getElem?_drop] at h1
       obtain ⟨u, a1, a2⟩ := hcell _ e j p h1 h2
       have : c.getD ((off + i) * sz + j) undef = u := by simp [a1]
       rw [this]
       exact k.pure a2
      ·cases h1)
    rw [hlen] at this
    exact .pv _ _ this
theorem dz.fzF {q : Nat → Bool} {st' : St} {ι : IM} {w : World} (r : eQ ι w st) (hs : B8 q st st') {cs cs' : List CV} (hf : LF st q cs cs') : ∀ {vs : List Value}, dz ι w st vs cs → dz ι w st' vs cs' := by
 induction hf with
 | nil => exact fun h => ⟨h.1, fun j v c h1 h2 => by simp at h2⟩
 | @cons c c' l l' hc hk ih =>
  intro vs hL
  match vs, hL with
  | [], hL => have := hL.1; simp at this
  | u :: us, hL =>
   have h0 := hL.2 0 u c rfl rfl
   have ht := ih (vs := us) ⟨by have := hL.1; simpa using this, fun j v c h1 h2 => hL.2 (j + 1) v c (by simpa using h1) (by simpa using h2)⟩
   refine ⟨by simp [ht.1], fun j v c h1 h2 => ?_⟩
   cases j with
   | zero => simp at h1 h2; subst h1; subst h2; exact h0.fzF r hs hc
   | succ j => exact ht.2 j v c (by simpa using h1) (by simpa using h2)
theorem aL.fzF {q : Nat → Bool} {st' : St} {ι : IM} {w : World} (r : eQ ι w st) (hs : B8 q st st') {v : Value} {a a' : AV} (h : aL ι w st v a) (hf : AF st q a a') : aL ι w st' v a' := by
 induction hf generalizing v with
 | j a => exact .j _
 | one hc => exact .one _ _ ((ky h).fzF r hs hc)
 | @ag cs cs' hl =>
  obtain ⟨vs, rfl, hL⟩ := Dh h
  exact .ag _ _ (hL.fzF r hs hl)
 | tp0 =>
  cases h with
  | tp vs _ hl h => exact .tp _ _ hl (fun j v a h1 h2 => by simp at h2)
 | @tpc a a' l l' ha hk ih1 ih2 =>
  cases h with
  | tp vs _ hl h =>
   match vs, hl with
   | [], hl => simp at hl
   | u :: us, hl =>
    have h0 := ih1 (h 0 u a rfl rfl)
    have ht := ih2 (.tp us l (by simpa using hl) (fun j v c h1 h2 => h (j + 1) v c (by simpa using h1) (by simpa using h2)))
    generalize hx : Value.tuple us.toArray = xv at ht
    generalize hy : AV.tp l' = ya at ht
    cases ht with
    | tp vs2 as2 hl2 h2 =>
     cases hy
     have : us = vs2 := by
      have := congrArg (fun v : Value => match v with | .tuple a => a.toList | _ => []) hx
      simpa using this
     subst this
     refine .tp _ _ (by simp [hl2]) (fun j v c h1 h3 => ?_)
     cases j with
     | zero => simp at h1 h3; subst h1; subst h3; exact h0
     | succ j => exact h2 j v c (by simpa using h1) (by simpa using h3)
    | _ => cases hy
theorem eQ.frz {q : Nat → Bool} {st' : St} {ι : IM} {w : World} (r : eQ ι w st) (h : B8 q st st') : eQ ι w st' := by
 have k := h.keeps (ι := ι) (w := w)
 refine ⟨fun id o ho => ?_, r.amb, fun b ho => ?_, fun id id' o o' b h1 h2 a1 a2 e1 e2 => ?_, r.glk k⟩
 ·rcases h.old id o ho with rfl | ⟨hq, o0, ho', hbf⟩
  ·trivial
  ·have := r.obj id o0 ho'
   cases hbf with
   | box hl =>
    obtain ⟨b', vs, ty, e', hb', hL⟩ := this
    exact ⟨b', vs, ty, e', hb', hL.fzF r h hl⟩
   | same _ hb =>
    cases o with
    | dead => trivial
    | box cells =>
     obtain ⟨b', vs, ty, e', hb', hl⟩ := this
     exact ⟨b', vs, ty, e', hb', hl.mono k (q := q) (fun _ h _ => h) hb⟩
    | rel Rm ps =>
     obtain ⟨b', ob, vs0, e', hb', hr0, hl0⟩ := this
     exact ⟨b', ob, vs0, e', hb', hr0, hl0.map fun _ _ h0 => k.pure h0⟩
    | arr sz els =>
     rcases this with ⟨e', he⟩ | ⟨b', c, ty, e', hb', h1, h2, h3⟩
     ·exact .inl ⟨e', he⟩
     ·refine .inr ⟨b', c, ty, e', hb', h1, h2, fun i e' j cv a1 a2 => ?_⟩
      obtain ⟨v, hv, hr⟩ := h3 i e' j cv a1 a2
      exact ⟨v, hv, k.pure hr⟩
 ·obtain ⟨id, o, _, h2, h3, h4⟩ := h.own ho
  exact r.dis b ⟨id, o, h2, h3, h4⟩
 ·rcases h.old id o h1 with rfl | ⟨_, o0, h5, q1⟩
  ·exact absurd rfl a1
  rcases h.old id' o' h2 with rfl | ⟨_, o1, h6, q2⟩
  ·exact absurd rfl a2
  exact r.inj id id' o0 o1 b h5 h6 (q1.alive a1) (q2.alive a2) e1 e2
theorem nC.frz {q : Nat → Bool} {fr' : Fr} {st' : St} (h : B8 q st st') (hf : ∀ t, AF st q (lk fr t) (lk fr' t)) (hq : ∀ id, ou n0 loose id = true → q id = true) : nC n n0 loose fr st fr' st' :=
 fun ι w a hR hF => ⟨ι, hR.frz h, ⟨hF.defers, hF.size, fun t => (hF.slot t).fzF hR h (hf t)⟩, h.keeps.weaken hq⟩
def LN (id : Nat) (els : List (List PV)) : CV → CV
 | .sl i sz off len => bif Nat.beq i id then .pv (.ro els) else .sl i sz off len
 | c => c
def MW (id : Nat) (els : List (List PV)) : List CV → List CV
 | [] => []
 | c :: l => LN id els c :: MW id els l
def N6 (id : Nat) (els : List (List PV)) : AV → AV
 | .one c => .one (LN id els c)
 | .ag l => .ag (MW id els l)
 | a => a
def M2 (id : Nat) : CV → List (Nat × Nat × Nat)
 | .sl i sz off len => bif Nat.beq i id then [(sz, off, len)] else []
 | _ => []
def LC (id : Nat) : List CV → List (Nat × Nat × Nat)
 | [] => []
 | c :: l => M2 id c ++ LC id l
def Of (id : Nat) : AV → List (Nat × Nat × Nat)
 | .one c => M2 id c
 | .ag l => LC id l
 | _ => []
def Ob (id : Nat) (els : List (List PV)) : bF → bF
 | .box l => .box (MW id els l)
 | b => b
def N8 (id : Nat) : bF → List (Nat × Nat × Nat)
 | .box l => LC id l
 | _ => []
def DK (id : Nat) (els : List (List PV)) : Nat → St → St
 | _, [] => []
 | i, b :: l => (bif Nat.beq i id then .dead else Ob id els b) :: DK id els (i + 1) l
def Iw (id : Nat) : St → List (Nat × Nat × Nat)
 | [] => []
 | b :: l => N8 id b ++ Iw id l
def GR (id : Nat) : Nat → Bool := fun i => !Nat.beq i id
def NJ (id : Nat) (c : CV) : Bool := match c with
 | .sl .. => true
 | c => l8 (GR id) c
def LV (id : Nat) : List CV → Bool
 | [] => true
 | c :: l => NJ id c && LV id l
def Oh (id : Nat) : AV → Bool
 | .one c => NJ id c
 | .ag l => LV id l
 | a => cL (GR id) a
def N7 (id : Nat) : bF → Bool
 | .box l => LV id l
 | _ => true
theorem Fl {E : pD α} {xs : List α} {id : Nat} {L : List (Nat × Nat × Nat)} (h : ∀ p ∈ L, p = (E.sz, 0, xs.length)) {st : St} (hid : st[id]? = some (.arr E.sz (E.els xs))) {c : CV} (hc : ∀ p ∈ M2 id c, p ∈ L) (ho : NJ id c = true) : CF st (GR id) c (LN id (E.els xs) c) := by
 cases c with
 | sl i sz off len =>
  cases hb : Nat.beq i id with
  | true =>
   have := Nat.eq_of_beq_eq_true hb
   subst this
   have hp := h _ (hc (sz, off, len) (by simp [M2]))
   simp only [Prod.mk.injEq] at hp
   obtain ⟨rfl, rfl, rfl⟩ := hp
   simp only [LN, hb, cond_true]
   exact Mh E xs hid (by simp [GR]) rfl
  | false =>
   simp only [LN, hb, cond_false]
   exact .rfl _ (by simp [l8, GR, hb])
 | _ => exact .rfl _ ho
theorem Eb {E : pD α} {xs : List α} {id : Nat} {L : List (Nat × Nat × Nat)} (h : ∀ p ∈ L, p = (E.sz, 0, xs.length)) {st : St} (hid : st[id]? = some (.arr E.sz (E.els xs))) : ∀ {l : List CV}, (∀ p ∈ LC id l, p ∈ L) → LV id l = true → LF st (GR id) l (MW id (E.els xs) l)
 | [], _, _ => .nil
 | c :: l, hc, ho => by
  simp only [LV, Bool.and_eq_true] at ho
  exact .cons (Fl h hid (fun p hp => hc p (by simp [LC, hp])) ho.1) (Eb h hid (fun p hp => hc p (by simp [LC, hp])) ho.2)
theorem Kv {E : pD α} {xs : List α} {id : Nat} {L : List (Nat × Nat × Nat)} (h : ∀ p ∈ L, p = (E.sz, 0, xs.length)) {st : St} (hid : st[id]? = some (.arr E.sz (E.els xs))) {a : AV} (hc : ∀ p ∈ Of id a, p ∈ L) (ho : Oh id a = true) : AF st (GR id) a (N6 id (E.els xs) a) := by
 cases a with
 | one c => exact .one (Fl h hid hc ho)
 | ag l => exact .ag (Eb h hid hc ho)
 | _ => exact AF.same ho
theorem yE (id : Nat) (els : List (List PV)) : ∀ (st : St) (i j : Nat), (DK id els i st)[j]? = (st[j]?).map fun b => bif Nat.beq (i + j) id then bF.dead else Ob id els b
 | [], i, j => by simp [DK]
 | b :: l, i, 0 => by simp [DK]
 | b :: l, i, j + 1 => by simp only [DK, List.getElem?_cons_succ]; rw [yE id els l (i + 1) j, show i + 1 + j = i + (j + 1) by omega]
theorem Cw {id : Nat} : ∀ {st : St} {j : Nat} {b : bF}, st[j]? = some b → ∀ p ∈ N8 id b, p ∈ Iw id st
 | [], j, b, h, p, hp => by simp at h
 | x :: l, 0, b, h, p, hp => by simp at h; subst h; simp [Iw, hp]
 | x :: l, j + 1, b, h, p, hp => by simp only [Iw, List.mem_append]; exact .inr (Cw (by simpa using h) p hp)
def HT (id : Nat) (els : List (List PV)) (fr : Fr) : List Nat → Fr
 | [] => kp (GR id) fr
 | t :: ts => (t, N6 id els (lk fr t)) :: HT id els fr ts
def Ho (id : Nat) (fr : Fr) : List Nat → List (Nat × Nat × Nat)
 | [] => []
 | t :: ts => Of id (lk fr t) ++ Ho id fr ts
def Iv (id : Nat) (fr : Fr) : List Nat → Bool
 | [] => true
 | t :: ts => Oh id (lk fr t) && Iv id fr ts
theorem Fa {E : pD α} {xs : List α} {id : Nat} {L : List (Nat × Nat × Nat)} (h : ∀ p ∈ L, p = (E.sz, 0, xs.length)) {st : St} (hid : st[id]? = some (.arr E.sz (E.els xs))) : ∀ {ts : List Nat}, (∀ p ∈ Ho id fr ts, p ∈ L) → Iv id fr ts = true → ∀ t, AF st (GR id) (lk fr t) (lk (HT id (E.els xs) fr ts) t)
 | [], _, _, t => by
  simp only [HT]
  rw [sT]
  cases hi : cL (GR id) (lk fr t) with
  | false => exact .j _
  | true => exact AF.same hi
 | u :: ts, hc, ho, t => by
  simp only [Iv, Bool.and_eq_true] at ho
  simp only [HT, lk]
  cases hb : Nat.beq u t with
  | true =>
   have := Nat.eq_of_beq_eq_true hb
   subst this
   exact Kv h hid (fun p hp => hc p (by simp [Ho, hp])) ho.1
  | false => exact Fa h hid (fun p hp => hc p (by simp [Ho, hp])) ho.2 t
def E3 (n0 id : Nat) (ts : List Nat) (s : SS) : Option (Nat × List (List PV) × List (Nat × Nat × Nat)) :=
 match s.st[id]? with
 | some (.arr sz els) => bif Nat.ble n0 id && (Iv id s.fr ts && s.st.all (N7 id)) then some (sz, els, Ho id s.fr ts ++ Iw id s.st) else none
 | _ => none
def yN (id : Nat) (els : List (List PV)) (ts : List Nat) (s : SS) : SS := match s with
 | ⟨ks, fr, st, kn⟩ => fF (HT id els fr ts) fun fr => fS (DK id els 0 st) fun st => ⟨ks, fr, st, kn⟩
theorem If {E : pD α} {xs : List α} {id : Nat} {ts : List Nat} {L : List (Nat × Nat × Nat)} (he : E3 n0 id ts s = some (E.sz, E.els xs, L)) (hL : ∀ p ∈ L, p = (E.sz, 0, xs.length)) :
  nC n n0 loose s.fr s.st (yN id (E.els xs) ts s).fr (yN id (E.els xs) ts s).st := by
 unfold E3 at he
 split at he
 ·rename_i sz els hid
  cases hb : Nat.ble n0 id && (Iv id s.fr ts && s.st.all (N7 id)) with
  | false => simp [hb] at he
  | true =>
   simp only [hb, cond_true, Option.some.injEq, Prod.mk.injEq] at he
   obtain ⟨rfl, rfl, rfl⟩ := he
   simp only [Bool.and_eq_true] at hb
   obtain ⟨h1, h2, h3⟩ := hb
   obtain ⟨ks, fr, st, kn⟩ := s
   simp only [yN, vT, pd]
   simp only at hid h2 h3 hL
   refine nC.frz (q := GR id) ⟨fun i o' ho => ?_, fun i hq hi => ?_⟩ (Fa hL hid (fun p hp => by simp [hp]) h2) (fun i hi => ?_)
   ·rw [yE, Nat.zero_add, Option.map_eq_some_iff] at ho
    obtain ⟨b, hb, e⟩ := ho
    cases hbi : Nat.beq i id with
    | true => simp only [hbi, cond_true] at e; exact .inl e.symm
    | false =>
     simp only [hbi, cond_false] at e
     refine .inr ⟨by simp [GR, hbi], b, hb, ?_⟩
     subst e
     have hok := List.all_eq_true.1 h3 b (List.mem_of_getElem? hb)
     cases b with
     | box l => exact .box (Eb hL hid (fun p hp => by simp only [List.mem_append]; exact .inr (Cw hb p hp)) hok)
     | _ => exact .same _ rfl
   ·have : (DK id (E.els xs) 0 st)[i]? ≠ none := by
     rw [yE]
     simp [hi]
    simp only [ne_eq, List.getElem?_eq_none_iff] at this
    omega
   ·have h4 := Nat.le_of_ble_eq_true h1
    simp only [ou, Bool.and_eq_true] at hi
    have h5 := Nat.le_of_ble_eq_true hi.1
    have : i ≠ id := by omega
    simp only [GR, xk this, Bool.not_false]
 ·cases he
theorem HI {id : Nat} {els : List (List PV)} {ts : List Nat} : (yN id els ts s).ks = s.ks := by
 obtain ⟨ks, fr, st, kn⟩ := s
 simp only [yN, vT, pd]
def JB {γ : Type} (y : γ) (l : List γ) : List γ := l.map fun _ => y
theorem I0 {γ : Type} {y : γ} {l : List γ} (h : l = JB y l) : ∀ p ∈ l, p = y := by
 intro p hp
 rw [h] at hp
 simp only [JB, List.mem_map] at hp
 obtain ⟨_, _, e⟩ := hp
 exact e.symm
def Fh (n0 id : Nat) (ts : List Nat) (s : SS) : List (Nat × Nat × Nat) := match E3 n0 id ts s with
 | some (_, _, L) => L
 | none => []
theorem Ca (E : pD α) (xs : List α) (id : Nat) (ts : List Nat) (k : GG P n n0 loose an r Q T (yN id (E.els xs) ts (run P n an s))) (he : E3 n0 id ts (run P n an s) = some (E.sz, E.els xs, JB (E.sz, 0, xs.length) (Fh n0 id ts (run P n an s))) := by kernel_rfl)
  (ht : vG (run P n an s).ks = true := by kernel_rfl) : GG P n n0 loose an r Q T s := by
 refine ⟨fun h => cq (an := an) ?_⟩
 have hL := he
 have e : Fh n0 id ts (run P n an s) = JB (E.sz, 0, xs.length) (Fh n0 id ts (run P n an s)) := by
  conv => lhs; unfold Fh; rw [he]
 have hs := If (n := n) (loose := loose) he (by rw [← e]; exact I0 e)
 have k := k h
 refine QK.sub ht hs ?_
 have : XK P n n0 loose Q (yN id (E.els xs) ts (run P n an s)) := k
 unfold XK at this
 rw [HI] at this
 exact this
inductive Cv where
 | li (t sz : Nat)
 | sf (t : Nat)
 | lb (bx j sz : Nat)
 | sb (bx j : Nat)
 | stl (bx j : Nat)
 | sw (a b : Nat)
 | dd (k : Nat)
def Jk (n0 : Nat) (loose : List Nat) (c : Cv) (fr : Fr) (st : St) : Option (Fr × St) := match c with
 | .li t sz => (match lk fr t with
  | .one (.pv (.s (.slice none 0 0))) => some ((t, .one (.sl st.length sz 0 0)) :: fr, st ++ [.arr sz []])
  | _ => none)
 | .sf t => some ((t, LD (lk fr t)) :: fr, st)
 | .lb bx j sz => (match st[bx]? with
  | some (.box cells) => (match cells[j]? with
   | some (.pv (.s (.slice none 0 0))) => some (fr, (st ++ [bF.arr sz []]).set bx (.box (cells.set j (.sl st.length sz 0 0))))
   | _ => none)
  | _ => none)
 | .sb bx j => (match st[bx]? with
  | some (.box cells) => (match cells[j]? with
   | some (.pv (.s (.slice none 0 0))) => some (fr, st.set bx (.box (cells.set j (.pv (.ro [])))))
   | _ => none)
  | _ => none)
 | .stl bx j => (match st[bx]? with
  | some (.box cells) => (match cells[j]? with
   | some (.sl id sz off len) => some (fr, (st ++ [bF.dead]).set bx (.box (cells.set j (.sl st.length sz off len))))
   | _ => none)
  | _ => none)
 | .dd k => some (fr, st ++ List.replicate k .dead)
 | .sw a b => bif (Nat.ble (a + 1) st.length && Nat.ble (b + 1) st.length) && !(ou n0 loose a || ou n0 loose b) then some (Fs a b fr, ue a b st) else none
theorem HM {c : Cv} {fr' : Fr} {st' : St} (h : Jk n0 loose c fr st = some (fr', st')) : nC n n0 loose fr st fr' st' := by
 unfold Jk at h
 cases c with
 | li t sz =>
  simp only at h
  split at h
  ·rename_i hl
   simp only [Option.some.injEq, Prod.mk.injEq] at h
   obtain ⟨rfl, rfl⟩ := h
   exact nC.list hl
  ·cases h
 | sf t =>
  simp only [Option.some.injEq, Prod.mk.injEq] at h
  obtain ⟨rfl, rfl⟩ := h
  intro ι w a hR hF
  refine ⟨ι, hR, ⟨hF.defers, hF.size, fun t' => ?_⟩, .refl⟩
  simp only [lk]
  cases hb : Nat.beq t t' with
  | true =>
   have := Nat.eq_of_beq_eq_true hb
   subst this
   exact (hF.slot t).le (H5 _)
  | false => exact hF.slot t'
 | lb bx j sz =>
  simp only at h
  split at h
  ·rename_i cells hb
   split at h
   ·rename_i hj
    simp only [Option.some.injEq, Prod.mk.injEq] at h
    obtain ⟨rfl, rfl⟩ := h
    exact nC.listb bx j sz cells hb hj _ rfl
   ·cases h
  ·cases h
 | sb bx j =>
  simp only at h
  split at h
  ·rename_i cells hb
   split at h
   ·rename_i hj
    simp only [Option.some.injEq, Prod.mk.injEq] at h
    obtain ⟨rfl, rfl⟩ := h
    exact nC.softb bx j cells hb hj _ rfl
   ·cases h
  ·cases h
 | stl bx j =>
  simp only at h
  split at h
  ·rename_i cells hb
   split at h
   ·rename_i id sz off len hj
    simp only [Option.some.injEq, Prod.mk.injEq] at h
    obtain ⟨rfl, rfl⟩ := h
    exact nC.stale bx j id sz off len cells hb hj _ rfl
   ·cases h
  ·cases h
 | dd k =>
  simp only [Option.some.injEq, Prod.mk.injEq] at h
  obtain ⟨rfl, rfl⟩ := h
  exact nC.dead k
 | sw a b =>
  simp only at h
  cases hb : (Nat.ble (a + 1) st.length && Nat.ble (b + 1) st.length) && !(ou n0 loose a || ou n0 loose b) with
  | false => rw [hb] at h; cases h
  | true =>
   rw [hb] at h
   simp only [cond_true, Option.some.injEq, Prod.mk.injEq] at h
   obtain ⟨rfl, rfl⟩ := h
   simp only [Bool.and_eq_true, Bool.not_eq_true'] at hb
   exact nC.swap a b _ _ (by simp only [Bool.and_eq_true]; exact hb.1) hb.2 rfl rfl
def Mg (n0 : Nat) (loose : List Nat) (c : Cv) (s : SS) : SS := match s with
 | ⟨ks, fr, st, kn⟩ => match Jk n0 loose c fr st with
  | some (fr', st') => fF fr' fun fr' => fS st' fun st' => ⟨ks, fr', st', kn⟩
  | none => ⟨ks, fr, st, kn⟩
theorem Kp (c : Cv) (s : SS) : (Mg n0 loose c s).ks = s.ks ∧ nC n n0 loose s.fr s.st (Mg n0 loose c s).fr (Mg n0 loose c s).st := by
 obtain ⟨ks, fr, st, kn⟩ := s
 unfold Mg
 simp only
 cases hd : Jk n0 loose c fr st with
 | none => exact ⟨rfl, fun ι w a hR hF => ⟨ι, hR, hF, .refl⟩⟩
 | some p =>
  obtain ⟨fr', st'⟩ := p
  simp only [vT, pd]
  exact ⟨trivial, HM hd⟩
theorem B9 (c : Cv) (k : GG P n n0 loose an r Q T (Mg n0 loose c (run P n an s))) (ht : vG (run P n an s).ks = true := by kernel_rfl) : GG P n n0 loose an r Q T s := by
 refine ⟨fun h => cq (an := an) ?_⟩
 have k := k h
 obtain ⟨e, hs⟩ := Kp (n := n) (n0 := n0) (loose := loose) c (run P n an s)
 unfold XK at k
 rw [e] at k
 exact QK.sub ht hs k
end
end Go.SX
namespace Go.SX
open Go
section
variable {P : Program} {n n0 : Nat} {loose an : List Nat} {Q Q1 : QT} {α β : Type} {T x y : Option β} {r : β} {s : SS} {fr : Fr} {st : St} {ops : Array Oper} {l : List Oper}
def IW (X : List Nat) (ops : Array Oper) (o : Oper) (fr : Fr) (st : St) (mv : Option Nat) : List Nat × List Nat := match mv with
 | none => (n9 X (bE ops o fr), bE ops o fr ++ [])
 | some id => (match st[id]? with
  | some .dead => (n9 X (id :: bE ops o fr), (id :: bE ops o fr) ++ [id + 1000])
  | _ => (n9 X (bE ops o fr), bE ops o fr ++ [id + 1000]))
def Eg (st : St) (mv : Option Nat) : Bool := match mv with
 | none => true
 | some id => (match st[id]? with
  | some .dead => false
  | _ => true)
def dN (o : Oper) : Nat := match o.dst with
 | some d => d + 1
 | none => 0
def Lb (P : Program) (an X : List Nat) (ops : Array Oper) (o : Oper) (fr : Fr) (st : St) (hs : HS) : Option ua :=
 match ev P (qX an o) o (cn ops o fr) (i8 (aP (bE ops o fr)) 0 st) hs with
 | some out => bif Nat.beq out.st.length st.length then
   bif (!qX an o && JZ (dN o) ops X o fr st (bE ops o fr) out) && (Fg st (bE ops o fr) && Eg st out.mv) then some ⟨out.av, fp (aP (bE ops o fr)) 0 st out.st, out.ob, out.hs, out.mv⟩ else none
  else (match GM X st, out.st.drop st.length with
   | some id, [b] => bif Jr (dN o) ops X id o fr st (bE ops o fr) out b && Fg st (id :: bE ops o fr) then some ⟨om (yP st.length id) out.av, (fp (aP (bE ops o fr)) 0 st (out.st.take st.length)).set id b, out.ob, out.hs, some id⟩ else none
   | _, _ => none)
 | none => none
theorem CU {o : Oper} (h : ∀ d, o.dst = some d → d < n) : mM n o = true := by
 unfold mM
 cases hd : o.dst with
 | none => rfl
 | some d => exact Nat.ble_eq_true_of_le (h d hd)
theorem L6 {X T : List Nat} {o : Oper} {out : ua} (h : JZ (dN o) ops X o fr st T out = true) (hd : mM n o = true) : JZ n ops X o fr st T out = true := by
 unfold JZ at h ⊢
 simp only [Bool.and_eq_true] at h ⊢
 exact ⟨⟨⟨hd, h.1.1.2⟩, h.1.2⟩, h.2⟩
theorem LM {X T : List Nat} {id : Nat} {o : Oper} {out : ua} {b : bF} (h : Jr (dN o) ops X id o fr st T out b = true) (hd : mM n o = true) : Jr n ops X id o fr st T out b = true := by
 unfold Jr at h ⊢
 simp only [Bool.and_eq_true] at h ⊢
 exact ⟨⟨⟨⟨⟨hd, h.1.1.1.1.2⟩, h.1.1.1.2⟩, h.1.1.2⟩, h.1.2⟩, h.2⟩
theorem Fn (m : Nat) : (fun id => !aP [m] id) = jD (some m) := by funext id; simp [aP, jD]
def Kw (P : Program) (an : List Nat) (hs : HS) (s : SS) : Option ua := match s.ks with
 | .g X ops (o :: _) _ :: _ => (match IU ops s.kn o (cn ops o s.fr) with
  | some true => Lb P an X ops o s.fr s.st hs
  | _ => none)
 | .o ops (o :: _) :: _ => (match IU ops s.kn o s.fr with
  | some true => ev P (qX an o) o s.fr s.st hs
  | _ => none)
 | _ => none
def zV {β : Type} (q : Nat → Bool) : Fr → (Fr → β) → β
 | [], K => K []
 | (d, av) :: fr, K => match cL q av with
  | true => zV q fr fun fr => K ((d, av) :: fr)
  | false => zV q fr fun fr => K ((d, .j) :: fr)
theorem vA {β : Type} (q : Nat → Bool) : ∀ (fr : Fr) (K : Fr → β), zV q fr K = K (kp q fr)
 | [], K => rfl
 | (d, av) :: fr, K => by
  simp only [zV, kp]
  cases cL q av <;> simp only [vA q fr, cond_true, cond_false]
def NN {β : Type} (mv : Option Nat) (fr : Fr) (K : Fr → β) : β := match mv with
 | none => K fr
 | some m => zV (jD (some m)) fr K
theorem Ir {β : Type} (mv : Option Nat) (fr : Fr) (K : Fr → β) : NN mv fr K = K (IT mv fr) := by
 cases mv with
 | none => rfl
 | some m => exact vA _ _ _
def Kd (n : Nat) (av : AV) (st' : St) (mv : Option Nat) (s : SS) : SS := match s with
 | ⟨.o ops (o :: l) :: k, fr, _, kn⟩ => fA av fun av => fS st' fun st' => NN mv fr fun fr => td n o.dst av fr (fun fr' => uI false o.dst kn fun kn' => ⟨.o ops l :: k, fr', st', kn'⟩) s
 | ⟨.g X ops (o :: l) tw :: k, fr, st, kn⟩ => fA av fun av => fS st' fun st' => NN mv fr fun fr' => td n o.dst av fr' (fun fr2 => uI false o.dst kn fun kn' => ⟨.g X ops l (tw ++ [IW X ops o fr st mv]) :: k, fr2, st', kn'⟩) s
 | s => s
theorem GK.ev {X : List Nat} {tw : List (List Nat × List Nat)} {R : Fr → St → Prop} {o : Oper} {hs : HS} {out : ua} {fr2 : Fr} (hg : cp ops o (cn ops o fr) = some true) (he : Lb P an X ops o fr st hs = some out) (hob : eO out.ob) (hp : qN n o.dst out.av (IT out.mv fr) = some fr2)
  (k : GK P n X ops l (tw ++ [IW X ops o fr st out.mv]) R fr2 out.st) : GK P n X ops (o :: l) tw R fr st := by
 obtain ⟨p1, p2⟩ := oM hp
 have hd := CU (n := n) p1
 unfold Lb at he
 split at he
 ·rename_i out0 hev
  cases hb : Nat.beq out0.st.length st.length with
  | true =>
   simp only [hb, cond_true] at he
   cases hc : (!qX an o && JZ (dN o) ops X o fr st (bE ops o fr) out0) && (Fg st (bE ops o fr) && Eg st out0.mv) with
   | false => rw [hc] at he; cases he
   | true =>
    rw [hc] at he
    simp only [cond_true, Option.some.injEq] at he
    subst he
    simp only [Bool.and_eq_true, Bool.not_eq_true'] at hc
    obtain ⟨⟨c1, c2⟩, c3, c4⟩ := hc
    rw [c1] at hev
    have hw := L6 c2 hd
    have hE : LZ P n ops X (o :: l) fr st hs = some (oq o ⟨out0.av, bE ops o fr, bE ops o fr, out0.mv.toList, fp (aP (bE ops o fr)) 0 st out0.st⟩ fr, bE ops o fr, out0.mv.toList, fp (aP (bE ops o fr)) 0 st out0.st, out0.ob) := by
     unfold LZ
     simp only [Ae, hg, hev, hw, cond_true]
    have hn : oq o ⟨out0.av, bE ops o fr, bE ops o fr, out0.mv.toList, fp (aP (bE ops o fr)) 0 st out0.st⟩ fr = fr2 := by
     unfold oq
     cases hm : out0.mv with
     | none => rw [hm] at p2; simp only [Option.toList, IT] at p2 ⊢; rw [xq]; exact p2
     | some m => rw [hm] at p2; simp only [Option.toList, IT] at p2 ⊢; rw [Fn]; exact p2
    rw [hn] at hE
    have ht : IW X ops o fr st out0.mv = (n9 X (bE ops o fr), bE ops o fr ++ out0.mv.toList.map (· + 1000)) := by
     unfold IW
     unfold Eg at c4
     cases hm : out0.mv with
     | none => rfl
     | some m =>
      rw [hm] at c4
      simp only at c4 ⊢
      split
      ·rename_i hd'; rw [hd'] at c4; cases c4
      ·rfl
    refine GK.of (tw1 := IW X ops o fr st out0.mv) (fun h2 => ?_) k
    rw [ht]
    exact GX.wr hs fr2 _ _ _ _ hE hob c3 h2
  | false =>
   simp only [hb, cond_false] at he
   split at he
   ·rename_i id b hf hd2
    cases hc : Jr (dN o) ops X id o fr st (bE ops o fr) out0 b && Fg st (id :: bE ops o fr) with
    | false => rw [hc] at he; cases he
    | true =>
     rw [hc] at he
     simp only [cond_true, Option.some.injEq] at he
     subst he
     rw [Bool.and_eq_true] at hc
     have hw := LM hc.1 hd
     have hdd : st[id]? = some .dead := by
      have h := hc.1
      unfold Jr at h
      simp only [Bool.and_eq_true] at h
      exact zx h.1.2.1.1.1.1
     have hE : LP P n ops X (qX an o) id (o :: l) fr st hs = some (oq o ⟨om (yP st.length id) out0.av, id :: bE ops o fr, id :: bE ops o fr, [id], (fp (aP (bE ops o fr)) 0 st (out0.st.take st.length)).set id b⟩ fr, id :: bE ops o fr, (fp (aP (bE ops o fr)) 0 st (out0.st.take st.length)).set id b, out0.ob) := by
      unfold LP
      simp only [Ae, hg, hev, hd2, hw, cond_true]
     have hn : oq o ⟨om (yP st.length id) out0.av, id :: bE ops o fr, id :: bE ops o fr, [id], (fp (aP (bE ops o fr)) 0 st (out0.st.take st.length)).set id b⟩ fr = fr2 := by
      unfold oq
      simp only [IT] at p2
      rw [← p2]
      simp only
      rw [Fn]
     rw [hn] at hE
     have ht : IW X ops o fr st (some id) = (n9 X (id :: bE ops o fr), (id :: bE ops o fr) ++ [id + 1000]) := by
      unfold IW
      simp only [hdd]
     refine GK.of (tw1 := IW X ops o fr st (some id)) (fun h2 => ?_) k
     rw [ht]
     exact GX.new _ id hs fr2 _ _ _ hE hob hc.2 h2
   ·cases he
 ·cases he
theorem HV {out : ua} {hs : HS} (he : Kw P an hs s = some out) (hob : eO out.ob) (hm : yB n0 loose out.mv = true) (k : XK P n n0 loose Q (Kd n out.av out.st out.mv s)) : XK P n n0 loose Q s := by
 obtain ⟨ks, fr, st, kn⟩ := s
 unfold Kw at he
 split at he
 ·rename_i X ops o l tw k' hk
  simp only at hk
  subst hk
  split at he
  ·rename_i hg
   have hg := oX hg
   simp only [Kd, rT, pd, Ir] at k
   rcases ko (n := n) o.dst out.av (IT out.mv fr) (fun fr' => uI false o.dst kn fun kn' => (⟨.g X ops l (tw ++ [IW X ops o fr st out.mv]) :: k', fr', out.st, kn'⟩ : SS)) ⟨.g X ops (o :: l) tw :: k', fr, st, kn⟩ with ⟨fr', hp, e⟩ | e
   ·obtain ⟨kn', ek⟩ := lQ false o.dst kn fun kn' => (⟨.g X ops l (tw ++ [IW X ops o fr st out.mv]) :: k', fr', out.st, kn'⟩ : SS)
    rw [e, ek] at k
    exact GK.ev hg he hob hp k
   ·rw [e] at k; exact k
  ·cases he
 ·rename_i ops o l k' hk
  simp only at hk
  subst hk
  split at he
  ·rename_i hg
   have hg := oX hg
   simp only [Kd, rT, pd, Ir] at k
   rcases ko (n := n) o.dst out.av (IT out.mv fr) (fun fr' => uI false o.dst kn fun kn' => (⟨.o ops l :: k', fr', out.st, kn'⟩ : SS)) ⟨.o ops (o :: l) :: k', fr, st, kn⟩ with ⟨fr', hp, e⟩ | e
   ·obtain ⟨kn', ek⟩ := lQ false o.dst kn fun kn' => (⟨.o ops l :: k', fr', out.st, kn'⟩ : SS)
    rw [e, ek] at k
    have he : ev P (qX an o) o fr st hs = some out := he
    have hg : cp ops o fr = some true := hg
    have h0 : iI P n n0 loose an ops [o] fr st hs = some ⟨.normal, fr', out.st, out.hs, out.ob ++ []⟩ := by simp only [iI, hg, he, hm, cond_true, hp]
    exact XO.run (l := [o]) (rest := l) h0 (by rw [List.append_nil]; exact hob) k
   ·rw [e] at k; exact k
  ·cases he
 ·cases he
theorem Nb {hs hs' : HS} {av av' : AV} {st1 st' : St} {ob : List Prop} {mv : Option Nat} (he : Kw P an hs (run P n an s) = some ⟨av, st1, ob, hs', mv⟩) (hob : eO ob) (hm : yB n0 loose mv = true) (e1 : av = av') (e2 : st1 = st')
  (k : GG P n n0 loose an r Q T (Kd n av' st' mv (run P n an s))) : GG P n n0 loose an r Q T s := by
 subst e1; subst e2
 exact ⟨fun h => cq (an := an) (HV he hob hm (k h))⟩
def NT (s : SS) : Nat := match s.ks with
 | .g X _ _ _ :: _ => (GM X s.st).getD 0
 | _ => s.st.length
def N4 (s : SS) (b : bF) : St := match s.ks with
 | .g X _ _ _ :: _ => s.st.set ((GM X s.st).getD 0) b
 | _ => s.st ++ [b]
def NA (s : SS) : Option Nat := match s.ks with
 | .g X _ _ _ :: _ => some ((GM X s.st).getD 0)
 | _ => none
theorem rM (E : pD α) (id : Nat) (xs : List α) {ys : List α} {N L : Nat} (k : GG P n n0 loose an r Q x (Kd n (.one (.sl id E.sz 0 (ys ++ xs).length)) ((run P n an s).st.set id (.arr E.sz (E.els (ys ++ xs)))) (some id) (run P n an s))) (hL : L = ys.length := by rfl) (hN : N = xs.length := by rfl)
  (he : Kw P an [] (run P n an s) = some ⟨.one (.sl id E.sz 0 (L + (E.els xs).length)), (run P n an s).st.set id (.arr E.sz (E.els ys ++ E.els xs)), [fc E.sz (E.els xs), L = (E.els ys).length, L + (E.els xs).length ≤ 4294967296], [], some id⟩ := by kernel_rfl)
  (hm : yB n0 loose (some id) = true := by kernel_rfl) : GG P n n0 loose an r Q (eZ (ys.length + N ≤ 4294967296) x) s := by
 subst hL; subst hN
 refine ⟨fun h => ?_⟩
 obtain ⟨hp, h⟩ := lF h
 exact Nb he ⟨E.ok _, (E.len _).symm, by rw [E.len]; exact hp, trivial⟩ hm (by rw [E.len, List.length_append]) (by rw [E.app2]) k h
theorem NU (id : Nat) (t : ByteArray) {ys : List Int} {L : Nat} (k : GG P n n0 loose an r Q x (Kd n (.one (.sl id 1 0 (ys ++ iu t).length)) ((run P n an s).st.set id (.arr 1 ((eK .u8).els (ys ++ iu t)))) (some id) (run P n an s))) (hL : L = ys.length := by rfl)
  (he : Kw P an [] (run P n an s) = some ⟨.one (.sl id 1 0 (L + (fy t).length)), (run P n an s).st.set id (.arr 1 ((eK .u8).els ys ++ fy t)), [fc 1 (fy t), L = ((eK .u8).els ys).length, L + (fy t).length ≤ 4294967296], [], some id⟩ := by kernel_rfl)
  (hm : yB n0 loose (some id) = true := by kernel_rfl) : GG P n n0 loose an r Q (eZ (ys.length + (iu t).length ≤ 4294967296) x) s := by
 subst hL
 refine ⟨fun h => ?_⟩
 obtain ⟨hp, h⟩ := lF h
 exact Nb he ⟨EE _, ((eK .u8).len _).symm, by rw [xH]; exact hp, trivial⟩ hm (by rw [BV]) (by rw [Ck]) k h
theorem JE (E : pD α) (id : Nat) {ys : List α} {i : Int} {L : Nat} {f : α → Option β} (k : ∀ e, at? ys i = some e → GG P n n0 loose an r Q (f e) (yp n (.one (.pt id E.sz (0 + i.toNat) 0)) (run P n an s))) (hL : L = ys.length := by rfl)
  (he : El P (run P n an s) = some (.one (.pt id E.sz (0 + i.toNat) 0), [0 ≤ i ∧ i < ((L : Nat) : Int)]) := by kernel_rfl) : GG P n n0 loose an r Q (aD (at? ys i) f) s := by
 subst hL
 refine ⟨fun h => ?_⟩
 obtain ⟨e, ha, h⟩ := nW h
 exact uV _ _ (ob := [_]) ⟨pD.inb' ha, trivial⟩ rfl (k e ha) he h
theorem Ng (E : pD α) (id : Nat) {ys : List α} {i : Int} {e : α} {L : Nat} (ha : at? ys i = some e) (k : GG P n n0 loose an r Q T (yp n (.one (.pt id E.sz (0 + i.toNat) 0)) (run P n an s))) (hL : L = ys.length := by rfl)
  (he : El P (run P n an s) = some (.one (.pt id E.sz (0 + i.toNat) 0), [0 ≤ i ∧ i < ((L : Nat) : Int)]) := by kernel_rfl) : GG P n n0 loose an r Q T s := by
 subst hL
 exact uV _ _ (ob := [_]) ⟨pD.inb' ha, trivial⟩ rfl k he
def Ih (P : Program) (hs : HS) (s : SS) : Option (AV × List Prop) :=
 match tT s with
 | some (o, f) => bif iS o.op then (match ev P false o f (yD s) hs with
  | some out => some (out.av, out.ob)
  | none => none) else none
 | none => none
theorem I6 {hs : HS} {av : AV} {ob : List Prop} (he : Ih P hs s = some (av, ob)) (hob : eO ob) : ∃ o f, tT s = some (o, f) ∧ Yd P n (yD s) o f av := by
 unfold Ih at he
 split at he
 ·rename_i o f hd
  cases hq : iS o.op with
  | false => simp [hq] at he
  | true =>
   simp only [hq, cond_true] at he
   split at he
   ·rename_i out hev
    simp only [Option.some.injEq, Prod.mk.injEq] at he
    obtain ⟨rfl, rfl⟩ := he
    exact ⟨o, f, hd, Yd.ev hq hev hob⟩
   ·cases he
 ·cases he
def LO (o : Option (AV × List Prop)) : AV := match o with
 | some (av, _) => av
 | none => .j
theorem LK (E : pD α) {ys : List α} {i : Int} {e : α} (ha : at? ys i = some e) (k : GG P n n0 loose an r Q T (yp n (LO (Ih P [E.cells e] (run P n an s))) (run P n an s)))
  (he : Ih P [E.cells e] (run P n an s) = some (LO (Ih P [E.cells e] (run P n an s)), [(E.els ys)[0 + i.toNat]? = some (E.cells e)]) := by kernel_rfl) : GG P n n0 loose an r Q T s := by
 refine ⟨fun h => ?_⟩
 obtain ⟨o, g, h1, h2⟩ := I6 (n := n) he ⟨E.get0 ha, trivial⟩
 exact cq (an := an) (mh h1 h2 (k h))
theorem Oq (id sz L : Nat) (k : GG P n n0 loose an r Q T (yp n (.one (.sl id sz 0 L)) (run P n an s)))
  (he : El P (run P n an s) = some (.one (.sl id sz (0 + (0 : Int).toNat) (((L : Nat) : Int).toNat - (0 : Int).toNat)), [((0 : Int) ≤ 0 ∧ (0 : Int) ≤ ((L : Nat) : Int) ∧ (((L : Nat) : Int) ≤ ((L : Nat) : Int) ∧ ((L : Nat) : Int) ≤ ((L : Nat) : Int))) ∧ ((0 : Int).toNat = 0 ∨ (((0 : Int).toNat : Nat) : Int) < ((L : Nat) : Int))]) := by kernel_rfl) : GG P n n0 loose an r Q T s := by
 have e2 : ((L : Nat) : Int).toNat - (0 : Int).toNat = L := by simp
 rw [e2] at he
 exact uV _ _ (ob := [_]) ⟨⟨⟨by omega, by omega, by omega, by omega⟩, .inl rfl⟩, trivial⟩ rfl k he
theorem LE (E : pD α) (id : Nat) {ys : List α} {i : Int} {e : α} (ha : at? ys i = some e) (v : α) (k : GG P n n0 loose an r Q T (Kd n .j ((run P n an s).st.set id (.arr E.sz (E.els (ys.set i.toNat v)))) none (run P n an s)))
  (he : Kw P an [E.cells e] (run P n an s) = some ⟨.j, (run P n an s).st.set id (.arr E.sz ((E.els ys).set (0 + i.toNat) (E.cells v))), [(E.els ys)[0 + i.toNat]? = some (E.cells e)], [], none⟩ := by kernel_rfl) : GG P n n0 loose an r Q T s :=
 Nb he ⟨E.get0 ha, trivial⟩ rfl rfl (by rw [E.set0]) k
theorem MZ (E : pD α) (v : α) {N M : Int} (k : GG P n n0 loose an r Q x (Kd n (.one (.sl (NT (run P n an s)) E.sz 0 N.toNat)) (N4 (run P n an s) (.arr E.sz (E.els (List.replicate N.toNat v)))) (NA (run P n an s)) (run P n an s)))
  (he : Kw P an [] (run P n an s) = some ⟨.one (.sl (NT (run P n an s)) E.sz 0 N.toNat), N4 (run P n an s) (.arr E.sz (List.replicate N.toNat (E.cells v))), [0 ≤ N, N ≤ M, M ≤ 4294967296], [], NA (run P n an s)⟩ := by kernel_rfl) (hm : yB n0 loose (NA (run P n an s)) = true := by kernel_rfl) : GG P n n0 loose an r Q (eZ (0 ≤ N ∧ N ≤ M ∧ M ≤ 4294967296) x) s := by
 refine ⟨fun h => ?_⟩
 obtain ⟨⟨h1, h2, h3⟩, h⟩ := lF h
 exact Nb he ⟨h1, h2, h3, trivial⟩ hm rfl (by rw [E.rep]) k h
theorem uW (d : Nat) (E : pD α) (xs : List α) (k : GG P n n0 loose an r Q T (yp n (vl E xs) (CN P n an d s))) (he : El P (CN P n an d s) = some (.one (.pv (.ro (xs.map E.cells))), []) := by kernel_rfl) : GG P n n0 loose an r Q T s := by
 refine ⟨fun h => ?_⟩
 rw [← E.hels] at he
 obtain ⟨o, g, h1, h2⟩ := Ix (n := n) he trivial
 exact ur (mh h1 h2 (k h))
def CX (P : Program) (f : Nat) (args : List AV) (sc : St) (lo : List Nat) {β : Type} (T : Option β) (rv : β → AV) (nb : β → St) : Prop := ∀ r, T = some r → MX P f args sc lo (rv r) (nb r)
theorem F1 {f : Nat} {args : List AV} {sc : St} {lo : List Nat} {rv : β → AV} {nb : β → St} (k m n : Nat) (an : List Nat) (fn : Func) (g : ∀ r, GG P n k lo an r (wg P fn m rv nb r) T ⟨[.c (cd fn [])], LI args, MY sc, []⟩)
  (hf : P.funcs[f]? = some fn := by kernel_rfl) (hb : fn.body = some (cd fn []) := by kernel_rfl) (hn : fn.ntmps = n := by kernel_rfl) (hl : Nat.ble args.length n = true := by rfl) (hk : sc.length = k := by rfl) (hkm : Nat.ble k m = true := by rfl) : CX P f args sc lo T rv nb := by
 intro r hT
 refine MX.of k m hkm hf hb hn (Nat.le_of_ble_eq_true hl) hk ?_
 have := g r hT
 unfold LI MY at this
 rw [vT, pd] at this
 refine XW.mono (show XW P n k lo (cd fn []) (QK P n k lo [] (wg P fn m rv nb r)) (kg args 0) sc from ?_) (fun e f s h => h)
 have e : kj (XW P n k lo (cd fn []) (wg P fn m rv nb r)) (wg P fn m rv nb r) .normal (kg args 0) sc := this
 exact e
theorem NV {f : Nat} {args : List AV} {sc : St} {lo : List Nat} {rv : β → AV} {nb : β → St} (e : T = none) : CX P f args sc lo T rv nb := fun r h => jL e h
theorem XO.calxS (g : Nat) (avs avs0 : List AV) (sc sc' : St) (lo : List Nat) (r : AV) (rs : List Nat) (L : List Nat) (fr' : Fr) (st' : St) (hc : lm P n ops l fr = some (g, avs0)) (b : Bool) (hs : avs0.map (LG b) = avs.map (om (gc rs st.length))) (h : MX P g avs sc lo r sc') (hb : Av st.length rs sc sc' avs = true)
  (hL : lo.map (gc rs st.length) = L) (hbx : wq rs L 0 st = true) (hfx : BZ n0 loose L = true)
  (hst : rs.map (fun x => st[x]?) = sc.map (fun o => some (lp (gc rs st.length) o))) (hst' : cU st rs ((sc'.take sc.length).map (lp (gc rs st.length))) ++ (sc'.drop sc.length).map (lp (gc rs st.length)) = st') (hput : se n l (om (gc rs st.length) r) (kp (fun id => !aP L id) fr) = some fr')
  (hk : XO P n n0 loose ops (l.drop 1) Q fr' st') : XO P n n0 loose ops l Q fr st := by
 cases l with
 | nil => simp [lm] at hc
 | cons o rest =>
  simp only [lm] at hc
  split at hc
  ·rename_i hg
   intro ι w a hR hF
   obtain ⟨vs, hrun, hA⟩ := m8 hc hF
   have hA := hA.soft b
   rw [hs] at hA
   have hw := cr hg hF
   refine wpList_step fun K hK => ?_
   rw [if_pos hw]
   simp only [Oper.wp, hrun, Oper.upon]
   refine (h.use' rs hb hst (by rw [hL]; exact fun id o ho hn => xV hbx id o ho (by rwa [Nat.zero_add])) hR hA).mono ?_
   rintro e w' ⟨v, ι', rfl, hR', hv, k⟩
   rw [hst', hL] at k
   rw [hst'] at hR' hv
   refine hK _ _ (dG (fun e a w h => h.trans (k.weaken (fun id hf => ?_))) (hk ι' w' _ hR' (je hput (hF.keep k (q := fun id => !aP L id) (fun id hq _ hm => by rw [dB.2 hm] at hq; cases hq)) hv)))
   intro hm
   have := List.all_eq_true.1 hfx id hm
   have hf' : ou n0 loose id = true := hf
   rw [hf'] at this
   cases this
  ·simp at hc
def N3 (n : Nat) (rs lo : List Nat) (len : Nat) (av : AV) (sc' : St) (s : SS) : SS := match s with
 | ⟨.o ops (o :: l) :: k, fr, st, kn⟩ => fA (om (gc rs st.length) av) fun av => fS (cU st rs ((sc'.take len).map (lp (gc rs st.length))) ++ (sc'.drop len).map (lp (gc rs st.length))) fun st' => zV (fun id => !aP (lo.map (gc rs st.length)) id) fr fun fr => td n o.dst av fr (fun fr' => uI false o.dst kn fun kn' => ⟨.o ops l :: k, fr', st', kn'⟩) s
 | s => s
theorem IX (b : Bool) (rs : List Nat) {o : Option α} {f : α → Option β} {g : Nat} {avs : List AV} {sc : St} {lo : List Nat} {rv : α → AV} {nb : α → St} (c : CX P g avs sc lo o rv nb)
  (k : ∀ v, o = some v → GG P n n0 loose an r Q (f v) (N3 n rs lo sc.length (rv v) (nb v) (run P n an s)))
  (h1 : cQ b P n (run P n an s) = some (g, avs.map (om (gc rs (run P n an s).st.length))) := by kernel_rfl) (h2 : ∀ v, Av (run P n an s).st.length rs sc (nb v) avs = true := by intro v; kernel_rfl)
  (h4 : (wq rs (lo.map (gc rs (run P n an s).st.length)) 0 (run P n an s).st && BZ n0 loose (lo.map (gc rs (run P n an s).st.length))) = true := by kernel_rfl)
  (h3 : rs.map (fun x => (run P n an s).st[x]?) = sc.map (fun o => some (lp (gc rs (run P n an s).st.length) o)) := by kernel_rfl) : GG P n n0 loose an r Q (aD o f) s := by
 refine ⟨fun h => ?_⟩
 obtain ⟨v, ho, h⟩ := nW h
 refine cq (an := an) ?_
 have k := k v ho h
 have h2 := h2 v
 generalize run P n an s = s' at *
 obtain ⟨ks, fr, st, kn⟩ := s'
 simp only [Bool.and_eq_true] at h4
 unfold cQ at h1
 split at h1
 ·rename_i ops l k' hk
  simp only at hk
  subst hk
  split at h1
  ·rename_i g' avs' hc
   simp only [Option.some.injEq, Prod.mk.injEq] at h1
   obtain ⟨rfl, h1⟩ := h1
   cases l with
   | nil => simp [lm] at hc
   | cons o' l =>
    simp only [N3, rT, pd, vA] at k
    rcases ko (n := n) o'.dst (om (gc rs st.length) (rv v)) (kp (fun id => !aP (lo.map (gc rs st.length)) id) fr) (fun fr' => uI false o'.dst kn fun kn' => (⟨.o ops l :: k', fr', cU st rs (((nb v).take sc.length).map (lp (gc rs st.length))) ++ ((nb v).drop sc.length).map (lp (gc rs st.length)), kn'⟩ : SS)) ⟨.o ops (o' :: l) :: k', fr, st, kn⟩ with ⟨fr', hp, e⟩ | e
    ·obtain ⟨kn', ek⟩ := lQ false o'.dst kn fun kn' => (⟨.o ops l :: k', fr', cU st rs (((nb v).take sc.length).map (lp (gc rs st.length))) ++ ((nb v).drop sc.length).map (lp (gc rs st.length)), kn'⟩ : SS)
     rw [e, ek] at k
     exact XO.calxS _ _ _ _ _ _ _ _ _ fr' _ hc b h1 (c v ho) h2 rfl h4.1 h4.2 h3 rfl hp k
    ·rw [e] at k; exact k
  ·cases h1
 ·cases h1
def cG (P : Program) (n : Nat) (s : SS) : Option (Nat × List AV) := match s.ks with
 | .g _ ops l _ :: _ => Bx P n ops l s.fr
 | _ => none
def Fk (rs : List Nat) (ops : Array Oper) (o : Oper) (fr : Fr) : List Nat := bE ops o fr ++ rs
def NY (rs L : List Nat) (av : AV) (st' : St) (s : SS) : Bool := match s.ks with
 | .g X ops (o :: _) _ :: _ => ((Fg s.st (Fk rs ops o s.fr) && xc ops o s.fr (Fk rs ops o s.fr)) && (cL (aP (Fk rs ops o s.fr)) av && rs.all (aP (Fk rs ops o s.fr)))) && (dc (fun i => !aP X i) st' && (L.all (aP X) && L.all (aP (Fk rs ops o s.fr))))
 | _ => false
def NZ (n : Nat) (rs L : List Nat) (av : AV) (st' : St) (s : SS) : SS := match s with
 | ⟨.g X ops (o :: l) tw :: k, fr, st, kn⟩ => fA av fun av => fS st' fun st' => zV (fun id => !aP L id) fr fun fr' => td n o.dst av fr' (fun fr2 => uI false o.dst kn fun kn' => ⟨.g X ops l (tw ++ [(n9 X (Fk rs ops o fr), Fk rs ops o fr ++ L.map (· + 1000))]) :: k, fr2, st', kn'⟩) s
 | s => s
theorem NI (rs : List Nat) {o : Option α} {f : α → Option β} {g : Nat} {avs : List AV} {sc : St} {lo : List Nat} {rv : α → AV} {nb : α → St} (c : CX P g avs sc lo o rv nb)
  (k : ∀ v, o = some v → GG P n n0 loose an r Q (f v) (NZ n rs (lo.map (gc rs (run P n an s).st.length)) (om (gc rs (run P n an s).st.length) (rv v)) (cU (run P n an s).st rs ((nb v).map (lp (gc rs (run P n an s).st.length)))) (run P n an s)))
  (h1 : cG P n (run P n an s) = some (g, avs.map (om (gc rs (run P n an s).st.length))) := by kernel_rfl)
  (h2 : ∀ v, (xT (run P n an s).st.length rs sc (nb v) avs && NY rs (lo.map (gc rs (run P n an s).st.length)) (om (gc rs (run P n an s).st.length) (rv v)) (cU (run P n an s).st rs ((nb v).map (lp (gc rs (run P n an s).st.length)))) (run P n an s)) = true := by intro v; kernel_rfl)
  (h3 : rs.map (fun x => (run P n an s).st[x]?) = sc.map (fun o => some (lp (gc rs (run P n an s).st.length) o)) := by kernel_rfl) : GG P n n0 loose an r Q (aD o f) s := by
 refine ⟨fun h => ?_⟩
 obtain ⟨v, ho, h⟩ := nW h
 refine cq (an := an) ?_
 have k := k v ho h
 have hcm := h2 v
 generalize run P n an s = s' at *
 obtain ⟨ks, fr, st, kn⟩ := s'
 rw [Bool.and_eq_true] at hcm
 obtain ⟨hcm, h4⟩ := hcm
 clear h2
 unfold NY at h4
 split at h4
 ·rename_i X ops o' l tw k' hk
  simp only at hk
  subst hk
  simp only [Bool.and_eq_true] at h4
  obtain ⟨⟨⟨q1, q2⟩, q3, q4⟩, q5, q6, q7⟩ := h4
  simp only [NZ, rT, pd, vA] at k
  generalize hL : lo.map (gc rs st.length) = L at *
  rcases ko (n := n) o'.dst (om (gc rs st.length) (rv v)) (kp (fun id => !aP L id) fr) (fun fr' => uI false o'.dst kn fun kn' => (⟨.g X ops l (tw ++ [(n9 X (Fk rs ops o' fr), Fk rs ops o' fr ++ L.map (· + 1000))]) :: k', fr', cU st rs ((nb v).map (lp (gc rs st.length))), kn'⟩ : SS)) ⟨.g X ops (o' :: l) tw :: k', fr, st, kn⟩ with ⟨fr', hp, e⟩ | e
  ·obtain ⟨kn', ek⟩ := lQ false o'.dst kn fun kn' => (⟨.g X ops l (tw ++ [(n9 X (Fk rs ops o' fr), Fk rs ops o' fr ++ L.map (· + 1000))]) :: k', fr', cU st rs ((nb v).map (lp (gc rs st.length))), kn'⟩ : SS)
   rw [e, ek] at k
   obtain ⟨p1, p2⟩ := oM hp
   refine GK.of (tw1 := (n9 X (Fk rs ops o' fr), Fk rs ops o' fr ++ L.map (· + 1000))) (fun hg => ?_) k
   exact GY.calx g avs sc (nb v) lo (rv v) rs L fr' (Fk rs ops o' fr) _ rfl q1 h1 (c v ho) (by simp only [Bool.and_eq_true]; exact ⟨hcm, q6, q7⟩) hL h3 rfl (by simp only [Ae, Bool.and_eq_true]; exact ⟨⟨q2, CU p1⟩, q3, q4⟩) q5 (by simp only [Ae]; exact p2) hg
  ·rw [e] at k; exact k
 ·cases h4
def NW (id : Nat) (m : Nat) : CV → CV
 | .sl i sz off len => bif Nat.beq i id then .sl i sz off m else .sl i sz off len
 | c => c
def Ok (id m : Nat) : AV → AV
 | .one c => .one (NW id m c)
 | a => a
def NM (id m : Nat) : bF → bF
 | .box cs => .box (cs.map (NW id m))
 | b => b
def Nj (id m : Nat) (fr : Fr) : Fr := fr.map fun x => (x.1, Ok id m x.2)
def NL (id m : Nat) (s : SS) : SS := match s with
 | ⟨ks, fr, st, kn⟩ => fF (Nj id m fr) fun fr => fS (st.map (NM id m)) fun st => ⟨ks, fr, st, kn⟩
theorem JQ (id : Nat) {L m : Nat} (h : L = m) (k : GG P n n0 loose an r Q T (NL id m (run P n an s))) (he : (run P n an s).fr = Nj id L (run P n an s).fr := by kernel_rfl) (he' : (run P n an s).st = (run P n an s).st.map (NM id L) := by kernel_rfl) : GG P n n0 loose an r Q T s := by
 subst h
 refine ⟨fun h => cq (an := an) ?_⟩
 have k := k.go h
 generalize run P n an s = s' at *
 obtain ⟨ks, fr, st, kn⟩ := s'
 simp only [NL, vT, pd] at k he he'
 rw [← he, ← he'] at k
 exact k
theorem Oj (id : Nat) {L m : Nat} (k : GG P n n0 loose an r Q x (NL id m (run P n an s))) (he : (run P n an s).fr = Nj id L (run P n an s).fr := by kernel_rfl) (he' : (run P n an s).st = (run P n an s).st.map (NM id L) := by kernel_rfl) : GG P n n0 loose an r Q (eZ (m = L) x) s := by
 refine ⟨fun h => ?_⟩
 obtain ⟨hp, h⟩ := lF h
 exact (JQ id hp.symm k he he').go h
theorem Yd.ext {st : St} {o : Oper} {f : Fr} {g : Nat} {vs us : List Value} (hc : zR P o f = some (g, vs)) (h : BJ P g vs (.tuple us.toArray)) (hp : us.all lj = true) : Yd P n st o f (FI us) := by
 intro ι w a hR hF K Q hK
 have hrun := tC hc h hF (w := w)
 simp only [Oper.wp, hrun, Oper.upon]
 exact hK _ w ι (tH hp) hR .refl
def MI (P : Program) (s : SS) : Option (Nat × List Value) := match tT s with
 | some (o, f) => zR P o f
 | none => none
theorem LL {p : Prop} [Decidable p] {g : Nat} {vs us : List Value} (h : p → BJ P g vs (.tuple us.toArray)) (hp : us.all lj = true) (k : GG P n n0 loose an r Q x (yp n (FI us) (run P n an s))) (he : MI P (run P n an s) = some (g, vs)) : GG P n n0 loose an r Q (eZ p x) s := by
 refine ⟨fun h' => ?_⟩
 obtain ⟨hp', h'⟩ := lF h'
 unfold MI at he
 split at he
 ·rename_i o f hd
  exact cq (an := an) (mh hd (Yd.ext he (h hp') hp) (k h'))
 ·cases he
theorem Cz {a b c : Int} (g : Nat) (fn : Func) (k : GG P n n0 loose an r Q x (yp n (.tp [.one (.pv (.s (.int .u64 ((a + b + c) % 18446744073709551616)))), .one (.pv (.s (.int .u64 ((a + b + c) / 18446744073709551616))))]) (run P n an s)))
  (he : MI P (run P n an s) = some (g, [.int .u64 a, .int .u64 b, .int .u64 c]) := by kernel_rfl) (hf : P.funcs[g]? = some fn := by kernel_rfl)
  (hx : ((!(fn.name == "runtime.NumGoroutine") && fn.body.isNone) && (Extern.findNext fn).isNone) = true := by kernel_rfl) (hx' : Extern.find fn = some add64Entry := by kernel_rfl) : GG P n n0 loose an r Q (eZ (0 ≤ a ∧ 0 ≤ b ∧ 0 ≤ c ∧ c ≤ 1) x) s := by
 simp only [Bool.and_eq_true, Bool.not_eq_true', Option.isNone_iff_eq_none] at hx
 exact LL (fun h => GB hf hx.1.1 (by rw [hx.1.2]; rfl) hx.2 hx' h.1 h.2.1 h.2.2.1 h.2.2.2) rfl k he
theorem Jc {a b c : Int} (g : Nat) (fn : Func) (k : GG P n n0 loose an r Q x (yp n (.tp [.one (.pv (.s (.int .u64 ((a - b - c) % 18446744073709551616)))), .one (.pv (.s (.int .u64 (if a < b + c then (1 : Int) else (0 : Int)))))]) (run P n an s)))
  (he : MI P (run P n an s) = some (g, [.int .u64 a, .int .u64 b, .int .u64 c]) := by kernel_rfl) (hf : P.funcs[g]? = some fn := by kernel_rfl)
  (hx : ((!(fn.name == "runtime.NumGoroutine") && fn.body.isNone) && (Extern.findNext fn).isNone) = true := by kernel_rfl) (hx' : Extern.find fn = some EC := by kernel_rfl) : GG P n n0 loose an r Q (eZ (0 ≤ a ∧ 0 ≤ b ∧ b < 18446744073709551616 ∧ 0 ≤ c ∧ c ≤ 1) x) s := by
 simp only [Bool.and_eq_true, Bool.not_eq_true', Option.isNone_iff_eq_none] at hx
 exact LL (fun h => GO hf hx.1.1 (by rw [hx.1.2]; rfl) hx.2 hx' h.1 h.2.1 h.2.2.1 h.2.2.2.1 h.2.2.2.2) rfl k he
end
end Go.SX
namespace Go.SX
open Go
structure jI where
 year : Int
 month : Int
 day : Int
 hour : Int
 minute : Int
 second : Int
 deriving DecidableEq
structure fI where
 month : Int
 week : Int
 weekday : Int
 minute : Int
 deriving DecidableEq
structure dZ where
 name : ByteArray
 offset : Int
 summer : Int
 start : fI
 stop : fI
 deriving DecidableEq
structure bg where
 neg : Bool
 size : Int × Int × Int × Int
 deriving DecidableEq
structure bQ where
 leaves : Int
 deriving DecidableEq
structure aR where
 kind : Int
 param : Int
 deriving DecidableEq
structure bI where
 below : Bool
 d : List Int
 deriving DecidableEq
structure fQ (α : Type) where
 id : Int
 name : ByteArray
 need : Bool
 type : α
structure aq where
 kind : Int
 scale : Int
 fields : List (fQ aq)
abbrev ah := fQ aq
structure Mc where
 path : List Int
 type : aq
 df : Int
 rep : Int
structure tV where
 leaf : Mc
 fields : List ah
 pos : List Int
structure ac where
 kind : Int
 n : Int
 scale : Int
 s : ByteArray
 items : List ac
structure tu where
 reps : List Int
 defs : List Int
 values : List ac
mutual
def aq.cells : aq → List PV
 | ⟨k, s, fs⟩ => [pi k, pi s, .ro (aq.fcells fs)]
def aq.fcells : List (fQ aq) → List (List PV)
 | [] => []
 | f :: l => aq.fcell f :: aq.fcells l
def aq.fcell : fQ aq → List PV
 | ⟨i, n, q, t⟩ => pi i :: .s (.string n) :: .s (.bool q) :: aq.cells t
end
mutual
def ac.cells : ac → List PV
 | ⟨k, n, sc, s, it⟩ => [pi k, pi n, pi sc, .s (.string s), .ro (ac.lcells it)]
def ac.lcells : List ac → List (List PV)
 | [] => []
 | v :: l => ac.cells v :: ac.lcells l
end
theorem aq.fcells_eq : ∀ l : List (fQ aq), aq.fcells l = l.map aq.fcell
 | [] => rfl
 | f :: l => by rw [aq.fcells, aq.fcells_eq l]; rfl
theorem ac.lcells_eq : ∀ l : List ac, ac.lcells l = l.map ac.cells
 | [] => rfl
 | f :: l => by rw [ac.lcells, ac.lcells_eq l]; rfl
abbrev Hi (f : ah) : List PV := [pi f.id, .s (.string f.name), .s (.bool f.need), pi f.type.kind, pi f.type.scale, .ro (aq.fcells f.type.fields)]
abbrev Ha (v : ac) : List PV := [pi v.kind, pi v.n, pi v.scale, .s (.string v.s), .ro (ac.lcells v.items)]
theorem GF : aq.fcell = Hi := funext fun ⟨_, _, _, ⟨_, _, _⟩⟩ => rfl
theorem Gi : ac.cells = Ha := funext fun ⟨_, _, _, _, _⟩ => rfl
def ap : pD ah := ⟨6, Hi, aq.fcells, fun l => by rw [aq.fcells_eq, GF], fun _ => rfl⟩
def ak : pD ac := ⟨5, Ha, ac.lcells, fun l => by rw [ac.lcells_eq, Gi], fun _ => rfl⟩
def tX : pD dZ := .of 11 (fun x => [.s (.string x.name), pi x.offset, pi x.summer, pi x.start.month, pi x.start.week, pi x.start.weekday, pi x.start.minute, pi x.stop.month, pi x.stop.week, pi x.stop.weekday, pi x.stop.minute]) (fun _ => rfl)
structure bk where
 source : Int
 transform : aR
 deriving DecidableEq
structure fq where
 fields : List bk
 deriving DecidableEq
structure aY where
 id : Int
 nulls : Int
 min : ac
 max : ac
structure AJ where
 file : ByteArray
 rows : List Int
 deriving DecidableEq
structure AR where
 schema : Int
 ids : List Int
 keys : List (List ac)
 seq : Int
structure xt where
 name : ByteArray
 schema : Int
 spec : Int
 part : List ac
 rows : Int
 seq : Int
 stats : List aY
structure KX where
 name : ByteArray
 branch : Bool
 snapshot : Int
 deriving DecidableEq
structure J7 where
 name : ByteArray
 value : ByteArray
 deriving DecidableEq
structure wZ where
 id : Int
 parent : Int
 seq : Int
 schema : Int
 time : Int
 kind : Int
 files : List xt
 dat : List AJ
 dby : List AR
structure EQ where
 schemas : List (List ah)
 specs : List fq
 nextField : Int
 nextSeq : Int
 nextSnap : Int
 purges : Int
 snapshots : List wZ
 refs : List KX
 props : List J7
abbrev EK (x : bk) : List PV := [pi x.source, pi x.transform.kind, pi x.transform.param]
def aK : pD bk := .of 3 EK (fun _ => rfl)
def Ma : pD fq := .of 1 (fun x => [.ro (aK.els x.fields)]) (fun _ => rfl)
abbrev KS (x : aY) : List PV := [pi x.id, pi x.nulls, pi x.min.kind, pi x.min.n, pi x.min.scale, .s (.string x.min.s), .ro (ak.els x.min.items), pi x.max.kind, pi x.max.n, pi x.max.scale, .s (.string x.max.s), .ro (ak.els x.max.items)]
def cE : pD aY := .of 12 KS (fun _ => rfl)
def Gh : pD AJ := .of 2 (fun x => [.s (.string x.file), .ro (eI.els x.rows)]) (fun _ => rfl)
def FU : pD AR := .of 4 (fun x => [pi x.schema, .ro (eI.els x.ids), .ro ((eL ak).els x.keys), pi x.seq]) (fun _ => rfl)
abbrev LX (x : xt) : List PV := [.s (.string x.name), pi x.schema, pi x.spec, .ro (ak.els x.part), pi x.rows, pi x.seq, .ro (cE.els x.stats)]
def Gw : pD xt := .of 7 LX (fun _ => rfl)
def NK : pD KX := .of 3 (fun x => [.s (.string x.name), .s (.bool x.branch), pi x.snapshot]) (fun _ => rfl)
def L8 : pD J7 := .of 2 (fun x => [.s (.string x.name), .s (.string x.value)]) (fun _ => rfl)
abbrev Ml (x : wZ) : List PV := [pi x.id, pi x.parent, pi x.seq, pi x.schema, pi x.time, pi x.kind, .ro (Gw.els x.files), .ro (Gh.els x.dat), .ro (FU.els x.dby)]
def F5 : pD wZ := .of 9 Ml (fun _ => rfl)
end Go.SX
namespace Go.SX
open Go Go.Shelf Go.Lib Go.Proofs Go.RowKit
theorem zp {ι : IM} {w : World} {st : St} : ∀ {us vs : List Value}, vs.length = us.length → (∀ (j : Nat) v a, vs[j]? = some v → (us.map fun u => AV.one (.pv (.s u)))[j]? = some a → aL ι w st v a) → vs = us
 | [], [], _, _ => rfl
 | [], _ :: _, h, _ => by simp at h
 | _ :: _, [], h, _ => by simp at h
 | u :: us, v :: vs, h, hA => by
  have h0 := bq (hA 0 v _ rfl rfl)
  subst h0
  rw [zp (us := us) (vs := vs) (by simpa using h) (fun j x a h1 h2 => hA (j + 1) x a (by simpa using h1) (by simpa using h2))]
theorem PC.below {P : Program} {f : Nat} {us : List Value} {v : Value} (hv : lj v = true)
  (h : ∀ w : World, (∀ (b : Nat) (l : List Value), Cf b = some l → ∀ (i : Nat) x, l[i]? = some x → w.cell? ⟨b, i, none⟩ = some x) → Calls P f us.toArray w fun e w' => e = .returned v ∧ Below w.heap.size w w') :
  PC P f (us.map fun u => .one (.pv (.s u))) (.one (.pv (.s v))) := by
 intro ι w vs hR hA
 obtain rfl := zp (by simpa using hA.1) hA.2
 refine (h w (fun b l hb => (hR.gl b l hb).2.2)).mono ?_
 rintro e w' ⟨rfl, hb⟩
 have hx : mL w w' := ⟨hb.os, hb.tape, hb.output, hb.size, fun b hlt => hb.block b hlt⟩
 exact ⟨v, _, [], ι, rfl, ⟨rfl, rfl⟩, hR.ext hx, .one _ _ (.pv _ _ (.s _ hv)), (hx.keeps ι []).weaken (fun _ _ => trivial)⟩
theorem JL {g3 g4 : Nat} {w : World} (h3 : ∀ (i : Nat) x, vq[i]? = some x → w.cell? ⟨g3, i, none⟩ = some x) (h4 : ∀ (i : Nat) x, Do[i]? = some x → w.cell? ⟨g4, i, none⟩ = some x) : Utf8Tabs g3 g4 w := by
 refine ⟨fun c hc => h3 c _ ?_, fun i hi => ⟨h4 _ _ ?_, h4 _ _ ?_⟩⟩
 ·simp [vq, hc]
 ·simp [Do, show 2 * i < 32 by omega]
 ·simp [Do, show 2 * i + 1 < 32 by omega, show (2 * i + 1) / 2 = i by omega]
theorem JP {g3 g4 : Nat} {w : World} (h : Utf8Tabs g3 g4 w) : (∀ (i : Nat) x, vq[i]? = some x → w.cell? ⟨g3, i, none⟩ = some x) ∧ (∀ (i : Nat) x, Do[i]? = some x → w.cell? ⟨g4, i, none⟩ = some x) := by
 refine ⟨fun i x hx => ?_, fun i x hx => ?_⟩
 ·by_cases hi : i < 256
  ·simp [vq, hi] at hx; subst hx; exact h.1 i hi
  ·simp [vq, hi] at hx
 ·by_cases hi : i < 32
  ·simp only [Do, List.getElem?_map, List.getElem?_range hi, Option.map_some, Option.some.injEq] at hx
   by_cases e : i % 2 = 0
   ·rw [if_pos e] at hx
    have := (h.2 (i / 2) (by omega)).1
    rw [show 2 * (i / 2) = i by omega, hx] at this
    exact this
   ·rw [if_neg e] at hx
    have := (h.2 (i / 2) (by omega)).2
    rw [show 2 * (i / 2) + 1 = i by omega, hx] at this
    exact this
  ·simp [Do, hi] at hx
theorem yG {P : Program} {ρ : Ren} (L : Lays.n196 P ρ) (h3 : Cf (ρ.g 3) = some vq) (h4 : Cf (ρ.g 4) = some Do) (s : ByteArray) (hs : s.size ≤ 9223372036854775807) :
  PC P (ρ.f 196) [.one (.pv (.s (.string s)))] (.one (.pv (.s (.bool (validD s.data.toList))))) :=
 PC.below (us := [.string s]) rfl fun w hw => Go.Proofs.Any.utf8_ValidString L s w hs (JL (hw _ _ h3) (hw _ _ h4))
end Go.SX
namespace Go.SX
open Go
section
variable {P : Program} {n n0 : Nat} {loose : List Nat} {Q : QT} {fr : Fr} {st : St} {ops : Array Oper}
end
end Go.SX
namespace Go.SX
open Go
structure wR where
 f : {H : Type} → DataW H → Nat
 one : ∀ {H : Type} (d : DataW H), 1 ≤ f d
 str : ∀ {H : Type} (b : List UInt8), b.length + 1 ≤ f (DataW.lit (H := H) (.string b))
 sl : ∀ {H : Type} (e s : List (DataW H)), (e.map f).sum + 1 ≤ f (.slice e s)
 ag : ∀ {H : Type} (ps : List (DataW H)), (ps.map f).sum + 1 ≤ f (.agg ps)
abbrev CS : Nat → Prop := fun _ => False
def rH (w : World) (cs : List Value) (ps : List PV) : Prop :=
 cs.length = ps.length ∧ ∀ (j : Nat) v p, cs[j]? = some v → ps[j]? = some p → fk CS w v p
theorem rH.one {w : World} {v : Value} {p : PV} (h : fk CS w v p) : rH w [v] [p] := by
 refine ⟨rfl, fun j v' p' h1 h2 => ?_⟩
 cases j with
 | zero => simp at h1 h2; subst h1; subst h2; exact h
 | succ j => simp at h1
theorem rH.nil {w : World} : rH w [] [] := ⟨rfl, fun j v p h => by simp at h⟩
theorem rH.app {w : World} {cs : List Value} {p q : List PV} {n : Nat} (h : rH w (cs.take n) p) (k : rH w (cs.drop n) q) (hn : p.length = n) : rH w cs (p ++ q) := by
 have e : cs = cs.take n ++ cs.drop n := (List.take_append_drop n cs).symm
 refine ⟨?_, fun j v x h1 h2 => ?_⟩
 ·have h1 := h.1; have h2 := k.1
  rw [List.length_append, ← h1, ← h2, ← List.length_append, ← e]
 ·by_cases hj : j < n
  ·rw [List.getElem?_append_left (by omega)] at h2
   refine h.2 j v x ?_ h2
   rw [List.getElem?_take, if_pos hj]; exact h1
  ·rw [List.getElem?_append_right (by omega)] at h2
   refine k.2 (j - n) v x ?_ (by rw [← hn]; exact h2)
   rw [List.getElem?_drop, show n + (j - n) = j by omega]; exact h1
section
variable (B : wR) (P : Program)
def mb (N : Nat) (t : TypeId) {α : Type} (cells : α → List PV) (wf : α → Prop) (size : α → Nat) : Prop :=
 ∀ ⦃H : Type⦄ ⦃enc : TypeId × Value → H⦄ ⦃w : World⦄ ⦃base : Nat⦄ ⦃spare : Nat → Bool⦄ ⦃held : Bool⦄ ⦃gw : Nat⦄ ⦃cs : List Value⦄ ⦃d : DataW H⦄ ⦃ps : List MemPlace⦄,
  DataW.trod enc P w base spare held gw t cs = some (d, ps) → B.f d ≤ N → ∃ x, rH w cs (cells x) ∧ wf x ∧ size x ≤ B.f d
variable {B P}
theorem mb.int {N : Nat} {t : TypeId} {k : IntKind} (ht : P.underlying t = some (.int k)) : mb B P N t (fun n : Int => [.s (.int k n)]) (fun n => k.min ≤ n ∧ n ≤ k.max) (fun _ => 1) := by
 intro H enc w base spare held gw cs d ps h hN
 obtain ⟨n, rfl, hx, hw⟩ := DataW.trod_int ht h
 refine ⟨n, .one (.s _ rfl), ?_, B.one d⟩
 simpa [Lit.wf] using hw
theorem mb.bool {N : Nat} {t : TypeId} (ht : P.underlying t = some .bool) : mb B P N t (fun b : Bool => [.s (.bool b)]) (fun _ => True) (fun _ => 1) := by
 intro H enc w base spare held gw cs d ps h hN
 obtain ⟨b, rfl, hx⟩ := DataW.trod_bool ht h
 exact ⟨b, .one (.s _ rfl), trivial, B.one d⟩
theorem mb.str {N : Nat} {t : TypeId} (ht : P.underlying t = some .string) : mb B P N t (fun s : ByteArray => [.s (.string s)]) (fun _ => True) (fun s => s.size + 1) := by
 intro H enc w base spare held gw cs d ps h hN
 obtain ⟨s, rfl, hx, hs⟩ := DataW.trod_string ht h
 simp only [Prod.mk.injEq] at hx
 obtain ⟨rfl, rfl⟩ := hx
 refine ⟨s, .one (.s _ rfl), trivial, ?_⟩
 have := B.str (H := H) s.data.toList
 simpa using this
theorem Ja {w : World} {a : Addr} {v : Value} (h : w.cell? a = some v) : a.block < w.heap.size := by
 unfold World.cell? at h
 split at h
 ·rename_i h1; exact (Array.getElem?_eq_some_iff.1 h1).1
 ·cases h
theorem Kl {α : Type} {f : α → Nat} {l : List α} {x : α} (h : x ∈ l) : f x ≤ (l.map f).sum := by
 induction l with
 | nil => cases h
 | cons y l ih =>
  simp only [List.map_cons, List.sum_cons]
  rcases List.mem_cons.1 h with rfl | h
  ·omega
  ·have := ih h; omega
theorem C2 {α β : Type} {q : Nat → α → β → Prop} : ∀ {l : List α} , (∀ (i : Nat) a, l[i]? = some a → ∃ b, q i a b) → ∃ bs : List β, bs.length = l.length ∧ ∀ (i : Nat) a b, l[i]? = some a → bs[i]? = some b → q i a b := by
 intro l
 induction l generalizing q with
 | nil => intro _; exact ⟨[], rfl, fun i a b h => by simp at h⟩
 | cons x l ih =>
  intro h
  obtain ⟨b0, h0⟩ := h 0 x rfl
  obtain ⟨bs, hl, hb⟩ := ih (q := fun i => q (i + 1)) (fun i a hi => h (i + 1) a (by simpa using hi))
  refine ⟨b0 :: bs, by simp [hl], fun i a b h1 h2 => ?_⟩
  cases i with
  | zero => simp at h1 h2; subst h1; subst h2; exact h0
  | succ i => exact hb i a b (by simpa using h1) (by simpa using h2)
theorem A2 {α β : Type} {f : α → Nat} {g : β → Nat} : ∀ {l : List α} {m : List β}, m.length = l.length → (∀ (i : Nat) a b, l[i]? = some a → m[i]? = some b → g b ≤ f a) → (m.map g).sum ≤ (l.map f).sum
 | [], [], _, _ => by simp
 | [], _ :: _, h, _ => by simp at h
 | _ :: _, [], h, _ => by simp at h
 | a :: l, b :: m, h, hk => by
  have h0 := hk 0 a b rfl rfl
  have := A2 (f := f) (g := g) (l := l) (m := m) (by simpa using h) (fun i x y h1 h2 => hk (i + 1) x y (by simpa using h1) (by simpa using h2))
  simp only [List.map_cons, List.sum_cons]
  omega
theorem mb.slice {N : Nat} {t e : TypeId} {α : Type} {cells : α → List PV} {wf : α → Prop} {size : α → Nat} (ht : P.underlying t = some (.slice e)) (hc : ∀ x, (cells x).length = P.cellsOf e)
  (hpos : 0 < P.cellsOf e) (h : ∀ N', N' < N → mb B P N' e cells wf size) :
  mb B P N t (fun xs : List α => [.ro (xs.map cells)]) (fun xs => ∀ x ∈ xs, wf x) (fun xs => (xs.map size).sum + 1) := by
 intro H enc w base spare held gw cs d ps hd hN
 rcases DataW.trod_slice ht hd with ⟨rfl, hx⟩ | ⟨a, len, cap, elems, rest, n, _, rfl, hx, hb, hl, hm, hlen, hel, _, _⟩
 ·exact ⟨[], .one .nl, by simp, by simpa using B.one d⟩
 simp only [Prod.mk.injEq] at hx
 obtain ⟨rfl, rfl⟩ := hx
 have hsum := B.sl (elems.map (·.1)) (rest.map (·.1))
 have hel' : ∀ (i : Nat) z, elems[i]? = some z → ∃ x : α, (∃ cs', w.cells? base (a.add (i * P.cellsOf e)) (P.cellsOf e) = some cs' ∧ rH w cs' (cells x)) ∧ wf x ∧ size x ≤ B.f z.1 := by
  intro i z hz
  have hi : i < len := by rw [← hlen]; exact (List.getElem?_eq_some_iff.1 hz).1
  have hk := hel i hi
  rw [hz] at hk
  obtain ⟨cs', h1, h2⟩ := Option.bind_eq_some_iff.1 hk
  have hle : B.f z.1 ≤ ((elems.map (·.1)).map B.f).sum := Kl (f := B.f) (List.mem_map.2 ⟨z, List.mem_of_getElem? hz, rfl⟩)
  obtain ⟨x, k1, k2, k3⟩ := h (B.f z.1) (by omega) (d := z.1) (ps := z.2) h2 (Nat.le_refl _)
  exact ⟨x, ⟨cs', h1, k1⟩, k2, k3⟩
 obtain ⟨xs, hxl, hxs⟩ := C2 hel'
 have hxlen : xs.length = len := by omega
 have key : ∀ (i : Nat) x, xs[i]? = some x → ∃ z, elems[i]? = some z ∧ (∃ cs', w.cells? base (a.add (i * P.cellsOf e)) (P.cellsOf e) = some cs' ∧ rH w cs' (cells x)) ∧ wf x ∧ size x ≤ B.f z.1 := by
  intro i x hx
  have hi : i < elems.length := by rw [← hxl]; exact (List.getElem?_eq_some_iff.1 hx).1
  exact ⟨_, List.getElem?_eq_getElem hi, hxs i _ x (List.getElem?_eq_getElem hi) hx⟩
 refine ⟨xs, .one ?_, ?_, ?_⟩
 ·have hcell : ∀ (i : Nat) (ee : List PV) (j : Nat) c, (xs.map cells)[i]? = some ee → ee[j]? = some c → ∃ v, w.cell? (a.add (i * P.cellsOf e + j)) = some v ∧ fk CS w v c := by
   intro i ee j c h1 h2
   rw [List.getElem?_map, Option.map_eq_some_iff] at h1
   obtain ⟨x, hx, rfl⟩ := h1
   obtain ⟨z, _, ⟨cs', hcs, hrd⟩, _, _⟩ := key i x hx
   obtain ⟨_, hcl, hcc⟩ := World.cells?_some hcs
   have hj : j < P.cellsOf e := by rw [← hc x]; exact (List.getElem?_eq_some_iff.1 h2).1
   have := hcc j hj
   rw [rj] at this
   have hget : cs'[j]? = some cs'[j] := List.getElem?_eq_getElem (by omega)
   exact ⟨cs'[j], this.trans hget, hrd.2 j _ c hget h2⟩
  have := fk.ro (μ := CS) (w := w) a cap (P.cellsOf e) (xs.map cells) (fun i j => (w.cell? (a.add (i * P.cellsOf e + j))).getD undef) (by simpa [hxlen] using hl)
   (fun ee he => by obtain ⟨x, _, rfl⟩ := List.mem_map.1 he; exact hc x)
   (fun hne => by
    refine ⟨?_, fun h => h⟩
    cases xs with
    | nil => simp at hne
    | cons x0 r0 =>
     have h0 : 0 < (cells x0).length := by rw [hc]; exact hpos
     obtain ⟨v, hv, _⟩ := hcell 0 (cells x0) 0 _ rfl (List.getElem?_eq_getElem h0)
     have := Ja hv
     rwa [qr] at this)
   (fun i ee j c h1 h2 => by obtain ⟨v, hv, _⟩ := hcell i ee j c h1 h2; simp [hv])
   (fun i ee j c h1 h2 => by obtain ⟨v, hv, hr⟩ := hcell i ee j c h1 h2; simpa [hv] using hr)
  rw [List.length_map, hxlen] at this
  exact this
 ·intro x hx
  obtain ⟨i, hi, rfl⟩ := List.getElem_of_mem hx
  obtain ⟨_, _, _, k, _⟩ := key i _ (List.getElem?_eq_getElem hi)
  exact k
 ·have : (xs.map size).sum ≤ ((elems.map (·.1)).map B.f).sum := by
   rw [List.map_map]
   exact A2 (f := B.f ∘ Prod.fst) (g := size) hxl (fun i z x h1 h2 => (hxs i z x h1 h2).2.2)
  show (xs.map size).sum + 1 ≤ _
  omega
def vy (B : wR) (P : Program) (N : Nat) (off : Nat) (fs : List Field) {α : Type} (cells : α → List PV) (wf : α → Prop) (size : α → Nat) : Prop :=
 ∀ ⦃H : Type⦄ ⦃enc : TypeId × Value → H⦄ ⦃w : World⦄ ⦃base : Nat⦄ ⦃spare : Nat → Bool⦄ ⦃held : Bool⦄ ⦃n : Nat⦄ ⦃cs : List Value⦄ ⦃xs : List (DataW H × List MemPlace)⦄,
  xs.length = fs.length → (∀ (i : Nat) f, fs[i]? = some f → DataW.trod enc P w base spare held n f.type ((cs.drop f.offset).take (P.cellsOf f.type)) = xs[i]?) → ((xs.map (·.1)).map B.f).sum ≤ N →
  cs.length = off + (fs.map fun f => P.cellsOf f.type).sum →
  ∃ x, rH w (cs.drop off) (cells x) ∧ wf x ∧ size x ≤ ((xs.map (·.1)).map B.f).sum
theorem vy.nil {N off : Nat} : vy B P N off [] (fun _ : Unit => []) (fun _ => True) (fun _ => 0) := by
 intro H enc w base spare held n cs xs hl h hN hc
 refine ⟨(), ?_, trivial, Nat.zero_le _⟩
 have : cs.drop off = [] := by simp at hc ⊢; omega
 rw [this]
 exact .nil
theorem vy.cons {N off : Nat} {f : Field} {fs : List Field} {α β : Type} {c1 : α → List PV} {w1 : α → Prop} {s1 : α → Nat} {c2 : β → List PV} {w2 : β → Prop} {s2 : β → Nat} (ho : f.offset = off) (hc : ∀ x, (c1 x).length = P.cellsOf f.type)
  (h : mb B P N f.type c1 w1 s1) (k : vy B P N (off + P.cellsOf f.type) fs c2 w2 s2) : vy B P N off (f :: fs) (fun p : α × β => c1 p.1 ++ c2 p.2) (fun p => w1 p.1 ∧ w2 p.2) (fun p => s1 p.1 + s2 p.2) := by
 intro H enc w base spare held n cs xs hl hx hN hlen
 match xs, hl with
 | z :: zs, hl =>
  simp only [List.map_cons, List.sum_cons] at hN hlen ⊢
  have h0 := hx 0 f rfl
  obtain ⟨x, a1, a2, a3⟩ := h (d := z.1) (ps := z.2) h0 (by omega)
  obtain ⟨y, b1, b2, b3⟩ := k (xs := zs) (cs := cs) (by simpa using hl) (fun i g hg => hx (i + 1) g (by simpa using hg)) (by omega) (by omega)
  refine ⟨(x, y), ?_, ⟨a2, b2⟩, by simp only; omega⟩
  rw [ho] at a1
  refine rH.app (n := P.cellsOf f.type) a1 ?_ (hc x)
  rw [List.drop_drop]
  exact b1
theorem mb.struct {N : Nat} {t : TypeId} {fs : Array Field} {α β : Type} {c : β → List PV} {wf : β → Prop} {s : β → Nat} {cells : α → List PV} {wf' : α → Prop} {size : α → Nat} (ht : P.underlying t = some (.struct fs)) (hsz : P.cellsOf t = 0 + (fs.toList.map fun f => P.cellsOf f.type).sum)
  (h : ∀ N', N' < N → vy B P N' 0 fs.toList c wf s) (mk : β → α) (h1 : ∀ y, cells (mk y) = c y) (h2 : ∀ y, wf y → wf' (mk y)) (h3 : ∀ y, size (mk y) ≤ s y + 1) : mb B P N t cells wf' size := by
 intro H enc w base spare held gw cs d ps hd hN
 obtain ⟨xs, n, _, hx, hlen, hxl, hf⟩ := DataW.trod_struct ht hd
 simp only [Prod.mk.injEq] at hx
 obtain ⟨rfl, rfl⟩ := hx
 have hag := B.ag (xs.map (·.1))
 obtain ⟨y, a1, a2, a3⟩ := h _ (show ((xs.map (·.1)).map B.f).sum < N by omega) (xs := xs) (cs := cs) (by simpa using hxl) (fun i f hi => hf i f (by simpa using hi)) (Nat.le_refl _) (hlen.trans hsz)
 refine ⟨mk y, ?_, h2 y a2, ?_⟩
 ·rw [h1]; simpa using a1
 ·have := h3 y; omega
theorem mb.conv {N : Nat} {t : TypeId} {α : Type} {c c' : α → List PV} {wf wf' : α → Prop} {s s' : α → Nat} (h : mb B P N t c wf s) (h1 : ∀ x, c' x = c x) (h2 : ∀ x, wf x → wf' x) (h3 : ∀ x, s' x ≤ s x) : mb B P N t c' wf' s' := by
 intro H enc w base spare held gw cs d ps hd hN
 obtain ⟨x, a1, a2, a3⟩ := h hd hN
 exact ⟨x, by rw [h1]; exact a1, h2 x a2, Nat.le_trans (h3 x) a3⟩
end
theorem fk.toVRel {w : World} {v : Value} {p : PV} (h : fk CS w v p) : cy ⟨fun _ => none, fun _ => False⟩ w [] v (.pv p) :=
 .pv v p (h.mono (Nat.le_refl _) (fun b _ _ => ⟨rfl, fun hm => by
  rcases hm with hm | ⟨id, o, h1, _, _⟩
  ·exact hm
  ·simp at h1⟩))
theorem I8 {w : World} {v : Value} {p : PV} (h : rH w [v] [p]) : aL ⟨fun _ => none, fun _ => False⟩ w [] v (.one (.pv p)) := .one _ _ (h.2 0 v p rfl rfl).toVRel
theorem Ls {w : World} {cs : List Value} {ps : List PV} (h : rH w cs ps) : aL ⟨fun _ => none, fun _ => False⟩ w [] (.agg cs.toArray) (.ag (ps.map .pv)) := by
 refine .ag _ _ ⟨by simpa using h.1, fun j v c h1 h2 => ?_⟩
 rw [List.getElem?_map, Option.map_eq_some_iff] at h2
 obtain ⟨p, h2, rfl⟩ := h2
 exact (h.2 j v p h1 h2).toVRel
theorem zi {B : wR} {P : Program} {H : Type} {enc : TypeId × Value → H} {w : World} {base b0 : Nat} {spare : Nat → Bool} {held : Bool} {r : Reach} {t : TypeId} {v : Value} {d : DataW H} {ps : List MemPlace} {α : Type} {cells : α → List PV} {wf : α → Prop} {size : α → Nat}
  (h : ∀ N, mb B P N t cells wf size) (hval : Value.okWide P w r b0 t v) (hd : DataW.Trod enc P w base spare held t v d ps) :
  ∃ x, rH w v.cells.toList (cells x) ∧ wf x ∧ size x ≤ B.f d := by
 obtain ⟨gw, hd⟩ := hd
 exact h _ hd (Nat.le_refl _)
theorem GP {P : Program} {w : World} {r : Reach} {b0 : Nat} {t : TypeId} {v : Value} {fs : Array Field} (ht : P.underlying t = some (.struct fs)) (hval : Value.okWide P w r b0 t v) : v = .agg v.cells := by
 simp only [Value.okWide, ht] at hval
 obtain ⟨cs, rfl, _⟩ := hval
 rfl
theorem Ey {w : World} {v : Value} {ps : List PV} (hv : v = .agg v.cells) (h : rH w v.cells.toList ps) : aL ⟨fun _ => none, fun _ => False⟩ w [] v (.ag (ps.map .pv)) := by
 have := Ls h
 rw [hv]
 simpa [Value.cells] using this
theorem DC {w : World} {v : Value} {p : PV} (h : rH w v.cells.toList [p]) (hv : ∀ cs, v ≠ .agg cs) : aL ⟨fun _ => none, fun _ => False⟩ w [] v (.one (.pv p)) := by
 have e : v.cells = #[v] := by cases v <;> first | rfl | exact absurd rfl (hv _)
 rw [e] at h
 exact I8 h
theorem FG {P : Program} {w : World} {r : Reach} {b0 : Nat} {t : TypeId} {v : Value} (ht : (match P.underlying t with | some (.int _) => true | some .bool => true | some .string => true | some (.slice _) => true | _ => false) = true) (hval : Value.okWide P w r b0 t v) : ∀ cs, v ≠ .agg cs := by
 rintro cs rfl
 cases hu : P.underlying t with
 | none => simp [hu] at ht
 | some d =>
  cases d <;> simp [hu] at ht <;> simp [Value.okWide, hu, Cell.okWide, Cell.ok] at hval
structure D7 (w w' : World) : Prop where
 os : w'.os = w.os
 output : w'.output = w.output
 size : w.heap.size ≤ w'.heap.size
 blk : ∀ b : Nat, b < w.heap.size → w'.heap[b]? = w.heap[b]?
theorem PC.call {P : Program} {f : Nat} {args : List AV} {r : AV} (h : PC P f args r) {w : World} {vs : List Value} (hl : vs.length = args.length) (hA : ∀ (j : Nat) v a, vs[j]? = some v → args[j]? = some a → aL ⟨fun _ => none, fun _ => False⟩ w [] v a) (hg : ∀ (b : Nat) (l : List Value), Cf b = some l → b < w.heap.size ∧ ∀ (i : Nat) v, l[i]? = some v → w.cell? ⟨b, i, none⟩ = some v) :
  Calls P f vs.toArray w fun e w' => ∃ v ι', e = .returned v ∧ aL ι' w' [] v r ∧ D7 w w' := by
 refine (h ⟨fun _ => none, fun _ => False⟩ w vs ⟨fun id o h => by simp at h, fun b h => h.elim, fun b h => fun h' => h', fun id id' o o' b h => by simp at h, fun b o h => ⟨fun hm => hm.elim id (fun ⟨_, _, h1, _⟩ => by simp at h1), hg b o h⟩⟩ ⟨hl, hA⟩).mono ?_
 rintro e w' ⟨v, av, st', ι', rfl, ⟨rfl, rfl⟩, hR, hv, k⟩
 refine ⟨v, ι', rfl, hv, k.os, k.output, k.size, fun b hb => (k.blk b hb ?_).1⟩
 rintro ⟨id, o, h1, _⟩
 simp at h1
theorem D7.keptBut {w w' : World} (k : D7 w w') (may : MemPlace → Prop) : w.keptBut w' may := by
 refine ⟨k.os, k.output, fun i hi => ?_⟩
 rw [k.blk i hi]
 have : w.heap[i]? = some w.heap[i] := Array.getElem?_eq_getElem hi
 rw [this]
 cases w.heap[i] with
 | cells c t fr => exact ⟨rfl, rfl, rfl, fun _ _ => rfl⟩
 | map es clock => exact .inr ⟨rfl, rfl⟩
 | _ => rfl
theorem D7.frozen {w w' : World} (k : D7 w w') {b off : Nat} (hb : b < w.heap.size) : w'.frozen? ⟨b, off, none⟩ = w.frozen? ⟨b, off, none⟩ := by
 simp [World.frozen?, k.blk b hb]
open Go.ChangeShapes Go.WideElems Go.WideShapes in
theorem At {H : Type} {enc : TypeId × Value → H} {P : Program} {W W' : World} (hl : laidOutB P = true) (k : D7 W W') {sp : Nat → Bool} : ∀ {ts : List TypeId} {vs : List Value} {ds : List (DataW H)} {ps : List MemPlace}, (ts.all fun t => P.readableRec t && Nat.ble (t + 1) P.types.size) = true →
  DataW.TrodAll enc P W 0 (fun _ => true) true ts vs ds ps → (∀ p ∈ ps, p.block < W.heap.size) → (∀ p ∈ ps, sp p.block = true) → DataW.TrodAll enc P W' 0 sp true ts vs ds ps
 | [], _, _, _, _, h, _, _ => by
  obtain ⟨rfl, rfl, rfl⟩ := trodAll_nil h
  exact rfl
 | t :: ts, _, _, _, hr, h, hp, hs => by
  obtain ⟨v, vs1, d, ds1, a, b, rfl, rfl, rfl, h1, h2⟩ := trodAll_cons h
  simp only [List.all_cons, Bool.and_eq_true] at hr
  refine ⟨a, b, Trod_stays hl hr.1.1 (Nat.le_of_ble_eq_true hr.1.2) h1 (fun p hpa => ?_) (fun p hpa => hs p (by simp [hpa])), At hl k hr.2 h2 (fun p hpa => hp p (by simp [hpa])) (fun p hpa => hs p (by simp [hpa])), rfl⟩
  have := hp p (by simp [hpa])
  cases p with
  | cell b off => exact cell?_same (k.blk b this)
  | map b => exact k.blk b this
open Go.ChangeShapes Go.RowKit Go.WideShapes Go.ChangeAt in
theorem Ga {H : Type} {enc : TypeId × Value → H} {P : Program} {f : Func} {s : ChangeSpec} {apart fresh handsOn again : Bool} {W W' : World} {args : Array Value} {ds gs : List (DataW H)} {before : List MemPlace}
  (hW : DataW.Whole enc P f.params.toList s.vars apart W args.toList ds gs before) (hl : laidOutB P = true) (hr : (f.params.toList.all fun t => P.readableRec t && Nat.ble (t + 1) P.types.size) = true) (k : D7 W W')
  (hvars : s.vars = []) (t : TypeId) (ht : f.resultTypes = #[t]) (hb : P.underlying t = some .bool) (hsp : s.fn H ds = { results := [.lit (.bool true)], args := ds }) :
  s.post enc P f apart fresh handsOn again W args (.bool true) W' := by
 have hW' := hW
 have hlt : ∀ p ∈ before, p.block < W.heap.size := fun p hp => hW.lt p hp
 obtain ⟨p, q, hA, hV, rfl, hz, hn⟩ := hW'
 rw [hvars] at hV
 obtain ⟨rfl, rfl⟩ := trodVars_none hV
 have hres : ∀ (b : Nat) (sp : Nat → Bool) (hd : Bool), DataW.TrodAll enc P W' b sp hd f.resultTypes.toList ((Value.bool true).resultList f.resultTypes.size) [.lit (.bool true)] [] := by
  intro b sp hd
  rw [ht]
  exact trodAll_cons_mk (shut_bool hb _) trodAll_mk0
 simp only [List.append_nil] at *
 have hargs : ∀ sp : Nat → Bool, (∀ x ∈ p, sp x.block = true) → DataW.TrodAll enc P W' 0 sp true f.params.toList args.toList ds p := fun sp hs => At hl k hr hA hlt hs
 have hold : ∀ x ∈ p, (fun b => decide (b < W.heap.size)) x.block = true := fun x hx => by simpa using hlt x hx
 refine ⟨ds, [], p, [], p, [], by simpa using hW, ?_, ?_, ?_, k.keptBut _, fun _ => ⟨?_, [.lit (.bool true)] ++ ds, [], p, ⟨p, [], ?_, ?_, by simp, ?_, hn⟩, ?_⟩⟩
 ·simp only [List.append_nil, hsp]; exact hres _ _ _
 ·simp only [List.append_nil, hsp]; exact hargs _ hold
 ·simp only [List.append_nil, hsp, hvars]; rfl
 ·exact ok_one ht rfl (okWide_bool_mk hb _)
 ·have := trodAll_append (hargs (fun _ => true) (fun _ _ => rfl)) (hres 0 (fun _ => true) true)
  simpa using this
 ·rw [hvars]; rfl
 ·intro b off hp
  rw [k.frozen (b := b) (off := off) (hlt _ hp)]
  exact hz b off hp
 ·intro x hx _; exact hx
theorem I9 {ι : IM} {w : World} {v : Value} {b : Bool} (h : aL ι w [] v (.one (.pv (.s (.bool b))))) : v = .bool b := by
 cases h with
 | one _ _ h =>
  cases h with
  | pv _ _ h => cases h with | s => rfl
end Go.SX
namespace Go.SX
open Go
def fieldsOf (P : Program) (t : TypeId) : List Field := match P.underlying t with
 | some (.struct fs) => fs.toList
 | _ => []
def fg (P : Program) (t : TypeId) : Bool := match P.underlying t with
 | some (.struct _) => true
 | _ => false
def fld (P : Program) (t : TypeId) (i : Nat) : Field := (fieldsOf P t)[i]?.getD default
section
variable {B : wR} {P : Program}
theorem mb.structF {N : Nat} {t : TypeId} {L : List Field} {α β : Type} {c : β → List PV} {wf : β → Prop} {s : β → Nat} {cells : α → List PV} {wf' : α → Prop} {size : α → Nat} (hu : fg P t = true) (hL : fieldsOf P t = L) (hsz : P.cellsOf t = 0 + (L.map fun f => P.cellsOf f.type).sum)
  (h : ∀ N', N' < N → vy B P N' 0 L c wf s) (mk : β → α) (h1 : ∀ y, cells (mk y) = c y) (h2 : ∀ y, wf y → wf' (mk y)) (h3 : ∀ y, size (mk y) ≤ s y + 1) : mb B P N t cells wf' size := by
 unfold fg at hu
 unfold fieldsOf at hL
 cases hd : P.underlying t with
 | none => simp [hd] at hu
 | some d =>
  cases d <;> simp [hd] at hu
  rename_i fs
  simp only [hd] at hL
  subst hL
  exact mb.struct hd hsz h mk h1 h2 h3
theorem Ew {w : World} {r : Reach} {b0 : Nat} {t : TypeId} {v : Value} (hu : fg P t = true) (hval : Value.okWide P w r b0 t v) : v = .agg v.cells := by
 unfold fg at hu
 cases hd : P.underlying t with
 | none => simp [hd] at hu
 | some d =>
  cases d <;> simp [hd] at hu
  exact GP hd hval
end
end Go.SX
namespace Go.SX
open Go
theorem Ct {B : wR} {P : Program} (t i : TypeId) (hi : P.underlying i = some (.int .i64)) (hu : fg P t = true) (hL : fieldsOf P t = [fld P t 0, fld P t 1]) (hs : P.cellsOf t = 2) (h1 : P.cellsOf i = 1)
  (ht : (fld P t 0).type = i ∧ (fld P t 1).type = i) (ho : (fld P t 0).offset = 0 ∧ (fld P t 1).offset = 1) (N : Nat) :
  mb B P N t (fun c : aR => [pi c.kind, pi c.param]) (fun _ => True) (fun _ => 1) := by
 obtain ⟨t0, t1⟩ := ht
 obtain ⟨o0, o1⟩ := ho
 have I : ∀ (N : Nat) (f : Field), f.type = i → mb B P N f.type (fun n : Int => [.s (.int .i64 n)]) (fun n => IntKind.min .i64 ≤ n ∧ n ≤ IntKind.max .i64) (fun _ => 1) := fun N f hf => mb.int (by rw [hf]; exact hi)
 have C : ∀ (f : Field), f.type = i → ∀ x : Int, ([PV.s (.int .i64 x)] : List PV).length = P.cellsOf f.type := fun f hf x => by rw [hf, h1]; rfl
 refine mb.structF (α := aR) (cells := fun c : aR => [pi c.kind, pi c.param]) (wf' := fun _ => True) (size := fun _ => 1) hu hL (by simp [t0, t1, h1, hs]) (fun N' _ => vy.cons o0 (C _ t0) (I N' _ t0) (vy.cons (by rw [o1, t0, h1]) (C _ t1) (I N' _ t1) vy.nil))
  (fun y => (⟨y.1, y.2.1⟩ : aR)) (fun y => rfl) (fun _ _ => trivial) (fun y => by simp)
end Go.SX
namespace Go.SX
open Go
theorem Dd {B : wR} {P : Program} (tf tt ti : TypeId) (hi : P.underlying ti = some (.int .i64)) (hu : fg P tf = true) (hu' : fg P tt = true) (hL : fieldsOf P tf = [fld P tf 0, fld P tf 1]) (hL' : fieldsOf P tt = [fld P tt 0, fld P tt 1]) (hz : P.cellsOf tf = 3 ∧ P.cellsOf tt = 2 ∧ P.cellsOf ti = 1)
  (ht : (fld P tf 0).type = ti ∧ (fld P tf 1).type = tt ∧ (fld P tt 0).type = ti ∧ (fld P tt 1).type = ti) (ho : (fld P tf 0).offset = 0 ∧ (fld P tf 1).offset = 1 ∧ (fld P tt 0).offset = 0 ∧ (fld P tt 1).offset = 1) (N : Nat) :
  mb B P N tf EK (fun _ => True) (fun _ => 1) := by
 obtain ⟨t0, t1, t2, t3⟩ := ht
 obtain ⟨o0, o1, o2, o3⟩ := ho
 obtain ⟨z0, z1, z2⟩ := hz
 have I : ∀ (N : Nat) (f : Field), f.type = ti → mb B P N f.type (fun n : Int => [.s (.int .i64 n)]) (fun n => IntKind.min .i64 ≤ n ∧ n ≤ IntKind.max .i64) (fun _ => 1) := fun N f hf => mb.int (by rw [hf]; exact hi)
 have C : ∀ (f : Field), f.type = ti → ∀ x : Int, ([PV.s (.int .i64 x)] : List PV).length = P.cellsOf f.type := fun f hf x => by rw [hf, z2]; rfl
 have T : ∀ N, mb B P N (fld P tf 1).type (fun c : aR => [pi c.kind, pi c.param]) (fun _ => True) (fun _ => 1) := fun N => by
  rw [t1]; exact Ct tt ti hi hu' hL' z1 z2 ⟨t2, t3⟩ ⟨o2, o3⟩ N
 refine mb.structF (α := bk) (cells := EK) (wf' := fun _ => True) (size := fun _ => 1) hu hL (by simp [t0, t1, z0, z1, z2]) (fun N' _ =>
  vy.cons o0 (C _ t0) (I N' _ t0) (vy.cons (c1 := fun c : aR => [pi c.kind, pi c.param]) (by rw [o1, t0, z2]) (fun x => by rw [t1, z1]; rfl) (T N') vy.nil))
  (fun y => (⟨y.1, y.2.1⟩ : bk)) (fun y => rfl) (fun _ _ => trivial) (fun y => by simp)
theorem Kr {B : wR} {P : Program} (t tl tf tt ti : TypeId) (hl : P.underlying tl = some (.slice tf)) (h0 : fg P t = true) (hL0 : fieldsOf P t = [fld P t 0]) (hz0 : P.cellsOf t = 1 ∧ P.cellsOf tl = 1) (ht0 : (fld P t 0).type = tl) (ho0 : (fld P t 0).offset = 0)
  (hi : P.underlying ti = some (.int .i64)) (hu : fg P tf = true) (hu' : fg P tt = true) (hL : fieldsOf P tf = [fld P tf 0, fld P tf 1]) (hL' : fieldsOf P tt = [fld P tt 0, fld P tt 1]) (hz : P.cellsOf tf = 3 ∧ P.cellsOf tt = 2 ∧ P.cellsOf ti = 1)
  (ht : (fld P tf 0).type = ti ∧ (fld P tf 1).type = tt ∧ (fld P tt 0).type = ti ∧ (fld P tt 1).type = ti) (ho : (fld P tf 0).offset = 0 ∧ (fld P tf 1).offset = 1 ∧ (fld P tt 0).offset = 0 ∧ (fld P tt 1).offset = 1) (N : Nat) :
  mb B P N t (fun x : fq => [PV.ro (aK.els x.fields)]) (fun _ => True) (fun x => x.fields.length) := by
 have hS : ∀ N, mb B P N (fld P t 0).type (fun xs : List bk => [PV.ro (xs.map EK)]) (fun xs => ∀ x ∈ xs, True) (fun xs => (xs.map fun _ => 1).sum + 1) := fun N => by
  rw [ht0]; exact mb.slice (e := tf) (cells := EK) hl (fun x => by rw [hz.1]; rfl) (by rw [hz.1]; omega) (fun N' _ => Dd tf tt ti hi hu hu' hL hL' hz ht ho N')
 refine mb.structF (α := fq) (cells := fun x : fq => [PV.ro (aK.els x.fields)]) (wf' := fun _ => True) (size := fun x => x.fields.length) h0 hL0 (by simp [ht0, hz0]) (fun N' _ =>
  vy.cons (c1 := fun xs : List bk => [PV.ro (xs.map EK)]) ho0 (fun x => by rw [ht0, hz0.2]; rfl) (hS N') vy.nil)
  (fun y => (⟨y.1⟩ : fq)) (fun y => ?_) (fun _ _ => trivial) (fun y => ?_)
 ·show [PV.ro (aK.els y.1)] = [PV.ro (y.1.map EK)] ++ []
  rw [aK.hels]; rfl
 ·show y.1.length ≤ (y.1.map fun _ => 1).sum + 1 + 0 + 1
  have : ∀ l : List bk, (l.map fun _ => 1).sum = l.length := fun l => by induction l with
   | nil => rfl
   | cons a l ih => simp only [List.map_cons, List.sum_cons, List.length_cons, ih]; omega
  rw [this]; omega
end Go.SX
namespace Go.SX
open Go
abbrev oi (n : Int) : Prop := IntKind.min .i64 ≤ n ∧ n ≤ IntKind.max .i64
theorem JM {B : wR} {P : Program} {wf : ac → Prop} {sz : ac → Nat} (tv ti ts tl : TypeId) (hi : P.underlying ti = some (.int .i64)) (hs : P.underlying ts = some .string) (hl : P.underlying tl = some (.slice tv)) (hu : fg P tv = true)
  (hL : fieldsOf P tv = [fld P tv 0, fld P tv 1, fld P tv 2, fld P tv 3, fld P tv 4]) (hz : P.cellsOf tv = 5 ∧ P.cellsOf ti = 1 ∧ P.cellsOf ts = 1 ∧ P.cellsOf tl = 1)
  (ht : (fld P tv 0).type = ti ∧ (fld P tv 1).type = ti ∧ (fld P tv 2).type = ti ∧ (fld P tv 3).type = ts ∧ (fld P tv 4).type = tl)
  (ho : (fld P tv 0).offset = 0 ∧ (fld P tv 1).offset = 1 ∧ (fld P tv 2).offset = 2 ∧ (fld P tv 3).offset = 3 ∧ (fld P tv 4).offset = 4)
  (hwf : ∀ k n sc s it, oi k → oi n → oi sc → (∀ x ∈ it, wf x) → wf ⟨k, n, sc, s, it⟩) (hsz : ∀ k n sc s it, sz ⟨k, n, sc, s, it⟩ ≤ s.size + (it.map sz).sum + 6) :
  ∀ N, mb B P N tv ac.cells wf sz := by
 obtain ⟨t0, t1, t2, t3, t4⟩ := ht
 obtain ⟨o0, o1, o2, o3, o4⟩ := ho
 obtain ⟨z0, z1, z2, z3⟩ := hz
 intro N
 induction N using Nat.strongRecOn with
 | _ N ih =>
  have I : ∀ (N : Nat) (f : Field), f.type = ti → mb B P N f.type (fun n : Int => [PV.s (.int .i64 n)]) (fun n => IntKind.min .i64 ≤ n ∧ n ≤ IntKind.max .i64) (fun _ => 1) := fun N f hf => mb.int (by rw [hf]; exact hi)
  have C : ∀ (f : Field), f.type = ti → ∀ x : Int, ([PV.s (.int .i64 x)] : List PV).length = P.cellsOf f.type := fun f hf x => by rw [hf, z1]; rfl
  refine mb.structF (α := ac) (cells := ac.cells) (wf' := wf) (size := sz) hu hL (by simp [t0, t1, t2, t3, t4, z0, z1, z2, z3]) (fun N' hN' =>
   vy.cons o0 (C _ t0) (I N' _ t0) (vy.cons (by rw [o1, t0, z1]) (C _ t1) (I N' _ t1) (vy.cons (by rw [o2, t0, t1, z1]) (C _ t2) (I N' _ t2)
    (vy.cons (c1 := fun s : ByteArray => [PV.s (.string s)]) (by rw [o3, t0, t1, t2, z1]) (fun x => by rw [t3, z2]; rfl) (mb.str (by rw [t3]; exact hs))
     (vy.cons (c1 := fun xs : List ac => [PV.ro (xs.map ac.cells)]) (by rw [o4, t0, t1, t2, t3, z1, z2]) (fun x => by rw [t4, z3]; rfl)
      (mb.slice (e := tv) (by rw [t4]; exact hl) (fun x => by rw [z0]; cases x; rfl) (by omega) (fun N'' hN'' => ih N'' (by omega))) vy.nil)))))
   (fun y => (⟨y.1, y.2.1, y.2.2.1, y.2.2.2.1, y.2.2.2.2.1⟩ : ac)) (fun y => ?_) (fun y h => hwf _ _ _ _ _ h.1 h.2.1 h.2.2.1 h.2.2.2.2.1) (fun y => ?_)
  ·simp only [ac.cells, ac.lcells_eq]
   rfl
  ·have := hsz y.1 y.2.1 y.2.2.1 y.2.2.2.1 y.2.2.2.2.1
   exact Nat.le_trans this (by show _ ≤ 1 + (1 + (1 + ((y.2.2.2.1).size + 1 + ((y.2.2.2.2.1.map sz).sum + 1 + 0)))) + 1; omega)
end Go.SX
namespace Go.SX
open Go
theorem E9 {B : wR} {P : Program} {wfT : aq → Prop} {szT : aq → Nat} {wfF : ah → Prop} {szF : ah → Nat} (tt tf ti ts tb : TypeId) (hi : P.underlying ti = some (.int .i64)) (hs : P.underlying ts = some .string) (hb : P.underlying tb = some .bool) (hu : fg P tf = true)
  (hL : fieldsOf P tf = [fld P tf 0, fld P tf 1, fld P tf 2, fld P tf 3]) (hz : P.cellsOf tf = 6 ∧ P.cellsOf tt = 3 ∧ P.cellsOf ti = 1 ∧ P.cellsOf ts = 1 ∧ P.cellsOf tb = 1)
  (ht : (fld P tf 0).type = ti ∧ (fld P tf 1).type = ts ∧ (fld P tf 2).type = tb ∧ (fld P tf 3).type = tt)
  (ho : (fld P tf 0).offset = 0 ∧ (fld P tf 1).offset = 1 ∧ (fld P tf 2).offset = 2 ∧ (fld P tf 3).offset = 3)
  (hwf : ∀ i n q t, oi i → wfT t → wfF ⟨i, n, q, t⟩) (hsz : ∀ i n q t, szF ⟨i, n, q, t⟩ ≤ n.size + szT t + 4) {N : Nat} (ih : ∀ N', N' < N → mb B P N' tt aq.cells wfT szT) :
  mb B P N tf aq.fcell wfF szF := by
 obtain ⟨t0, t1, t2, t3⟩ := ht
 obtain ⟨o0, o1, o2, o3⟩ := ho
 obtain ⟨z0, z1, z2, z3, z4⟩ := hz
 refine mb.structF (α := ah) (cells := aq.fcell) (wf' := wfF) (size := szF) hu hL (by simp [t0, t1, t2, t3, z0, z1, z2, z3, z4]) (fun N' hN' =>
  vy.cons (c1 := fun n : Int => [PV.s (.int .i64 n)]) o0 (fun x => by rw [t0, z2]; rfl) (mb.int (by rw [t0]; exact hi))
   (vy.cons (c1 := fun s : ByteArray => [PV.s (.string s)]) (by rw [o1, t0, z2]) (fun x => by rw [t1, z3]; rfl) (mb.str (by rw [t1]; exact hs))
    (vy.cons (c1 := fun b : Bool => [PV.s (.bool b)]) (by rw [o2, t0, t1, z2, z3]) (fun x => by rw [t2, z4]; rfl) (mb.bool (by rw [t2]; exact hb))
     (vy.cons (c1 := aq.cells) (by rw [o3, t0, t1, t2, z2, z3, z4]) (fun x => by rw [t3, z1]; cases x; rfl) (by rw [t3]; exact ih N' hN') vy.nil))))
  (fun y => (⟨y.1, y.2.1, y.2.2.1, y.2.2.2.1⟩ : ah)) (fun y => ?_) (fun y h => hwf _ _ _ _ h.1 h.2.2.2.1) (fun y => ?_)
 ·simp only [aq.fcell, List.append_nil]
  rfl
 ·have := hsz y.1 y.2.1 y.2.2.1 y.2.2.2.1
  exact Nat.le_trans this (by show _ ≤ 1 + ((y.2.1).size + 1 + (1 + (szT y.2.2.2.1 + 0))) + 1; omega)
theorem La {B : wR} {P : Program} {wfT : aq → Prop} {szT : aq → Nat} {wfF : ah → Prop} {szF : ah → Nat} (tt tf ti ts tb tl : TypeId) (hi : P.underlying ti = some (.int .i64)) (hs : P.underlying ts = some .string) (hb : P.underlying tb = some .bool)
  (hl : P.underlying tl = some (.slice tf)) (hu : fg P tf = true) (hu' : fg P tt = true)
  (hL : fieldsOf P tf = [fld P tf 0, fld P tf 1, fld P tf 2, fld P tf 3]) (hL' : fieldsOf P tt = [fld P tt 0, fld P tt 1, fld P tt 2]) (hz : P.cellsOf tf = 6 ∧ P.cellsOf tt = 3 ∧ P.cellsOf ti = 1 ∧ P.cellsOf ts = 1 ∧ P.cellsOf tb = 1) (hzl : P.cellsOf tl = 1)
  (ht : (fld P tf 0).type = ti ∧ (fld P tf 1).type = ts ∧ (fld P tf 2).type = tb ∧ (fld P tf 3).type = tt)
  (ho : (fld P tf 0).offset = 0 ∧ (fld P tf 1).offset = 1 ∧ (fld P tf 2).offset = 2 ∧ (fld P tf 3).offset = 3)
  (ht' : (fld P tt 0).type = ti ∧ (fld P tt 1).type = ti ∧ (fld P tt 2).type = tl)
  (ho' : (fld P tt 0).offset = 0 ∧ (fld P tt 1).offset = 1 ∧ (fld P tt 2).offset = 2)
  (hwf : ∀ i n q t, oi i → wfT t → wfF ⟨i, n, q, t⟩) (hsz : ∀ i n q t, szF ⟨i, n, q, t⟩ ≤ n.size + szT t + 4)
  (hwf' : ∀ k s fs, oi k → oi s → (∀ f ∈ fs, wfF f) → wfT ⟨k, s, fs⟩) (hsz' : ∀ k s fs, szT ⟨k, s, fs⟩ ≤ (fs.map szF).sum + 4) :
  ∀ N, mb B P N tt aq.cells wfT szT := by
 intro N
 induction N using Nat.strongRecOn with
 | _ N ih =>
  have hF : ∀ N', N' ≤ N → mb B P N' tf aq.fcell wfF szF := fun N' h => E9 tt tf ti ts tb hi hs hb hu hL hz ht ho hwf hsz (fun N'' h'' => ih N'' (by omega))
  obtain ⟨t0, t1, t2⟩ := ht'
  obtain ⟨o0, o1, o2⟩ := ho'
  obtain ⟨z0, z1, z2, z3, z4⟩ := hz
  refine mb.structF (α := aq) (cells := aq.cells) (wf' := wfT) (size := szT) hu' hL' (by simp [t0, t1, t2, z1, z2, hzl]) (fun N' hN' =>
   vy.cons (c1 := fun n : Int => [PV.s (.int .i64 n)]) o0 (fun x => by rw [t0, z2]; rfl) (mb.int (by rw [t0]; exact hi))
    (vy.cons (c1 := fun n : Int => [PV.s (.int .i64 n)]) (by rw [o1, t0, z2]) (fun x => by rw [t1, z2]; rfl) (mb.int (by rw [t1]; exact hi))
     (vy.cons (c1 := fun xs : List ah => [PV.ro (xs.map aq.fcell)]) (by rw [o2, t0, t1, z2]) (fun x => by rw [t2, hzl]; rfl)
      (mb.slice (e := tf) (by rw [t2]; exact hl) (fun x => by rw [z0]; obtain ⟨_, _, _, ⟨_, _, _⟩⟩ := x; rfl) (by omega) (fun N'' hN'' => hF N'' (by omega))) vy.nil)))
   (fun y => (⟨y.1, y.2.1, y.2.2.1⟩ : aq)) (fun y => ?_) (fun y h => hwf' _ _ _ h.1 h.2.1 h.2.2.1) (fun y => ?_)
  ·simp only [aq.cells, aq.fcells_eq]
   rfl
  ·have := hsz' y.1 y.2.1 y.2.2.1
   exact Nat.le_trans this (by show _ ≤ 1 + (1 + ((y.2.2.1.map szF).sum + 1 + 0)) + 1; omega)
end Go.SX
namespace Go.SX
open Go
theorem IG {B : wR} {P : Program} {wfT : aq → Prop} {szT : aq → Nat} {wfF : ah → Prop} {szF : ah → Nat} {szL : List ah → Nat} (tt tf ti ts tb tl : TypeId) (hi : P.underlying ti = some (.int .i64)) (hs : P.underlying ts = some .string) (hb : P.underlying tb = some .bool)
  (hl : P.underlying tl = some (.slice tf)) (hu : fg P tf = true) (hu' : fg P tt = true)
  (hL : fieldsOf P tf = [fld P tf 0, fld P tf 1, fld P tf 2, fld P tf 3]) (hL' : fieldsOf P tt = [fld P tt 0, fld P tt 1, fld P tt 2]) (hz : P.cellsOf tf = 6 ∧ P.cellsOf tt = 3 ∧ P.cellsOf ti = 1 ∧ P.cellsOf ts = 1 ∧ P.cellsOf tb = 1) (hzl : P.cellsOf tl = 1)
  (ht : (fld P tf 0).type = ti ∧ (fld P tf 1).type = ts ∧ (fld P tf 2).type = tb ∧ (fld P tf 3).type = tt)
  (ho : (fld P tf 0).offset = 0 ∧ (fld P tf 1).offset = 1 ∧ (fld P tf 2).offset = 2 ∧ (fld P tf 3).offset = 3)
  (ht' : (fld P tt 0).type = ti ∧ (fld P tt 1).type = ti ∧ (fld P tt 2).type = tl)
  (ho' : (fld P tt 0).offset = 0 ∧ (fld P tt 1).offset = 1 ∧ (fld P tt 2).offset = 2)
  (hwf : ∀ i n q t, oi i → wfT t → wfF ⟨i, n, q, t⟩) (hsz : ∀ i n q t, szF ⟨i, n, q, t⟩ ≤ n.size + szT t + 4)
  (hwf' : ∀ k s fs, oi k → oi s → (∀ f ∈ fs, wfF f) → wfT ⟨k, s, fs⟩) (hsz' : ∀ k s fs, szT ⟨k, s, fs⟩ ≤ (fs.map szF).sum + 4) (hszl : ∀ xs, szL xs ≤ (xs.map szF).sum + 1) (N : Nat) :
  mb B P N tl (fun xs : List ah => [PV.ro (ap.els xs)]) (fun xs => ∀ x ∈ xs, wfF x) szL := by
 have hT := La (B := B) (P := P) tt tf ti ts tb tl hi hs hb hl hu hu' hL hL' hz hzl ht ho ht' ho' hwf hsz hwf' hsz'
 have hF : ∀ N, mb B P N tf aq.fcell wfF szF := fun N => E9 tt tf ti ts tb hi hs hb hu hL hz ht ho hwf hsz (fun N' _ => hT N')
 refine mb.conv (mb.slice (e := tf) (cells := aq.fcell) hl (fun x => by rw [hz.1]; obtain ⟨_, _, _, ⟨_, _, _⟩⟩ := x; rfl) (by rw [hz.1]; omega) (fun N' _ => hF N')) (fun x => ?_) (fun x h => h) hszl
 show [PV.ro (aq.fcells x)] = _
 rw [aq.fcells_eq]
end Go.SX
namespace Go.SX
open Go
theorem HJ {B : wR} {P : Program} {wf : ac → Prop} {sz : ac → Nat} {szL : List ac → Nat} (tv ti ts tl : TypeId) (hi : P.underlying ti = some (.int .i64)) (hs : P.underlying ts = some .string) (hl : P.underlying tl = some (.slice tv)) (hu : fg P tv = true)
  (hL : fieldsOf P tv = [fld P tv 0, fld P tv 1, fld P tv 2, fld P tv 3, fld P tv 4]) (hz : P.cellsOf tv = 5 ∧ P.cellsOf ti = 1 ∧ P.cellsOf ts = 1 ∧ P.cellsOf tl = 1)
  (ht : (fld P tv 0).type = ti ∧ (fld P tv 1).type = ti ∧ (fld P tv 2).type = ti ∧ (fld P tv 3).type = ts ∧ (fld P tv 4).type = tl)
  (ho : (fld P tv 0).offset = 0 ∧ (fld P tv 1).offset = 1 ∧ (fld P tv 2).offset = 2 ∧ (fld P tv 3).offset = 3 ∧ (fld P tv 4).offset = 4)
  (hwf : ∀ k n sc s it, oi k → oi n → oi sc → (∀ x ∈ it, wf x) → wf ⟨k, n, sc, s, it⟩) (hsz : ∀ k n sc s it, sz ⟨k, n, sc, s, it⟩ ≤ s.size + (it.map sz).sum + 6) (hszl : ∀ xs, szL xs ≤ (xs.map sz).sum + 1) (N : Nat) :
  mb B P N tl (fun xs : List ac => [PV.ro (ak.els xs)]) (fun xs => ∀ x ∈ xs, wf x) szL := by
 have hV := JM (B := B) (P := P) tv ti ts tl hi hs hl hu hL hz ht ho hwf hsz
 refine mb.conv (mb.slice (e := tv) (cells := ac.cells) hl (fun x => by rw [hz.1]; cases x; rfl) (by rw [hz.1]; omega) (fun N' _ => hV N')) (fun x => ?_) (fun x h => h) hszl
 show [PV.ro (ac.lcells x)] = _
 rw [ac.lcells_eq]
end Go.SX
namespace Go.SX
open Go
theorem KY {B : wR} {P : Program} {wf : ac → Prop} {sz : ac → Nat} {szL : List ac → Nat} {szR : List (List ac) → Nat} (tr tv ti ts tl : TypeId) (hr : P.underlying tr = some (.slice tl)) (hi : P.underlying ti = some (.int .i64)) (hs : P.underlying ts = some .string) (hl : P.underlying tl = some (.slice tv)) (hu : fg P tv = true)
  (hL : fieldsOf P tv = [fld P tv 0, fld P tv 1, fld P tv 2, fld P tv 3, fld P tv 4]) (hz : P.cellsOf tv = 5 ∧ P.cellsOf ti = 1 ∧ P.cellsOf ts = 1 ∧ P.cellsOf tl = 1)
  (ht : (fld P tv 0).type = ti ∧ (fld P tv 1).type = ti ∧ (fld P tv 2).type = ti ∧ (fld P tv 3).type = ts ∧ (fld P tv 4).type = tl)
  (ho : (fld P tv 0).offset = 0 ∧ (fld P tv 1).offset = 1 ∧ (fld P tv 2).offset = 2 ∧ (fld P tv 3).offset = 3 ∧ (fld P tv 4).offset = 4)
  (hwf : ∀ k n sc s it, oi k → oi n → oi sc → (∀ x ∈ it, wf x) → wf ⟨k, n, sc, s, it⟩) (hsz : ∀ k n sc s it, sz ⟨k, n, sc, s, it⟩ ≤ s.size + (it.map sz).sum + 6) (hszl : ∀ xs, szL xs ≤ (xs.map sz).sum + 1) (hszr : ∀ xs, szR xs ≤ (xs.map szL).sum + 1) (N : Nat) :
  mb B P N tr (fun xs : List (List ac) => [PV.ro ((eL ak).els xs)]) (fun xs => ∀ r ∈ xs, ∀ x ∈ r, wf x) szR := by
 have hV := HJ (B := B) (P := P) (szL := szL) tv ti ts tl hi hs hl hu hL hz ht ho hwf hsz hszl
 refine mb.conv (mb.slice (e := tl) (cells := fun r : List ac => [PV.ro (ak.els r)]) hr (fun x => by rw [hz.2.2.2]; rfl) (by rw [hz.2.2.2]; omega) (fun N' _ => hV N')) (fun x => ?_) (fun x h => h) hszr
 rfl
end Go.SX
