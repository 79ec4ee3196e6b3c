/- SX: a machine that runs the program's code over frames up to the next event (a condition, a call, a list's operation); proofs name the events only. SX: the events' rules. SX: the events' rules, second part: objects. SX: the events' rules, third part: lists of our own. SX: the events' rules, fourth part: operations on lists of our own. SX: calls that yield a number and an error, which is only held against nil. SX: maps whose elements are of several cells, by events. Short forms for printed proofs: paths as numbers, joins, ways out. The program's data as Lean's, with their cells. SX: functions whose contract is given over plain worlds; utf8.ValidString by the shelf's contract. SX: functions that the model stands in for, at any arguments; bytes.Compare. SX: the way from a given row to a contract of pure values: reading the arguments, and closing the row. SX: readings of structs by the program's own fields. SX: a struct of two integers, read. SX: a specification, read. SX: readings of values and types. Types out of rows. Lists of fields out of rows. Lists of values, of numbers, of bytes out of rows. Lists of lists of values out of rows. -/
import Derived.Shelf.Unicode.ValidAny
import Derived.Lib.Bytealg
import Derived.OpenShut
import Derived.JoinedCond
import Derived.WideKeyArgs
import Derived.Test.YtfnmbpecdjncfaaGreatDoorSxB
set_option linter.unusedVariables false
set_option linter.unusedSimpArgs false
set_option linter.unnecessarySimpa false
namespace Go.SX
open Go
section force
variable {β : Type}
def fN (n : Nat) (K : Nat → β) : β :=
 bif Nat.beq n 0 then K 0 else bif Nat.beq n 1 then K 1 else bif Nat.beq n 2 then K 2 else bif Nat.beq n 3 then K 3 else
 bif Nat.beq n 4 then K 4 else bif Nat.beq n 5 then K 5 else bif Nat.beq n 6 then K 6 else bif Nat.beq n 7 then K 7 else
 bif Nat.beq n 8 then K 8 else bif Nat.beq n 9 then K 9 else bif Nat.beq n 10 then K 10 else bif Nat.beq n 11 then K 11 else
 bif Nat.beq n 12 then K 12 else bif Nat.beq n 13 then K 13 else K n
theorem PI (n : Nat) (K : Nat → β) : fN n K = K n := by
 have h : ∀ (m : Nat) (r : β), r = K n → (bif Nat.beq n m then K m else r) = K n := by
  intro m r hr
  cases hb : Nat.beq n m with
  | true => rw [Nat.eq_of_beq_eq_true hb]; rfl
  | false => exact hr
 unfold fN
 repeat first | exact rfl | apply h
def fV (v : Value) (K : Value → β) : β := match v with
 | .int k n => K (.int k n)
 | .bool b => K (.bool b)
 | .string s => K (.string s)
 | .slice none 0 0 => K (.slice none 0 0)
 | v => K v
theorem R3 (v : Value) (K : Value → β) : fV v K = K v := by unfold fV; split <;> rfl
def S5 (p : PV) (K : PV → β) : β := match p with
 | .s v => fV v fun v => K (.s v)
 | .ro els => K (.ro els)
 | .rp els i off => fN off fun off => K (.rp els i off)
 | .fn f caps => K (.fn f caps)
theorem MS (p : PV) (K : PV → β) : S5 p K = K p := by unfold S5; split <;> simp only [R3, PI]
def S9 : List PV → (List PV → β) → β
 | [], K => K []
 | p :: l, K => S5 p fun p => S9 l fun l => K (p :: l)
theorem MA : ∀ (l : List PV) (K : List PV → β), S9 l K = K l
 | [], K => rfl
 | p :: l, K => by simp only [S9, MS, MA l]
def fP (p : PV) (K : PV → β) : β := match p with
 | .fn f caps => S9 caps fun caps => K (.fn f caps)
 | p => S5 p K
theorem Pv (p : PV) (K : PV → β) : fP p K = K p := by unfold fP; split <;> simp only [MA, MS]
def To (c : CV) (K : CV → β) : β := match c with
 | .pv p => fP p fun p => K (.pv p)
 | .pt id sz i off => fN id fun id => fN off fun off => K (.pt id sz i off)
 | .sl id sz off len => fN id fun id => K (.sl id sz off len)
 | .fn f caps => K (.fn f caps)
 | .mp id => fN id fun id => K (.mp id)
 | .cl els => K (.cl els)
theorem NC (c : CV) (K : CV → β) : To c K = K c := by unfold To; split <;> simp only [Pv, PI]
def RG : List CV → (List CV → β) → β
 | [], K => K []
 | p :: l, K => To p fun p => RG l fun l => K (p :: l)
theorem E8 : ∀ (l : List CV) (K : List CV → β), RG l K = K l
 | [], K => rfl
 | p :: l, K => by simp only [RG, NC, E8 l]
def fC (c : CV) (K : CV → β) : β := match c with
 | .fn f caps => RG caps fun caps => K (.fn f caps)
 | c => To c K
theorem SH (c : CV) (K : CV → β) : fC c K = K c := by unfold fC; split <;> simp only [E8, NC]
def Te (a : AV) (K : AV → β) : β := match a with
 | .j => K .j
 | .one c => fC c fun c => K (.one c)
 | .ag cs => RG cs fun cs => K (.ag cs)
 | .tp vs => K (.tp vs)
theorem Nw (a : AV) (K : AV → β) : Te a K = K a := by unfold Te; split <;> simp only [SH, E8]
def Td : List AV → (List AV → β) → β
 | [], K => K []
 | p :: l, K => Te p fun p => Td l fun l => K (p :: l)
theorem MJ : ∀ (l : List AV) (K : List AV → β), Td l K = K l
 | [], K => rfl
 | p :: l, K => by simp only [Td, Nw, MJ l]
def fA (a : AV) (K : AV → β) : β := match a with
 | .tp vs => Td vs fun vs => K (.tp vs)
 | a => Te a K
theorem yq (a : AV) (K : AV → β) : fA a K = K a := by unfold fA; split <;> simp only [MJ, Nw]
def fB (b : cC) (K : cC → β) : β := match b with
 | .box cells => RG cells fun cells => K (.box cells)
 | .dead => K .dead
 | .arr sz els => K (.arr sz els)
 | .rel R ps => K (.rel R ps)
theorem Hw (b : cC) (K : cC → β) : fB b K = K b := by unfold fB; split <;> simp only [E8]
def fS : St → (St → β) → β
 | [], K => K []
 | p :: l, K => fB p fun p => fS l fun l => K (p :: l)
theorem vg : ∀ (l : St) (K : St → β), fS l K = K l
 | [], K => rfl
 | p :: l, K => by simp only [fS, Hw, vg l]
def fF : Fr → (Fr → β) → β
 | [], K => K []
 | (d, a) :: l, K => fA a fun a => fF l fun l => K ((d, a) :: l)
theorem Bz : ∀ (l : Fr) (K : Fr → β), fF l K = K l
 | [], K => rfl
 | (d, a) :: l, K => by simp only [fF, yq, Bz l]
def S3 : List PV → (List PV → β) → β
 | [], K => K []
 | p :: l, K => fP p fun p => S3 l fun l => K (p :: l)
theorem Mf : ∀ (l : List PV) (K : List PV → β), S3 l K = K l
 | [], K => rfl
 | p :: l, K => by simp only [S3, Pv, Mf l]
def S2 : List (List PV) → (List (List PV) → β) → β
 | [], K => K []
 | p :: l, K => S3 p fun p => S2 l fun l => K (p :: l)
theorem Ik : ∀ (l : List (List PV)) (K : List (List PV) → β), S2 l K = K l
 | [], K => rfl
 | p :: l, K => by simp only [S2, Mf, Ik l]
def Qb (a : AV) (K : AV → β) : β := match a with
 | .one (.pv (.ro els)) => S2 els fun els => K (.one (.pv (.ro els)))
 | a => fA a K
theorem N7 (a : AV) (K : AV → β) : Qb a K = K a := by unfold Qb; split <;> simp only [Ik, yq]
def Pj : St → (St → β) → β
 | [], K => K []
 | [.arr sz els], K => S2 els fun els => K [.arr sz els]
 | p :: l, K => fB p fun p => Pj l fun l => K (p :: l)
theorem Db : ∀ (l : St) (K : St → β), Pj l K = K l
 | [], K => rfl
 | [.arr sz els], K => by simp only [Pj, Ik]
 | .dead :: l, K => by simp only [Pj, Hw, Db l]
 | .box c :: l, K => by simp only [Pj, Hw, Db l]
 | .rel R c :: l, K => by simp only [Pj, Hw, Db l]
 | .arr sz els :: x :: l, K => by simp only [Pj, Hw, Db (x :: l)]
inductive FM where
 | n
 | a
 | s
def fX (b : FM) (a : AV) (st : St) (K : AV → St → β) : β := match b with
 | .a => Qb a fun a => K a st
 | .s => fA a fun a => Pj st fun st => K a st
 | .n => fA a fun a => fS st fun st => K a st
theorem Lu (b : FM) (a : AV) (st : St) (K : AV → St → β) : fX b a st K = K a st := by cases b <;> simp only [fX, yq, vg, N7, Db]
end force
section
variable {P : Program} {n : Nat} {an X : List Nat} {ops : Array Oper} {l : List Oper} {fr : Fr} {st : St}
def M3 (ops : Array Oper) (X : List Nat) (tw : List (List Nat × List Nat)) : Bool := FX ops tw && IZ X tw
def GK (P : Program) (n : Nat) (X : List Nat) (ops : Array Oper) (l : List Oper) (tw : List (List Nat × List Nat)) (R : Fr → St → Prop) (fr : Fr) (st : St) : Prop :=
 ∃ fr' st' tw', GX P n ops X l tw' fr st fr' st' ∧ M3 ops X (tw ++ tw') = true ∧ R fr' st'
theorem GK.nil {tw : List (List Nat × List Nat)} {R : Fr → St → Prop} (h : M3 ops X tw = true) (k : R fr st) : GK P n X ops [] tw R fr st := ⟨fr, st, [], GX.done rfl, by rw [List.append_nil]; exact h, k⟩
theorem GK.of {tw : List (List Nat × List Nat)} {R : Fr → St → Prop} {fr' : Fr} {st' : St} {l' : List Oper} {tw1 : List Nat × List Nat} (h : ∀ {tw2 : List (List Nat × List Nat)} {fr2 : Fr} {st2 : St}, GX P n ops X l' tw2 fr' st' fr2 st2 → GX P n ops X l (tw1 :: tw2) fr st fr2 st2) (k : GK P n X ops l' (tw ++ [tw1]) R fr' st') : GK P n X ops l tw R fr st := by
 obtain ⟨fr2, st2, tw2, h1, h2, h3⟩ := k
 exact ⟨fr2, st2, tw1 :: tw2, h h1, by rw [show tw ++ tw1 :: tw2 = tw ++ [tw1] ++ tw2 by simp]; exact h2, h3⟩
theorem Yd.aside {o : Oper} {f : Fr} {a : AV} (T : List Nat) (h : Yd P n (lO (bt T) 0 st) o f a) : TA P n X o f ⟨a, T, [], [], st⟩ st := by
 intro st' ι w act hl hT hX hR hF K Q hK
 have hl : st'.length = st.length := hl
 have hT : ∀ id, bt T id = true → st'[id]? = st[id]? := hT
 rw [← Fd hl hT] at h
 have hRm := hR.mask (bt T)
 have hFm : kO n (SX.aside (bt T) ι st') w (lO (bt T) 0 st') act f :=
  ⟨hF.defers, hF.size, fun t => (hF.slot t).chg (fun b hb => Bx.1 hb) (by rw [gM]; exact Nat.le_refl _) (fun _ => rfl)⟩
 refine h _ w act hRm hFm K Q fun v w' ι2 hv hR2 k => ?_
 obtain ⟨r1, m1, k1⟩ := hR.unmask (T := bt T) (q := fun _ => true) (by rw [gM]; exact Nat.le_refl _) hR2 (k.weaken fun _ _ => trivial) (fun _ _ _ => rfl)
  (fun id o ho _ => gu (q := fun _ => true) (fun _ _ => rfl) o (by cases o <;> first | rfl | exact tR _))
  (fun id hid hTf => by rw [nF, Nat.zero_add, List.getElem?_eq_getElem hid, hTf]; rfl)
 have e1 : jg (bt T) 0 st' (lO (bt T) 0 st') = st' := GP
 have e2 : jg (bt ([] : List Nat)) 0 st' st = st' := FY hl
 have hv := hv.chg m1 (by rw [e1, gM]; exact Nat.le_refl _) (fun _ => rfl)
 rw [e1] at r1 k1 hv
 exact hK v w' _ (by rw [e2]; exact hv) (by rw [e2]; exact r1) (by rw [e2]; exact k1.weaken fun _ _ => rfl)
theorem BX : ∀ fr : Fr, pB (fun id => !bt [] id) fr = fr
 | [] => rfl
 | (d, av) :: fr => by
  have h : em (fun id => !bt [] id) av = true := rH (q := fun _ => true) (fun _ _ => rfl) av (BW av)
  simp only [pB, h, cond_true, BX fr]
def G8 (ops : Array Oper) (X : List Nat) (o : Oper) (fr : Fr) (av : AV) : Bool := sg ops X o fr (rJ ops X o fr) && em (fun i => bt (rJ ops X o fr) (i + 1000) || !bt X i) av
theorem GK.yd {o : Oper} {tw : List (List Nat × List Nat)} {R : Fr → St → Prop} {fr' : Fr} {av : AV} (hp : (∀ d, o.dst = some d → d < n) ∧ xS o.dst av fr = fr') (hc : G8 ops X o fr av = true)
  (h : (dI ops o (dP ops o fr) = some true ∧ Yd P n (lO (bt (rJ ops X o fr)) 0 st) o (dP ops o fr) av) ∨ (dI ops o (dP ops o fr) = some false ∧ av = .tp []))
  (k : GK P n X ops l (tw ++ [(rJ ops X o fr, [])]) R fr' st) : GK P n X ops (o :: l) tw R fr st := by
 unfold G8 at hc
 rw [Bool.and_eq_true] at hc
 refine GK.of (tw1 := (rJ ops X o fr, [])) (fun h2 => GX.cons (s := ⟨av, rJ ops X o fr, [], [], st⟩) ⟨hp.1, rfl, fun _ _ => rfl, fun id h => by simp [bt] at h, fun id h => by simp [bt] at h, sL hc.1, hc.2, fun x b h => by simp [bt] at h, ?_⟩ (by
  show GX P n ops X l _ (xS o.dst av (pB (fun id => !bt [] id) fr)) st _ _
  rw [BX, hp.2]; exact h2)) k
 rcases h with ⟨hg, h⟩ | ⟨hg, rfl⟩
 ·exact .inl ⟨hg, h.aside⟩
 ·exact .inr ⟨hg, rfl, rfl, rfl⟩
def Ko : List Nat → St → Option Nat
 | [], _ => none
 | x :: X, st => (match st[x]? with
  | some .dead => some x
  | _ => Ko X st)
theorem SA {W : List Nat} {hs : HS} {fr' : Fr} {T : List Nat} {st' : St} {ob : List Prop} (h : SD P n ops X W l fr st hs = some (fr', T, st', ob)) (hl : st.length ≤ 1000) : jg (bt W) 0 st st' = st' := by
 unfold SD at h
 split at h
 ·rename_i o ho
  split at h
  ·split at h
   ·rename_i out hev
    cases hc : R7 n ops X W o fr st ((W ++ Jk X (cE ops o fr ++ rd W st))) out with
    | false => rw [hc] at h; cases h
    | true =>
     rw [hc] at h
     simp only [cond_true, Option.some.injEq, Prod.mk.injEq] at h
     obtain ⟨_, _, rfl, _⟩ := h
     unfold R7 at hc
     simp only [Bool.and_eq_true] at hc
     have hlen := Nat.eq_of_beq_eq_true hc.1.1.2
     generalize hT : W ++ Jk X (cE ops o fr ++ rd W st) = T at *
     have z : (jg (bt T) 0 st out.st).length = st.length := by rw [ew _ _ _ (by omega)]; exact hlen
     refine tc (by rw [ew _ _ _ (by omega)]) (fun id hid => ?_)
     rw [ew _ _ _ (by omega), z] at hid
     rw [gy _ _ _ _ (by omega), Nat.zero_add]
     by_cases hw : id < st.length ∧ bt W id = false
     ·have hq : bt T id = false := by
       rw [← hT, pQ, hw.2, Bool.false_or]
       exact FJ (by omega)
      have y : (jg (bt T) 0 st out.st)[id]? = if id < st.length ∧ bt T id = false then st[id]? else out.st[id]? := by rw [gy _ _ _ _ (by omega), Nat.zero_add]
      rw [if_pos hw, y, if_pos ⟨hw.1, hq⟩]
     ·rw [if_neg hw]
   ·cases h
  ·cases h
 ·cases h
def gW (P : Program) (n : Nat) (an X : List Nat) (ops : Array Oper) (l : List Oper) (fr : Fr) (st : St) : Option (Fr × List Nat × List Nat × St) :=
 match HE l with
 | some o => (match o.op with
  | .alloc .. => (match Ko X st with
   | some id => (match Ry P n ops X (xn an o) id l fr st [] with
    | some (fr', T, st', []) => bif Lf st T then some (fr', v6 X T, T ++ [id + 1000], st') else none
    | _ => none)
   | none => none)
  | .store _ a _ => (match rv (dP ops o fr) a with
   | .one (.pt id _ _ _) => (match st[id]? with
    | some (.box _) => (match SD P n ops X [id] l fr st [] with
     | some (fr', T, st', []) => bif Nat.ble st.length 1000 then some (fr', T, [id], st') else none
     | _ => none)
    | _ => none)
   | _ => none)
  | _ => none)
 | none => none
theorem GK.w {fr' : Fr} {T W : List Nat} {st' : St} {tw : List (List Nat × List Nat)} {R : Fr → St → Prop} (h : gW P n an X ops l fr st = some (fr', T, W, st')) (k : GK P n X ops (l.drop 1) (tw ++ [(T, W)]) R fr' st') : GK P n X ops l tw R fr st := by
 refine GK.of (tw1 := (T, W)) (fun h2 => ?_) k
 unfold gW at h
 split at h
 ·rename_i o ho
  split at h
  ·split at h
   ·rename_i id hid
    split at h
    ·rename_i he
     cases hq : Lf st _ with
     | false => rw [hq] at h; cases h
     | true =>
      rw [hq] at h
      simp only [cond_true, Option.some.injEq, Prod.mk.injEq] at h
      obtain ⟨rfl, rfl, rfl, rfl⟩ := h
      exact GX.new _ id [] _ _ _ [] he trivial hq h2
    ·cases h
   ·cases h
  ·split at h
   ·split at h
    ·split at h
     ·rename_i he
      cases hq : Nat.ble st.length 1000 with
      | false => rw [hq] at h; cases h
      | true =>
       rw [hq] at h
       simp only [cond_true, Option.some.injEq, Prod.mk.injEq] at h
       obtain ⟨rfl, rfl, rfl, rfl⟩ := h
       exact GX.sto _ [] _ _ _ [] he trivial (SA he (Nat.le_of_ble_eq_true hq)) h2
     ·cases h
    ·cases h
   ·cases h
  ·cases h
 ·cases h
end
inductive It where
 | c (x : Code)
 | o (ops : Array Oper) (l : List Oper)
 | d (ops : Array Oper) (l : List Oper)
 | b (id : Nat)
 | s
 | r (x : Code) (j : Nat)
 | g (X : List Nat) (ops : Array Oper) (l : List Oper) (tw : List (List Nat × List Nat))
structure SS where
 ks : List It
 fr : Fr
 st : St
 kn : List Nat
section
variable (P : Program) (n n0 : Nat) (loose : List Nat)
def Me (Q : QT) : QT
 | .goto _, _, _ => False
 | e, fr, st => Q e fr st
theorem XW.scope {c x : Code} {Q : QT} {fr : Fr} {st : St} (he : c = .scope x) (h : XW P n n0 loose x (Me Q) fr st) : XW P n n0 loose c Q fr st := by
 subst he
 intro ι w a hR hF
 refine Go.wp_scope_straight (Go.wp_mono (h ι w a hR hF) ?_)
 rintro e a' w' ⟨ι', fr', st', h1, h2⟩
 cases e with
 | goto l => exact h1.elim
 | _ => exact ⟨ι', fr', st', h1, h2⟩
def QK : List It → QT → QT
 | [], Q => Q
 | .s :: ks, Q => Me (QK ks Q)
 | .b id :: ks, Q => xU id (QK ks Q)
 | .c x :: ks, Q => mo (XW P n n0 loose x (QK ks Q)) (QK ks Q)
 | .o ops l :: ks, Q => mo (XO P n n0 loose ops l (QK ks Q)) (QK ks Q)
 | .d ops l :: ks, Q => mo (fun fr st => ∃ fr', DX P n st ops l fr fr' ∧ QK ks Q .normal fr' st) (QK ks Q)
 | .r x j :: ks, Q => mo (XR P n n0 loose x (QK ks Q) j) (QK ks Q)
 | .g X ops l tw :: ks, Q => mo (GK P n X ops l tw (QK ks Q .normal)) (QK ks Q)
def XK (Q : QT) (s : SS) : Prop := QK P n n0 loose s.ks Q .normal s.fr s.st
def Da (id : Nat) : List It → Option (List It)
 | [] => none
 | .b i :: ks => bif Nat.beq i id then some ks else Da id ks
 | _ :: ks => Da id ks
variable {P n n0 loose}
theorem BO {a b : Nat} (h : a ≠ b) : Nat.beq a b = false := by
 cases hq : Nat.beq a b with
 | false => rfl
 | true => exact absurd (Nat.eq_of_beq_eq_true hq) h
theorem xi {id : Nat} {Q : QT} {fr : Fr} {st : St} : ∀ {ks ks' : List It}, Da id ks = some ks' → QK P n n0 loose ks' Q .normal fr st → QK P n n0 loose ks Q (.exit id) fr st
 | [], _, h, _ => by simp [Da] at h
 | .b i :: ks, ks', h, hq => by
  simp only [Da] at h
  simp only [QK, xU]
  cases hb : Nat.beq i id with
  | true =>
   have := Nat.eq_of_beq_eq_true hb
   subst this
   simp only [hb, cond_true, Option.some.injEq] at h
   subst h
   simpa using hq
  | false =>
   simp only [hb, cond_false] at h
   have : Nat.beq id i = false := BO (fun e => by subst e; simp at hb)
   simp only [this, cond_false]
   exact xi h hq
 | .s :: ks, ks', h, hq => xi (ks := ks) (by simpa [Da] using h) hq
 | .c x :: ks, ks', h, hq => xi (ks := ks) (by simpa [Da] using h) hq
 | .o ops l :: ks, ks', h, hq => xi (ks := ks) (by simpa [Da] using h) hq
 | .d ops l :: ks, ks', h, hq => xi (ks := ks) (by simpa [Da] using h) hq
 | .r _ _ :: ks, ks', h, hq => xi (ks := ks) (by simpa [Da] using h) hq
 | .g _ _ _ _ :: ks, ks', h, hq => xi (ks := ks) (by simpa [Da] using h) hq
theorem tP {id : Nat} {Q : QT} {fr : Fr} {st : St} : ∀ {ks : List It}, Da id ks = none → Q (.exit id) fr st → QK P n n0 loose ks Q (.exit id) fr st
 | [], h, hq => hq
 | .b i :: ks, h, hq => by
  simp only [Da] at h
  simp only [QK, xU]
  cases hb : Nat.beq i id with
  | true => simp [hb] at h
  | false =>
   simp only [hb, cond_false] at h
   have : Nat.beq id i = false := BO (fun e => by subst e; simp at hb)
   simp only [this, cond_false]
   exact tP h hq
 | .s :: ks, h, hq => tP (ks := ks) (by simpa [Da] using h) hq
 | .c x :: ks, h, hq => tP (ks := ks) (by simpa [Da] using h) hq
 | .o ops l :: ks, h, hq => tP (ks := ks) (by simpa [Da] using h) hq
 | .d ops l :: ks, h, hq => tP (ks := ks) (by simpa [Da] using h) hq
 | .r _ _ :: ks, h, hq => tP (ks := ks) (by simpa [Da] using h) hq
 | .g _ _ _ _ :: ks, h, hq => tP (ks := ks) (by simpa [Da] using h) hq
theorem w8 {Q : QT} {fr : Fr} {st : St} : ∀ {ks : List It}, Q .ret fr st → QK P n n0 loose ks Q .ret fr st
 | [], hq => hq
 | .b i :: ks, hq => w8 (ks := ks) hq
 | .s :: ks, hq => w8 (ks := ks) hq
 | .c x :: ks, hq => w8 (ks := ks) hq
 | .o ops l :: ks, hq => w8 (ks := ks) hq
 | .d ops l :: ks, hq => w8 (ks := ks) hq
 | .r _ _ :: ks, hq => w8 (ks := ks) hq
 | .g _ _ _ _ :: ks, hq => w8 (ks := ks) hq
def HG (kn : List Nat) : Operand → Bool
 | .tmp t => kn.any (Nat.beq t)
 | _ => true
def Nf (kn : List Nat) (o : Oper) (fr : Fr) (st : St) : Bool :=
 match o.op with
 | .pick c a b => bif HG kn c then false else (match rv fr a with
  | .one (.pv (.s (.bool _))) => (match rv fr b with
   | .one (.pv (.s (.bool _))) => false
   | _ => true)
  | _ => true)
 | .call ⟨.builtin .len, args, _⟩ => (match args.toList with
  | [x] => (match rv fr x with
   | .one (.pv (.ro _)) => true
   | _ => false)
  | _ => true)
 | .call ⟨.builtin .max, _, _⟩ => false
 | .call ⟨.builtin .min, _, _⟩ => false
 | .call _ => true
 | .makeSlice .. => true
 | .slice .. => true
 | .convert _ _ x => (match rv fr x with
  | .one (.pv (.s (.int _ _))) => false
  | _ => true)
 | .indexAddr _ x i => (match rv fr x with
  | .one (.pv (.rp ..)) => !(HG kn i)
  | .one (.pt ..) => !(HG kn i)
  | _ => true)
 | .index _ x i => (match rv fr x with
  | .ag _ => !(HG kn i)
  | _ => true)
 | .load _ a => (match rv fr a with
  | .one (.pv (.rp ..)) => false
  | .one (.pt id _ _ _) => (match st[id]? with
   | some (.box _) => false
   | _ => true)
  | _ => true)
 | .store _ a _ => (match rv fr a with
  | .one (.pt id _ _ _) => (match st[id]? with
   | some (.box _) => false
   | _ => true)
  | _ => true)
 | _ => false
def Lb (o : Oper) (fr : Fr) : HS :=
 match o.op with
 | .load _ a => (match rv fr a with
  | .one (.pv (.rp [c] _ _)) => [c]
  | _ => [])
 | _ => []
def B6 (P : Program) (t : TypeId) : Nat := match P.underlying t with
 | some (.array len _) => len
 | _ => 0
def RH (P : Program) (kn : List Nat) (o : Oper) (fr : Fr) : Bool :=
 match o.op with
 | .binOp op _ _ y _ => bif HG kn y then (match rv fr y with
  | .one (.pv (.s (.int _ b))) => (match op with
   | .shl => decide (0 ≤ b)
   | .shr => decide (0 ≤ b)
   | .quo => decide (b ≠ 0)
   | .rem => decide (b ≠ 0)
   | _ => false)
  | _ => false) else false
 | .load _ a => (match rv fr a with
  | .one (.pv (.rp [_] 0 _)) => true
  | _ => false)
 | .indexAddr t x i => (match rv fr x with
  | .one (.pv (.rp ..)) => (match rv fr i with
   | .one (.pv (.s (.int _ n))) => decide (0 ≤ n) && decide (n < B6 P t)
   | _ => false)
  | .one (.pt ..) => (match rv fr i with
   | .one (.pv (.s (.int _ n))) => decide (0 ≤ n) && decide (n < B6 P t)
   | _ => false)
  | _ => false)
 | .index t x i => (match rv fr x with
  | .ag _ => (match rv fr i with
   | .one (.pv (.s (.int _ n))) => decide (0 ≤ n) && decide (n < B6 P t)
   | _ => false)
  | _ => false)
 | _ => false
theorem P8 {op : BinOp} {t : TypeId} {a : Value} {k : IntKind} {b : Int} {v : Value} {ob : List Prop} (hb : (match op with
   | .shl => decide (0 ≤ b)
   | .shr => decide (0 ≤ b)
   | .quo => decide (b ≠ 0)
   | .rem => decide (b ≠ 0)
   | _ => false) = true) (h : Hs P op t a (.int k b) = some (v, ob)) : gX ob := by
 have h : O1 op a (.int k b) = some (v, ob) := by
  cases a <;> first | exact h | cases h
 unfold O1 at h
 cases a <;> simp only at h <;> try (cases h; done)
 rename_i k1 a1 _
 cases op
 case shl => simp only [decide_eq_true_eq] at hb; simp only [Option.some.injEq, Prod.mk.injEq] at h; obtain ⟨_, rfl⟩ := h; exact ⟨hb, trivial⟩
 case shr => simp only [decide_eq_true_eq] at hb; simp only [Option.some.injEq, Prod.mk.injEq] at h; obtain ⟨_, rfl⟩ := h; exact ⟨hb, trivial⟩
 case quo =>
  simp only [decide_eq_true_eq] at hb
  cases hk : decide (k1 = k) <;> simp only [hk, cond_true, cond_false] at h
  ·cases h
  ·simp only [Option.some.injEq, Prod.mk.injEq] at h; obtain ⟨_, rfl⟩ := h; exact ⟨hb, trivial⟩
 case rem =>
  simp only [decide_eq_true_eq] at hb
  cases hk : decide (k1 = k) <;> simp only [hk, cond_true, cond_false] at h
  ·cases h
  ·simp only [Option.some.injEq, Prod.mk.injEq] at h; obtain ⟨_, rfl⟩ := h; exact ⟨hb, trivial⟩
 all_goals (cases hb; done)
theorem Mv {kn : List Nat} {o : Oper} {fr : Fr} {st : St} {mu : Bool} {out : zY} (hb : RH P kn o fr = true) (h : ev P mu o fr st (Lb o fr) = some out) : gX out.ob := by
 unfold RH at hb
 unfold ev at h
 split at hb
 ·rename_i op tt x y _ ho
  simp only [ho] at h
  cases hk : HG kn y with
  | false => simp [hk] at hb
  | true =>
   simp only [hk, cond_true] at hb
   split at hb
   ·rename_i k b hy
    rw [hy] at h
    split at h
    ·rename_i a b' e1 e2
     simp only [AV.one.injEq, CV.pv.injEq, PV.s.injEq] at e2
     subst e2
     split at h
     ·rename_i v ob hbo
      simp only [Option.some.injEq] at h
      subst h
      exact P8 hb hbo
     ·simp only [Option.map_eq_some_iff] at h
      obtain ⟨_, _, rfl⟩ := h
      exact trivial
    ·rename_i e2; cases e2
    ·rename_i e2; cases e2
    ·cases h
   ·cases hb
 ·rename_i t a ho
  simp only [ho, Lb] at h
  split at hb
  ·rename_i c off hr
   simp only [hr] at h
   unfold H2 at h
   split at h
   ·simp only [Option.map_eq_some_iff] at h
    obtain ⟨av, _, rfl⟩ := h
    exact ⟨rfl, trivial⟩
   ·cases h
  ·cases hb
 ·rename_i t x i ho
  simp only [ho] at h
  split at hb
  ·rename_i e1
   split at hb
   ·rename_i e2
    simp only [e1, e2] at h
    simp only [Bool.and_eq_true, decide_eq_true_eq] at hb
    unfold KY at h
    unfold B6 at hb
    split at h
    ·rename_i q1 q2
     split at q2
     ·rename_i hu
      rw [hu] at hb
      split at q2
      ·simp only [Option.some.injEq, Prod.mk.injEq] at q2
       obtain ⟨rfl, rfl⟩ := q2
       simp only [Option.some.injEq] at h
       subst h
       exact ⟨hb, trivial⟩
      ·cases q2
     ·split at q2 <;> simp at q2
     ·cases q2
    ·cases h
   ·cases hb
  ·rename_i e1
   split at hb
   ·rename_i e2
    simp only [e1, e2] at h
    simp only [Bool.and_eq_true, decide_eq_true_eq] at hb
    unfold KY at h
    unfold B6 at hb
    split at h
    ·rename_i q1 q2
     split at q2
     ·rename_i hu
      rw [hu] at hb
      split at q2
      ·simp only [Option.some.injEq, Prod.mk.injEq] at q2
       obtain ⟨rfl, rfl⟩ := q2
       simp only [Option.some.injEq] at h
       subst h
       exact ⟨hb, trivial⟩
      ·cases q2
     ·split at q2 <;> simp at q2
     ·cases q2
    ·cases h
   ·cases hb
  ·cases hb
 ·rename_i t x i ho
  simp only [ho] at h
  split at hb
  ·rename_i e1
   split at hb
   ·rename_i e2
    simp only [e1, e2] at h
    simp only [Bool.and_eq_true, decide_eq_true_eq] at hb
    unfold B6 at hb
    split at h
    ·rename_i q1 q2 q3; cases q2
    ·rename_i q1 q2 q3
     rw [q1] at hb
     simp only [AV.one.injEq, CV.pv.injEq, PV.s.injEq, Value.int.injEq] at q3
     obtain ⟨_, rfl⟩ := q3
     split at h
     ·simp only [Option.map_eq_some_iff] at h
      obtain ⟨av, _, rfl⟩ := h
      exact ⟨hb, trivial⟩
     ·cases h
    ·cases h
   ·cases hb
  ·cases hb
 ·cases hb
def Ss (P : Program) (an kn : List Nat) (o : Oper) (fr : Fr) (st : St) : Option (AV × St) :=
 bif Nf kn o fr st then none else
 match ev P (xn an o) o fr st (Lb o fr) with
 | some ⟨av, st', ob, _, none⟩ => (match ob with
  | [] => some (av, st')
  | _ => bif RH P kn o fr then some (av, st') else none)
 | _ => none
theorem H8 {an kn : List Nat} {o : Oper} {fr : Fr} {st : St} {av : AV} {st' : St} (h : Ss P an kn o fr st = some (av, st')) :
  ∃ ob hs', ev P (xn an o) o fr st (Lb o fr) = some ⟨av, st', ob, hs', none⟩ ∧ gX ob := by
 unfold Ss at h
 cases hs : Nf kn o fr st with
 | true => simp [hs] at h
 | false =>
  simp only [hs, cond_false] at h
  split at h
  ·rename_i av1 st1 ob hs' he
   split at h
   ·simp only [Option.some.injEq, Prod.mk.injEq] at h
    obtain ⟨rfl, rfl⟩ := h
    exact ⟨_, _, he, trivial⟩
   ·cases hb : RH P kn o fr with
    | false => simp [hb] at h
    | true =>
     simp only [hb, cond_true, Option.some.injEq, Prod.mk.injEq] at h
     obtain ⟨rfl, rfl⟩ := h
     exact ⟨_, _, he, Mv hb he⟩
  ·cases h
def NX (ops : Array Oper) (kn : List Nat) (o : Oper) (fr : Fr) : Option Bool :=
 match o.guard with
 | none => some true
 | some (j, want) =>
  match (ops[j]?).bind (·.dst) with
  | some d => (match lk fr d with
   | .one (.pv (.s (.bool b))) => bif kn.any (Nat.beq d) then some (b == want) else none
   | .tp [] => some false
   | _ => none)
  | none => none
theorem vq {ops : Array Oper} {kn : List Nat} {o : Oper} {fr : Fr} {g : Bool} (h : NX ops kn o fr = some g) : dI ops o fr = some g := by
 unfold NX at h
 unfold dI
 cases hg : o.guard with
 | none => simpa [hg] using h
 | some jw =>
  obtain ⟨j, want⟩ := jw
  simp only [hg] at h ⊢
  cases hd : (ops[j]?).bind (·.dst) with
  | none => simp [hd] at h
  | some d =>
   simp only [hd] at h ⊢
   split at h
   ·rename_i b hb
    cases hk : kn.any (Nat.beq d) with
    | false => simp [hk] at h
    | true => simpa [hk, hb] using h
   ·rename_i hb; simpa [hb] using h
   ·cases h
def zr {β : Type} (n : Nat) (dst : Option Nat) (av : AV) (fr : Fr) (K : Fr → β) (E : β) : β := match dst with
 | none => K fr
 | some d => bif Nat.ble (d + 1) n then K ((d, av) :: fr) else E
def EF (u : Option Nat) (o : Oper) : Bool := match u with
 | none => false
 | some t => (match o.dst with
  | some d => Nat.beq d t
  | none => false)
def Rq (an : List Nat) (o : Oper) : FM := match o.op with
 | .buildSlice .. => (match xn an o with
  | true => .s
  | false => .a)
 | _ => .n
def Bb (kn : List Nat) (o : Oper) (fr : Fr) : Bool := match o.op with
 | .move x => HG kn x
 | .assign x => HG kn x
 | .pick c a b => bif HG kn c then (match rv fr c with
  | .one (.pv (.s (.bool t))) => (match t with
   | true => HG kn a
   | false => HG kn b)
  | _ => false) else false
 | .binOp _ _ x y _ => HG kn x && HG kn y
 | .unOp _ _ x => HG kn x
 | .convert _ _ x => HG kn x
 | _ => false
def OU {β : Type} (d : Nat) : List Nat → (List Nat → β) → β
 | [], K => K []
 | x :: l, K => OU d l fun l => bif Nat.beq x d then K l else K (x :: l)
def AE {β : Type} (b : Bool) (dst : Option Nat) (kn : List Nat) (K : List Nat → β) : β := match dst with
 | none => K kn
 | some d => OU d kn fun l => bif b then K (d :: l) else K l
theorem JT {β : Type} {d : Nat} : ∀ (l : List Nat) (K : List Nat → β), ∃ l', OU d l K = K l'
 | [], K => ⟨[], rfl⟩
 | x :: l, K => by
  obtain ⟨l', h⟩ := JT (d := d) l (fun l => bif Nat.beq x d then K l else K (x :: l))
  unfold OU
  rw [h]
  cases Nat.beq x d
  ·exact ⟨_, rfl⟩
  ·exact ⟨_, rfl⟩
theorem pY {β : Type} (b : Bool) (dst : Option Nat) (kn : List Nat) (K : List Nat → β) : ∃ l, AE b dst kn K = K l := by
 unfold AE
 cases dst with
 | none => exact ⟨_, rfl⟩
 | some d =>
  obtain ⟨l', h⟩ := JT (d := d) kn (fun l => bif b then K (d :: l) else K l)
  simp only [h]
  cases b
  ·exact ⟨_, rfl⟩
  ·exact ⟨_, rfl⟩
def Ht {β : Type} (P : Program) (n : Nat) (an : List Nat) (u : Option Nat) (s : SS) (K E : SS → β) : β :=
 match s with
 | ⟨ks, fr, st, kn⟩ => match ks with
  | [] => E s
  | .b _ :: k => K ⟨k, fr, st, kn⟩
  | .s :: k => K ⟨k, fr, st, kn⟩
  | .c x :: k => (match x with
   | .scope a => K ⟨.c a :: .s :: k, fr, st, kn⟩
   | .skip => K ⟨k, fr, st, kn⟩
   | .seq a b => K ⟨.c a :: .c b :: k, fr, st, kn⟩
   | .block id a => K ⟨.c a :: .b id :: k, fr, st, kn⟩
   | .region _ ops false => K ⟨.o ops ops.toList :: k, fr, st, kn⟩
   | .cond o a b => (match HG kn o with
    | true => (match rv fr o with
     | .one (.pv (.s (.bool t))) => (match t with
      | true => K ⟨.c a :: k, fr, st, kn⟩
      | false => K ⟨.c b :: k, fr, st, kn⟩)
     | _ => E s)
    | false => E s)
   | .exit id => (match Da id k with
    | some k' => K ⟨k', fr, st, kn⟩
    | none => E s)
   | _ => E s)
  | .r x j :: k => (match j with
   | j + 1 => K ⟨.c x :: .r x j :: k, fr, st, kn⟩
   | 0 => E s)
  | .o ops l :: k => (match l with
   | [] => K ⟨k, fr, st, kn⟩
   | o :: l' => bif EF u o then E s else (match NX ops kn o fr with
    | some true => (match Ss P an kn o fr st with
     | some (av, st') => fX (Rq an o) av st' fun av st' => zr n o.dst av fr (fun fr' => AE (Bb kn o fr) o.dst kn fun kn' => K ⟨.o ops l' :: k, fr', st', kn'⟩) (E s)
     | none => E s)
    | some false => zr n o.dst (.tp []) fr (fun fr' => AE false o.dst kn fun kn' => K ⟨.o ops l' :: k, fr', st, kn'⟩) (E s)
    | none => E s))
  | .d ops l :: k => (match l with
   | [] => K ⟨k, fr, st, kn⟩
   | o :: l' => bif EF u o then E s else (match NX ops kn o (dP ops o fr) with
    | some true => bif ll o.op then (match Ss P [] kn o (dP ops o fr) st with
     | some (av, _) => fX (Rq [] o) av [] fun av _ => zr n o.dst av fr (fun fr' => AE (Bb kn o fr) o.dst kn fun kn' => K ⟨.d ops l' :: k, fr', st, kn'⟩) (E s)
     | none => E s) else E s
    | some false => zr n o.dst (.tp []) fr (fun fr' => AE false o.dst kn fun kn' => K ⟨.d ops l' :: k, fr', st, kn'⟩) (E s)
    | none => E s))
  | .g X ops l tw :: k => (match l with
   | [] => bif M3 ops X tw then K ⟨k, fr, st, kn⟩ else E s
   | o :: l' => bif EF u o then E s else (match NX ops kn o (dP ops o fr) with
    | some true => bif ll o.op && !xn an o then (match Ss P [] kn o (dP ops o fr) (lO (bt (rJ ops X o fr)) 0 st) with
     | some (av, _) => fX (Rq [] o) av [] fun av _ => bif G8 ops X o fr av then zr n o.dst av fr (fun fr' => AE (Bb kn o fr) o.dst kn fun kn' => K ⟨.g X ops l' (tw ++ [(rJ ops X o fr, [])]) :: k, fr', st, kn'⟩) (E s) else E s
     | none => E s) else (match gW P n an X ops (o :: l') fr st with
      | some (fr', T, W, st') => fF fr' fun fr' => fS st' fun st' => AE false o.dst kn fun kn' => K ⟨.g X ops l' (tw ++ [(T, W)]) :: k, fr', st', kn'⟩
      | none => E s)
    | some false => bif G8 ops X o fr (.tp []) then zr n o.dst (.tp []) fr (fun fr' => AE false o.dst kn fun kn' => K ⟨.g X ops l' (tw ++ [(rJ ops X o fr, [])]) :: k, fr', st, kn'⟩) (E s) else E s
    | none => E s))
theorem nQ {β : Type} (dst : Option Nat) (av : AV) (fr : Fr) (K : Fr → β) (E : β) : (∃ fr', wO n dst av fr = some fr' ∧ zr n dst av fr K E = K fr') ∨ zr n dst av fr K E = E := by
 cases dst with
 | none => exact .inl ⟨fr, rfl, rfl⟩
 | some d =>
  unfold zr wO
  cases h : Nat.ble (d + 1) n with
  | true => exact .inl ⟨(d, av) :: fr, by simp [h], by simp [h]⟩
  | false => exact .inr (by simp [h])
theorem wB {dst : Option Nat} {av : AV} {fr fr' : Fr} (h : wO n dst av fr = some fr') : (∀ d, dst = some d → d < n) ∧ xS dst av fr = fr' := by
 cases dst with
 | none => simp only [wO, Option.some.injEq] at h; exact ⟨(fun d hd => nomatch hd), h⟩
 | some d =>
  simp only [wO] at h
  cases hb : Nat.ble (d + 1) n with
  | false => simp [hb] at h
  | true =>
   simp only [hb, cond_true, Option.some.injEq] at h
   exact ⟨(fun d' hd => Option.some.inj hd ▸ Nat.le_of_ble_eq_true hb), h⟩
theorem DX.cons {ops : Array Oper} {o : Oper} {l : List Oper} {fr fr' fr2 : Fr} {st : St} {a : AV} (hp : wO n o.dst a fr = some fr')
  (h : (dI ops o (dP ops o fr) = some true ∧ Yd P n st o (dP ops o fr) a) ∨ (dI ops o (dP ops o fr) = some false ∧ a = .tp []))
  (k : DX P n st ops l fr' fr2) : DX P n st ops (o :: l) fr fr2 := by
 obtain ⟨h1, h2⟩ := wB hp
 subst h2
 obtain ⟨asv, k1, k2⟩ := k
 exact ⟨a :: asv, ⟨⟨h1, h⟩, k1⟩, k2⟩
theorem KK {an : List Nat} {ops : Array Oper} {o : Oper} {fr fr' : Fr} {st st' : St} {hs hs' : HS} {av : AV} {ob : List Prop} (hg : dI ops o fr = some true)
  (h : ev P (xn an o) o fr st hs = some ⟨av, st', ob, hs', none⟩) (hp : wO n o.dst av fr = some fr') : rk P n n0 loose an ops [o] fr st hs = some ⟨.normal, fr', st', hs', ob ++ []⟩ := by
 simp only [rk, hg, h, Es, Mp, hp, cond_true]
theorem XO.op {an : List Nat} {ops : Array Oper} {o : Oper} {l : List Oper} {fr fr' : Fr} {st st' : St} {hs hs' : HS} {av : AV} {ob : List Prop} {Q : QT} (hg : dI ops o fr = some true)
  (h : ev P (xn an o) o fr st hs = some ⟨av, st', ob, hs', none⟩) (hob : gX ob) (hp : wO n o.dst av fr = some fr') (k : XO P n n0 loose ops l Q fr' st') : XO P n n0 loose ops (o :: l) Q fr st :=
 XO.run (l := [o]) (KK hg h hp) (by rw [List.append_nil]; exact hob) k
theorem XO.opN {ops : Array Oper} {o : Oper} {l : List Oper} {fr fr' : Fr} {st : St} {Q : QT} (hg : dI ops o fr = some false)
  (hp : wO n o.dst (.tp []) fr = some fr') (k : XO P n n0 loose ops l Q fr' st) : XO P n n0 loose ops (o :: l) Q fr st := by
 have : rk P n n0 loose [] ops [o] fr st [] = some ⟨.normal, fr', st, [], []⟩ := by simp only [rk, hg, hp]
 exact XO.run (l := [o]) this trivial k
theorem KW {an : List Nat} {u : Option Nat} {Q : QT} {β : Type} (s : SS) (K E : SS → β) : ∃ s', (Ht P n an u s K E = K s' ∨ Ht P n an u s K E = E s') ∧ (XK P n n0 loose Q s' → XK P n n0 loose Q s) := by
 obtain ⟨ks, fr, st, kn⟩ := s
 have stay : ∃ s', (E ⟨ks, fr, st, kn⟩ = K s' ∨ E ⟨ks, fr, st, kn⟩ = E s') ∧ (XK P n n0 loose Q s' → XK P n n0 loose Q ⟨ks, fr, st, kn⟩) := ⟨_, .inr rfl, id⟩
 have go : ∀ s', (XK P n n0 loose Q s' → XK P n n0 loose Q ⟨ks, fr, st, kn⟩) → ∃ s2, (K s' = K s2 ∨ K s' = E s2) ∧ (XK P n n0 loose Q s2 → XK P n n0 loose Q ⟨ks, fr, st, kn⟩) := fun s' h => ⟨s', .inl rfl, h⟩
 unfold Ht
 match ks, stay, go with
 | [], stay, go => exact stay
 | .b id :: k, stay, go => exact go _ (fun h => h)
 | .s :: k, stay, go => exact go _ (fun h => h)
 | .r x j :: k, stay, go =>
  cases j with
  | zero => exact stay
  | succ j => exact go _ (fun h => h)
 | .c x :: k, stay, go =>
  cases x with
  | skip => exact go _ (fun h => XW.skip rfl h)
  | seq a b =>
   refine go _ (fun h => XW.seq (x := a) (y := b) rfl fun K hK => ?_)
   refine XW.mono (show XW P n n0 loose a (mo (XW P n n0 loose b (QK P n n0 loose k Q)) (QK P n n0 loose k Q)) fr st from h) ?_
   intro e f s hq
   cases e with
   | normal => exact hK _ _ hq
   | _ => exact hq
  | block id a => exact go _ (fun h => XW.block rfl h)
  | scope a => exact go _ (fun h => XW.scope _ _ _ _ rfl h)
  | region id ops d =>
   cases d with
   | true => exact stay
   | false => exact go _ (fun h => XO.region rfl h)
  | cond o a b =>
   simp only
   split
   ·split
    ·rename_i t hx
     cases t with
     | true => exact go _ (fun h => XW.cond (n := n) rfl hx (fun _ => h) (fun h => nomatch h))
     | false => exact go _ (fun h => XW.cond (n := n) rfl hx (fun h => nomatch h) (fun _ => h))
    ·exact stay
   ·exact stay
  | exit id =>
   simp only
   split
   ·rename_i k' hk
    exact go _ (fun h => XW.exit rfl (xi hk h))
   ·exact stay
  | _ => exact stay
 | .o ops l :: k, stay, go =>
  cases l with
  | nil => exact go _ (fun h => XO.nil h)
  | cons o l' =>
   simp only
   cases hu : EF u o with
   | true => exact stay
   | false =>
    simp only [cond_false]
    split
    ·rename_i hg
     have hg := vq hg
     split
     ·rename_i av st' hq
      obtain ⟨ob, hs', he, hob⟩ := H8 hq
      rw [Lu]
      rcases nQ (n := n) o.dst av fr (fun fr' => AE (Bb kn o fr) o.dst kn fun kn' => K ⟨.o ops l' :: k, fr', st', kn'⟩) (E ⟨.o ops (o :: l') :: k, fr, st, kn⟩) with ⟨fr', hp, e⟩ | e
      ·rw [e]
       obtain ⟨kn', ek⟩ := pY (Bb kn o fr) o.dst kn fun kn' => K ⟨.o ops l' :: k, fr', st', kn'⟩
       rw [ek]; exact go _ (fun h => XO.op hg he hob hp h)
      ·rw [e]; exact stay
     ·exact stay
    ·rename_i hg
     have hg := vq hg
     rcases nQ (n := n) o.dst (.tp []) fr (fun fr' => AE false o.dst kn fun kn' => K ⟨.o ops l' :: k, fr', st, kn'⟩) (E ⟨.o ops (o :: l') :: k, fr, st, kn⟩) with ⟨fr', hp, e⟩ | e
     ·rw [e]
      obtain ⟨kn', ek⟩ := pY false o.dst kn fun kn' => K ⟨.o ops l' :: k, fr', st, kn'⟩
      rw [ek]; exact go _ (fun h => XO.opN hg hp h)
     ·rw [e]; exact stay
    ·exact stay
 | .d ops l :: k, stay, go =>
  cases l with
  | nil => exact go _ (fun h => ⟨fr, DX.done rfl, h⟩)
  | cons o l' =>
   simp only
   cases hu : EF u o with
   | true => exact stay
   | false =>
    simp only [cond_false]
    split
    ·rename_i hg
     have hg := vq hg
     cases hqq : ll o.op with
     | false => exact stay
     | true =>
      simp only [cond_true]
      split
      ·rename_i av st' hq
       obtain ⟨ob, hs', he, hob⟩ := H8 hq
       have hmu : xn [] o = false := by unfold xn; split <;> rfl
       rw [hmu] at he
       rw [Lu]
       rcases nQ (n := n) o.dst av fr (fun fr' => AE (Bb kn o fr) o.dst kn fun kn' => K ⟨.d ops l' :: k, fr', st, kn'⟩) (E ⟨.d ops (o :: l') :: k, fr, st, kn⟩) with ⟨fr', hp, e⟩ | e
       ·rw [e]
        obtain ⟨kn', ek⟩ := pY (Bb kn o fr) o.dst kn fun kn' => K ⟨.d ops l' :: k, fr', st, kn'⟩
        rw [ek]
        exact go _ (fun ⟨fr2, h1, h2⟩ => ⟨fr2, DX.cons hp (.inl ⟨hg, Yd.ev hqq he hob⟩) h1, h2⟩)
       ·rw [e]; exact stay
      ·exact stay
    ·rename_i hg
     have hg := vq hg
     rcases nQ (n := n) o.dst (.tp []) fr (fun fr' => AE false o.dst kn fun kn' => K ⟨.d ops l' :: k, fr', st, kn'⟩) (E ⟨.d ops (o :: l') :: k, fr, st, kn⟩) with ⟨fr', hp, e⟩ | e
     ·rw [e]
      obtain ⟨kn', ek⟩ := pY false o.dst kn fun kn' => K ⟨.d ops l' :: k, fr', st, kn'⟩
      rw [ek]
      exact go _ (fun ⟨fr2, h1, h2⟩ => ⟨fr2, DX.cons hp (.inr ⟨hg, rfl⟩) h1, h2⟩)
     ·rw [e]; exact stay
    ·exact stay
 | .g X ops l tw :: k, stay, go =>
  cases l with
  | nil =>
   simp only
   cases ht : M3 ops X tw with
   | false => exact stay
   | true => exact go _ (fun h => GK.nil ht h)
  | cons o l' =>
   simp only
   cases hu : EF u o with
   | true => exact stay
   | false =>
    simp only [cond_false]
    split
    ·rename_i hg
     have hg := vq hg
     cases hqq : (ll o.op && !xn an o) with
     | false =>
      simp only [cond_false]
      split
      ·rename_i fr' T W st' hw
       simp only [Bz, vg]
       obtain ⟨kn', ek⟩ := pY false o.dst kn fun kn' => K ⟨.g X ops l' (tw ++ [(T, W)]) :: k, fr', st', kn'⟩
       rw [ek]
       exact go _ (fun h => GK.w hw h)
      ·exact stay
     | true =>
      simp only [cond_true]
      rw [Bool.and_eq_true] at hqq
      split
      ·rename_i av st' hq
       obtain ⟨ob, hs', he, hob⟩ := H8 hq
       have hmu : xn [] o = false := by unfold xn; split <;> rfl
       rw [hmu] at he
       rw [Lu]
       cases hc : G8 ops X o fr av with
       | false => exact stay
       | true =>
        simp only [cond_true]
        rcases nQ (n := n) o.dst av fr (fun fr' => AE (Bb kn o fr) o.dst kn fun kn' => K ⟨.g X ops l' (tw ++ [(rJ ops X o fr, [])]) :: k, fr', st, kn'⟩) (E ⟨.g X ops (o :: l') tw :: k, fr, st, kn⟩) with ⟨fr', hp, e⟩ | e
        ·rw [e]
         obtain ⟨kn', ek⟩ := pY (Bb kn o fr) o.dst kn fun kn' => K ⟨.g X ops l' (tw ++ [(rJ ops X o fr, [])]) :: k, fr', st, kn'⟩
         rw [ek]
         exact go _ (fun h => GK.yd (wB hp) hc (.inl ⟨hg, Yd.ev hqq.1 he hob⟩) h)
        ·rw [e]; exact stay
      ·exact stay
    ·rename_i hg
     have hg := vq hg
     cases hc : G8 ops X o fr (.tp []) with
     | false => exact stay
     | true =>
      simp only [cond_true]
      rcases nQ (n := n) o.dst (.tp []) fr (fun fr' => AE false o.dst kn fun kn' => K ⟨.g X ops l' (tw ++ [(rJ ops X o fr, [])]) :: k, fr', st, kn'⟩) (E ⟨.g X ops (o :: l') tw :: k, fr, st, kn⟩) with ⟨fr', hp, e⟩ | e
      ·rw [e]
       obtain ⟨kn', ek⟩ := pY false o.dst kn fun kn' => K ⟨.g X ops l' (tw ++ [(rJ ops X o fr, [])]) :: k, fr', st, kn'⟩
       rw [ek]
       exact go _ (fun h => GK.yd (wB hp) hc (.inr ⟨hg, rfl⟩) h)
      ·rw [e]; exact stay
    ·exact stay
def Ks {β : Type} (P : Program) (n : Nat) (an : List Nat) (u : Option Nat) : Nat → SS → (SS → β) → β
 | 0, s, E => E s
 | f + 1, s, E => Ht P n an u s (fun s' => Ks P n an u f s' E) E
theorem Aj {an : List Nat} {u : Option Nat} {Q : QT} {β : Type} : ∀ (f : Nat) (s : SS) (E : SS → β), ∃ s', Ks P n an u f s E = E s' ∧ (XK P n n0 loose Q s' → XK P n n0 loose Q s)
 | 0, s, E => ⟨s, rfl, id⟩
 | f + 1, s, E => by
  simp only [Ks]
  obtain ⟨s', h1, h2⟩ := KW (n0 := n0) (loose := loose) (Q := Q) (P := P) (n := n) (an := an) (u := u) s (fun s' => Ks P n an u f s' E) E
  rcases h1 with h1 | h1
  ·obtain ⟨s2, k1, k2⟩ := Aj f s' E
   exact ⟨s2, h1.trans k1, fun h => h2 (k2 h)⟩
  ·exact ⟨s', h1, h2⟩
def run (P : Program) (n : Nat) (an : List Nat) (s : SS) : SS := Ks P n an none 4000 s id
def Ei (P : Program) (n : Nat) (an : List Nat) (d : Nat) (s : SS) : SS := Ks P n an (some d) 4000 s id
theorem cK {an : List Nat} {Q : QT} {s : SS} (h : XK P n n0 loose Q (run P n an s)) : XK P n n0 loose Q s := by
 obtain ⟨s', h1, h2⟩ := Aj (n0 := n0) (loose := loose) (Q := Q) (P := P) (n := n) (an := an) (u := none) 4000 s id
 unfold run at h
 rw [h1] at h
 exact h2 h
theorem wY {an : List Nat} {d : Nat} {Q : QT} {s : SS} (h : XK P n n0 loose Q (Ei P n an d s)) : XK P n n0 loose Q s := by
 obtain ⟨s', h1, h2⟩ := Aj (n0 := n0) (loose := loose) (Q := Q) (P := P) (n := n) (an := an) (u := some d) 4000 s id
 unfold Ei at h
 rw [h1] at h
 exact h2 h
end
end Go.SX
namespace Go.SX
open Go
theorem gI.at1 {μ : Nat → Prop} {w : World} {v : Value} {els : List (List PV)} {i off : Nat} {c : List PV} (h : gI μ w v (.rp els i off)) (hc : els[i]? = some c) : gI μ w v (.rp [c] 0 off) := by
 cases h with
 | rp a sz _ _ _ vf hsz hb hcell hv =>
  have hm := List.mem_of_getElem? hc
  have hne : els ≠ [] := fun e => by subst e; simp at hc
  have e1 : a.add (i * sz + off) = (a.add (i * sz)).add (0 * sz + off) := by rw [wS]; simp
  rw [e1]
  refine .rp (a.add (i * sz)) sz [c] 0 off (fun _ j => vf i j) (fun e he => by simp at he; subst he; exact hsz _ hm) (fun _ => by rw [wA]; exact hb hne) ?_ ?_
  ·intro i' e j p h1 h2
   cases i' with
   | zero =>
    simp at h1; subst h1
    rw [wS]
    have := hcell i c j p hc h2
    rw [show i * sz + (0 * sz + j) = i * sz + j by simp]
    exact this
   | succ i' => simp at h1
  ·intro i' e j p h1 h2
   cases i' with
   | zero => simp at h1; subst h1; exact hv i c j p hc h2
   | succ i' => simp at h1
section
variable {P : Program} {n n0 : Nat} {loose an : List Nat} {Q Q1 : QT} {α β : Type} {T x y : Option β} {r : β} {s : SS}
structure GG (P : Program) (n n0 : Nat) (loose an : List Nat) {β : Type} (r : β) (Q : QT) (T : Option β) (s : SS) : Prop where
 go : T = some r → XK P n n0 loose Q s
instance : CoeFun (GG P n n0 loose an r Q T s) (fun _ => T = some r → XK P n n0 loose Q s) := ⟨GG.go⟩
theorem Yd.le {st : St} {o : Oper} {f : Fr} {av av' : AV} (h : Yd P n st o f av) (hl : ∀ ι w v, bh ι w st v av → bh ι w st v av') : Yd P n st o f av' :=
 fun ι w a hR hF K Q hK => h ι w a hR hF K Q fun v w' ι' h1 h2 h3 => hK v w' ι' (hl _ _ _ h1) h2 h3
def zx (s : SS) : Option (Oper × Fr) :=
 match s.ks with
 | .o ops (o :: _) :: _ => (match NX ops s.kn o s.fr with
  | some true => some (o, s.fr)
  | _ => none)
 | .d ops (o :: _) :: _ => (match NX ops s.kn o (dP ops o s.fr) with
  | some true => some (o, dP ops o s.fr)
  | _ => none)
 | .g _ ops (o :: _) _ :: _ => (match NX ops s.kn o (dP ops o s.fr) with
  | some true => some (o, dP ops o s.fr)
  | _ => none)
 | _ => none
def DR (s : SS) : St := match s.ks with
 | .g X ops (o :: _) _ :: _ => lO (bt (rJ ops X o s.fr)) 0 s.st
 | _ => s.st
def C2 (n : Nat) (av : AV) (s : SS) : SS :=
 match s with
 | ⟨.o ops (o :: l) :: k, fr, st, kn⟩ => fA av fun av => zr n o.dst av fr (fun fr' => AE false o.dst kn fun kn' => ⟨.o ops l :: k, fr', st, kn'⟩) s
 | ⟨.d ops (o :: l) :: k, fr, st, kn⟩ => fA av fun av => zr n o.dst av fr (fun fr' => AE false o.dst kn fun kn' => ⟨.d ops l :: k, fr', st, kn'⟩) s
 | ⟨.g X ops (o :: l) tw :: k, fr, st, kn⟩ => fA av fun av => bif G8 ops X o fr av then zr n o.dst av fr (fun fr' => AE false o.dst kn fun kn' => ⟨.g X ops l (tw ++ [(rJ ops X o fr, [])]) :: k, fr', st, kn'⟩) s else s
 | s => s
theorem XO.yd {ops : Array Oper} {o : Oper} {l : List Oper} {fr fr' : Fr} {st : St} {av : AV} (hg : dI ops o fr = some true) (h : Yd P n st o fr av) (hp : wO n o.dst av fr = some fr')
  (k : XO P n n0 loose ops l Q fr' st) : XO P n n0 loose ops (o :: l) Q fr st := by
 intro ι w a hR hF
 have hw := dQ hg hF
 refine wpList_step fun K hK => ?_
 rw [if_pos hw]
 refine h ι w a hR hF K _ fun v w' ι' hv hR' kk => ?_
 exact hK _ _ (gf (fun e a w h => h.trans (kk.weaken (fun _ _ => trivial))) (k ι' w' _ hR' (nm hp (hF.mono' kk) hv)))
theorem pG {o : Oper} {f : Fr} {av : AV} (he : zx s = some (o, f)) (h : Yd P n (DR s) o f av) (k : XK P n n0 loose Q (C2 n av s)) : XK P n n0 loose Q s := by
 obtain ⟨ks, fr, st, kn⟩ := s
 match ks, he with
 | .o ops (o' :: l) :: ks, he =>
  simp only [zx] at he
  split at he
  ·rename_i hg
   have hg := vq hg
   simp only [Option.some.injEq, Prod.mk.injEq] at he
   obtain ⟨rfl, rfl⟩ := he
   simp only [C2, yq] at k
   rcases nQ (n := n) o'.dst av fr (fun fr' => AE false o'.dst kn fun kn' => (⟨.o ops l :: ks, fr', st, kn'⟩ : SS)) ⟨.o ops (o' :: l) :: ks, fr, st, kn⟩ with ⟨fr', hp, e⟩ | e
   ·obtain ⟨kn', ek⟩ := pY false o'.dst kn fun kn' => (⟨.o ops l :: ks, fr', st, kn'⟩ : SS)
    rw [e, ek] at k; exact XO.yd hg h hp k
   ·rw [e] at k; exact k
  ·cases he
 | .d ops (o' :: l) :: ks, he =>
  simp only [zx] at he
  split at he
  ·rename_i hg
   have hg := vq hg
   simp only [Option.some.injEq, Prod.mk.injEq] at he
   obtain ⟨rfl, rfl⟩ := he
   simp only [C2, yq] at k
   rcases nQ (n := n) o'.dst av fr (fun fr' => AE false o'.dst kn fun kn' => (⟨.d ops l :: ks, fr', st, kn'⟩ : SS)) ⟨.d ops (o' :: l) :: ks, fr, st, kn⟩ with ⟨fr', hp, e⟩ | e
   ·obtain ⟨kn', ek⟩ := pY false o'.dst kn fun kn' => (⟨.d ops l :: ks, fr', st, kn'⟩ : SS)
    rw [e, ek] at k
    obtain ⟨fr2, k1, k2⟩ := k
    exact ⟨fr2, DX.cons hp (.inl ⟨hg, h⟩) k1, k2⟩
   ·rw [e] at k; exact k
  ·cases he
 | .g X ops (o' :: l) tw :: ks, he =>
  simp only [zx] at he
  split at he
  ·rename_i hg
   have hg := vq hg
   simp only [Option.some.injEq, Prod.mk.injEq] at he
   obtain ⟨rfl, rfl⟩ := he
   simp only [C2, yq] at k
   cases hc : G8 ops X o' fr av with
   | false => simp only [hc, cond_false] at k; exact k
   | true =>
    simp only [hc, cond_true] at k
    rcases nQ (n := n) o'.dst av fr (fun fr' => AE false o'.dst kn fun kn' => (⟨.g X ops l (tw ++ [(rJ ops X o' fr, [])]) :: ks, fr', st, kn'⟩ : SS)) ⟨.g X ops (o' :: l) tw :: ks, fr, st, kn⟩ with ⟨fr', hp, e⟩ | e
    ·obtain ⟨kn', ek⟩ := pY false o'.dst kn fun kn' => (⟨.g X ops l (tw ++ [(rJ ops X o' fr, [])]) :: ks, fr', st, kn'⟩ : SS)
     rw [e, ek] at k
     exact GK.yd (wB hp) hc (.inl ⟨hg, h⟩) k
    ·rw [e] at k; exact k
  ·cases he
def xC : List It → Bool
 | .c _ :: _ => true
 | .o _ _ :: _ => true
 | .b _ :: k => xC k
 | .s :: k => xC k
 | _ => false
theorem QK.sub {fr' : Fr} {st' : St} : ∀ {ks : List It} {fr : Fr} {st : St}, xC ks = true → su n n0 loose fr st fr' st' → QK P n n0 loose ks Q .normal fr' st' → QK P n n0 loose ks Q .normal fr st
 | .c _ :: _, _, _, _, hs, h => XW.sub hs h
 | .o _ _ :: _, _, _, _, hs, h => XO.sub hs h
 | .b _ :: k, _, _, ht, hs, h => QK.sub (ks := k) (by simpa [xC] using ht) hs h
 | .s :: k, _, _, ht, hs, h => QK.sub (ks := k) (by simpa [xC] using ht) hs h
theorem XK.sub {fr' fr : Fr} {st' st : St} {ks : List It} {kn kn' : List Nat} (ht : xC ks = true) (hs : su n n0 loose fr st fr' st') (h : XK P n n0 loose Q ⟨ks, fr', st', kn'⟩) : XK P n n0 loose Q ⟨ks, fr, st, kn⟩ := QK.sub ht hs h
def Iy (d : Nat) (av : AV) : Fr → Fr
 | [] => []
 | (t, a) :: f => bif Nat.beq t d then (t, av) :: f else (t, a) :: Iy d av f
theorem JJ (d : Nat) : ∀ f : Fr, Iy d (lk f d) f = f
 | [] => rfl
 | (t, a) :: f => by
  simp only [Iy, lk]
  cases hb : Nat.beq t d with
  | true => rfl
  | false => simp only [cond_false]; rw [JJ d f]
def Jr {β : Type} (d : Nat) (av : AV) : Fr → (Fr → β) → β
 | [], K => K []
 | (t, a) :: f, K => bif Nat.beq t d then K ((t, av) :: f) else Jr d av f fun f => K ((t, a) :: f)
theorem A9 {β : Type} (d : Nat) (av : AV) : ∀ (f : Fr) (K : Fr → β), Jr d av f K = K (Iy d av f)
 | [], K => rfl
 | (t, a) :: f, K => by
  simp only [Jr, Iy]
  cases Nat.beq t d with
  | true => rfl
  | false => simp only [cond_false]; exact A9 d av f _
def SQ (kn : List Nat) (o : Oper) : Option Nat := match o.op with
 | .pick (.tmp c) _ _ => bif kn.any (Nat.beq c) then none else some c
 | _ => none
def TX (ops : Array Oper) (kn : List Nat) (o : Oper) : Option Nat := match o.guard with
 | some (j, _) => (match (ops[j]?).bind (·.dst) with
  | some d => bif kn.any (Nat.beq d) then SQ kn o else some d
  | none => none)
 | none => SQ kn o
def Pf (s : SS) : Option Nat := match s.ks with
 | .o ops (o :: _) :: _ => TX ops s.kn o
 | .d ops (o :: _) :: _ => TX ops s.kn o
 | .g _ ops (o :: _) _ :: _ => TX ops s.kn o
 | _ => none
def bool? (a : AV) : Option Bool := match a with
 | .one (.pv (.s (.bool t))) => some t
 | _ => none
theorem bool?_eq {a : AV} {t : Bool} (h : bool? a = some t) : a = vb t := by
 unfold bool? at h
 split at h
 ·simp only [Option.some.injEq] at h; subst h; rfl
 ·cases h
def Ia (s : SS) : Option Bool :=
 match s.ks with
 | .c (.cond o _ _) :: _ => bool? (rv s.fr o)
 | _ => (match Pf s with
  | some d => bool? (lk s.fr d)
  | none => none)
def Kf (t : Bool) (s : SS) : SS :=
 match s with
 | ⟨ks, fr, st, kn⟩ => match ks with
  | .c (.cond o a b) :: k => (match t with
   | true => ⟨.c a :: k, fr, st, kn⟩
   | false => ⟨.c b :: k, fr, st, kn⟩)
  | ks => (match Pf ⟨ks, fr, st, kn⟩ with
   | some d => Jr d (vb t) fr fun fr => ⟨ks, fr, st, d :: kn⟩
   | none => ⟨ks, fr, st, kn⟩)
theorem RJ {ks : List It} {fr : Fr} {st : St} {kn : List Nat} {d : Nat} {t : Bool} (hd : Pf ⟨ks, fr, st, kn⟩ = some d) : Kf t ⟨ks, fr, st, kn⟩ = ⟨ks, Iy d (vb t) fr, st, d :: kn⟩ := by
 cases ks with
 | nil => simp [Pf] at hd
 | cons x k =>
  cases x with
  | c x => simp [Pf] at hd
  | b => simp [Pf] at hd
  | s => simp [Pf] at hd
  | r => simp [Pf] at hd
  | o ops l => simp only [Kf, hd, A9]
  | d ops l => simp only [Kf, hd, A9]
  | g X ops l tw => simp only [Kf, hd, A9]
theorem ug {t : Bool} (he : Ia s = some t) (k : XK P n n0 loose Q (Kf t s)) : XK P n n0 loose Q s := by
 obtain ⟨ks, fr, st, kn⟩ := s
 unfold Ia at he
 split at he
 ·rename_i o a b ks' hk
  simp only at hk
  subst hk
  have hx := bool?_eq he
  simp only [Kf] at k
  refine XW.cond (n := n) rfl hx (fun h => ?_) (fun h => ?_)
  ·subst h; exact k
  ·subst h; exact k
 ·rename_i hk
  split at he
  ·rename_i d hd
   have hx := bool?_eq he
   rw [RJ hd, ← hx] at k
   have k : QK P n n0 loose ks Q .normal (Iy d (lk fr d) fr) st := k
   rw [JJ] at k
   exact k
  ·cases he
theorem uC {t : Bool} (ht : GG P n n0 loose an r Q x (Kf true (run P n an s))) (hf : GG P n n0 loose an r Q y (Kf false (run P n an s)))
  (he : Ia (run P n an s) = some t := by kernel_rfl) : GG P n n0 loose an r Q (al t x y) s := by
 refine ⟨fun h => ?_⟩
 refine cK (an := an) ?_
 cases t with
 | true => exact ug he (ht h)
 | false => exact ug he (hf h)
theorem Sr {t : Bool} (ht : t = true → GG P n n0 loose an r Q x (Kf true (run P n an s))) (hf : t = false → GG P n n0 loose an r Q y (Kf false (run P n an s)))
  (he : Ia (run P n an s) = some t := by kernel_rfl) : GG P n n0 loose an r Q (al t x y) s := by
 refine ⟨fun h => ?_⟩
 refine cK (an := an) ?_
 cases t with
 | true => exact ug he (ht rfl h)
 | false => exact ug he (hf rfl h)
theorem uT (k : GG P n n0 loose an r Q T (Kf true (run P n an s))) (he : Ia (run P n an s) = some true := by kernel_rfl) : GG P n n0 loose an r Q T s :=
 ⟨fun h => cK (an := an) (ug he (k h))⟩
theorem uF (k : GG P n n0 loose an r Q T (Kf false (run P n an s))) (he : Ia (run P n an s) = some false := by kernel_rfl) : GG P n n0 loose an r Q T s :=
 ⟨fun h => cK (an := an) (ug he (k h))⟩
theorem uH {B b : Bool} (hb : B = b) (k : GG P n n0 loose an r Q T (Kf b (run P n an s))) (he : Ia (run P n an s) = some B := by kernel_rfl) : GG P n n0 loose an r Q T s :=
 ⟨fun h => cK (an := an) (ug (hb ▸ he) (k h))⟩
theorem gr {o : Option β} {p : Prop} (e : o = none) (h : o = some r) : p := by rw [e] at h; cases h
theorem Ur : GG P n n0 loose an r Q (none : Option β) s := ⟨fun h =>
 nomatch h⟩
def T6 (s : SS) : Option Nat := match zx s with
 | some (o, _) => (match o.op with
  | .indexAddr _ _ (.tmp t) => some t
  | .index _ _ (.tmp t) => some t
  | _ => none)
 | none => none
def Va (s : SS) : Option (IntKind × Int) := match T6 s with
 | some t => (match lk s.fr t with
  | .one (.pv (.s (.int k m))) => some (k, m)
  | _ => none)
 | none => none
def IA (P : Program) (s : SS) : Option (AV × List Prop) :=
 match zx s with
 | some (o, f) => bif ll o.op then (match ev P false o f (DR s) (Lb o f) with
  | some out => some (out.av, out.ob)
  | none => none) else none
 | none => none
theorem Iw {av : AV} {ob : List Prop} (he : IA P s = some (av, ob)) (hob : gX ob) : ∃ o f, zx s = some (o, f) ∧ Yd P n (DR s) o f av := by
 unfold IA at he
 split at he
 ·rename_i o f hd
  cases hq : ll o.op with
  | false => simp [hq] at he
  | true =>
   simp only [hq, cond_true] at he
   split at he
   ·rename_i out hev
    simp only [Option.some.injEq, Prod.mk.injEq] at he
    obtain ⟨rfl, rfl⟩ := he
    exact ⟨o, f, hd, Yd.ev hq hev hob⟩
   ·cases he
 ·cases he
theorem uV (av av' : AV) {ob : List Prop} (hob : gX ob) (hav : av = av') (k : GG P n n0 loose an r Q T (C2 n av' (run P n an s))) (he : IA P (run P n an s) = some (av, ob)) : GG P n n0 loose an r Q T s := by
 refine ⟨fun h => ?_⟩
 obtain ⟨o, f, h1, h2⟩ := Iw (n := n) he hob
 subst hav
 exact cK (an := an) (pG h1 h2 (k h))
def T2 (P : Program) (s : SS) : AV := match IA P s with
 | some (av, _) => av
 | none => .j
def T4 (P : Program) (s : SS) : Option (List Prop) := match IA P s with
 | some (_, ob) => some ob
 | none => none
theorem TO {ob : List Prop} (h : T4 P s = some ob) : IA P s = some (T2 P s, ob) := by
 unfold T4 at h
 unfold T2
 split at h
 ·rename_i av ob' he
  simp only [Option.some.injEq] at h
  subst h
  rw [he]
 ·cases h
def TE (P : Program) (s : SS) : Option AV :=
 match zx s with
 | some (o, f) => bif ll o.op then (match ev P false o f (DR s) (Lb o f) with
  | some out => (match out.ob with
   | [] => some out.av
   | _ => bif RH P s.kn o f then some out.av else none)
  | none => none) else none
 | none => none
theorem PM {av : AV} (he : TE P s = some av) : ∃ o f, zx s = some (o, f) ∧ Yd P n (DR s) o f av := by
 unfold TE at he
 split at he
 ·rename_i o f hd
  cases hq : ll o.op with
  | false => simp [hq] at he
  | true =>
   simp only [hq, cond_true] at he
   split at he
   ·rename_i out hev
    have hob : gX out.ob ∧ out.av = av := by
     split at he
     ·rename_i hob
      rw [hob]
      exact ⟨trivial, Option.some.inj he⟩
     ·cases hb : RH P s.kn o f with
      | false => simp [hb] at he
      | true => rw [hb] at he; exact ⟨Mv hb hev, Option.some.inj he⟩
    rw [← hob.2]
    exact ⟨o, f, hd, Yd.ev hq hev hob.1⟩
   ·cases he
 ·cases he
theorem uY (d : Nat) {e : α} (m : α → AV) {f : α → Option β} (k : ∀ y, GG P n n0 loose an r Q (f y) (C2 n (m y) (Ei P n an d s)))
  (he : TE P (Ei P n an d s) = some (m e) := by kernel_rfl) : GG P n n0 loose an r Q (aw (some e) f) s := by
 refine ⟨fun h => ?_⟩
 obtain ⟨o, g, h1, h2⟩ := PM (n := n) he
 exact wY (pG h1 h2 (k e h))
theorem Tn (d : Nat) {e : α} {p : Prop} [Decidable p] (m : α → AV) {f : α → Option β} (k : ∀ y, GG P n n0 loose an r Q (f y) (C2 n (m y) (Ei P n an d s)))
  (he : IA P (Ei P n an d s) = some (m e, [p]) := by kernel_rfl) : GG P n n0 loose an r Q (nX p (aw (some e) f)) s := by
 refine ⟨fun h => ?_⟩
 obtain ⟨hp, h⟩ := qH h
 obtain ⟨o, g, h1, h2⟩ := Iw (n := n) he ⟨hp, trivial⟩
 exact wY (pG h1 h2 (k e h))
theorem uG {p : Prop} [Decidable p] (k : GG P n n0 loose an r Q x (C2 n (T2 P (run P n an s)) (run P n an s))) (he : T4 P (run P n an s) = some [p] := by kernel_rfl) : GG P n n0 loose an r Q (nX p x) s := by
 refine ⟨fun h => ?_⟩
 obtain ⟨hp, h⟩ := qH h
 exact uV _ _ (ob := [p]) ⟨hp, trivial⟩ rfl k (TO he) h
def OG (P : Program) (s : SS) : Option (List (List PV) × Int × Nat) :=
 match zx s with
 | some (o, f) => (match o.op with
  | .indexAddr t x i => (match P.underlying t, rv f x, rv f i with
   | some (.slice e), .one (.pv (.ro els)), .one (.pv (.s (.int _ m))) => (match BL P e with
    | some es => some (els, m, es)
    | none => none)
   | _, _, _ => none)
  | _ => none)
 | none => none
theorem Ps {els : List (List PV)} {i : Int} {es : Nat} {c : List PV} (he : OG P s = some (els, i, es)) (h : 0 ≤ i ∧ i < (els.length : Int) ∧ jB es els) (hc : els[i.toNat]? = some c) :
  ∃ o f, zx s = some (o, f) ∧ Yd P n (DR s) o f (.one (.pv (.rp [c] 0 0))) := by
 unfold OG at he
 split at he
 ·rename_i o f hd
  refine ⟨o, f, hd, ?_⟩
  split at he
  ·rename_i t x i' ho
   split at he
   ·rename_i e els' k m hu hx hi
    split at he
    ·rename_i es' hes
     simp only [Option.some.injEq, Prod.mk.injEq] at he
     obtain ⟨rfl, rfl, rfl⟩ := he
     have hev : ev P false o f (DR s) [] = some ⟨.one (.pv (.rp els' m.toNat 0)), DR s, [0 ≤ m ∧ m < (els'.length : Int) ∧ jB es' els'], [], none⟩ := by
      unfold ev
      simp only [ho, hx, hi, KY, hu, hes]
     refine (Yd.ev (by rw [ho]; rfl) hev ⟨h, trivial⟩).le ?_
     intro ι w v hv
     cases om hv with
     | pv _ _ hp => exact .one _ _ (.pv _ _ (hp.at1 hc))
    ·cases he
   ·cases he
  ·cases he
 ·cases he
theorem uL (E : rn α) {xs : List α} {i : Int} {f : α → Option β} (k : ∀ e, at? xs i = some e → GG P n n0 loose an r Q (f e) (C2 n (.one (.pv (.rp [E.cells e] 0 0))) (run P n an s)))
  (he : OG P (run P n an s) = some (E.els xs, i, E.sz) := by kernel_rfl) : GG P n n0 loose an r Q (aw (at? xs i) f) s := by
 refine ⟨fun h => ?_⟩
 obtain ⟨e, ha, h⟩ := wE h
 obtain ⟨o, g, h1, h2⟩ := Ps (n := n) he (E.inb ha) (E.get ha)
 exact cK (an := an) (pG h1 h2 (k e ha h))
theorem uM (E : rn α) {xs : List α} {i : Int} {e : α} (ha : at? xs i = some e) (k : GG P n n0 loose an r Q T (C2 n (.one (.pv (.rp [E.cells e] 0 0))) (run P n an s)))
  (he : OG P (run P n an s) = some (E.els xs, i, E.sz) := by kernel_rfl) : GG P n n0 loose an r Q T s := by
 refine ⟨fun h => ?_⟩
 obtain ⟨o, g, h1, h2⟩ := Ps (n := n) he (E.inb ha) (E.get ha)
 exact cK (an := an) (pG h1 h2 (k h))
theorem uA (av : AV) (k : GG P n n0 loose an r Q T (C2 n av (run P n an s))) (he : IA P (run P n an s) = some (av, []) := by kernel_rfl) : GG P n n0 loose an r Q T s :=
 uV av av (ob := []) trivial rfl k he
theorem uN (E : rn α) (xs : List α) (k : GG P n n0 loose an r Q T (C2 n (vi (xs.length : Int)) (run P n an s)))
  (he : IA P (run P n an s) = some (vi ((E.els xs).length : Int), []) := by kernel_rfl) : GG P n n0 loose an r Q T s :=
 uV _ _ (ob := []) trivial (by rw [E.len]) k he
theorem uX (E : rn α) {xs : List α} {a b : Int} (k : GG P n n0 loose an r Q x (C2 n (vl E ((xs.drop a.toNat).take (b.toNat - a.toNat))) (run P n an s)))
  (he : IA P (run P n an s) = some (.one (.pv (.ro (((E.els xs).drop a.toNat).take (b.toNat - a.toNat)))), [(0 ≤ a ∧ a ≤ b ∧ b ≤ ((E.els xs).length : Int)) ∧ jB E.sz (E.els xs)]) := by kernel_rfl) :
  GG P n n0 loose an r Q (nX (0 ≤ a ∧ a ≤ b ∧ b ≤ (xs.length : Int)) x) s := by
 refine ⟨fun h => ?_⟩
 obtain ⟨hp, h⟩ := qH h
 exact uV _ _ (ob := [_]) ⟨E.cutOk hp, trivial⟩ (by rw [E.cut]) k he h
theorem T7 (E : rn α) {xs : List α} {a b m : Int} (k : GG P n n0 loose an r Q x (C2 n (vl E ((xs.drop a.toNat).take (b.toNat - a.toNat))) (run P n an s)))
  (he : IA P (run P n an s) = some (.one (.pv (.ro (((E.els xs).drop a.toNat).take (b.toNat - a.toNat)))), [(0 ≤ a ∧ a ≤ b ∧ b ≤ m ∧ m ≤ ((E.els xs).length : Int)) ∧ jB E.sz (E.els xs)]) := by kernel_rfl) :
  GG P n n0 loose an r Q (nX (0 ≤ a ∧ a ≤ b ∧ b ≤ m ∧ m ≤ (xs.length : Int)) x) s := by
 refine ⟨fun h => ?_⟩
 obtain ⟨hp, h⟩ := qH h
 exact uV _ _ (ob := [_]) ⟨E.cutMOk hp, trivial⟩ (by rw [E.cut]) k he h
def Tt (P : Program) (s : SS) : Option (Nat × List AV) :=
 match zx s with
 | some (o, f) => B0 P o f
 | none => none
theorem Pr {g : Nat} {avs : List AV} {v : AV} (he : Tt P s = some (g, avs)) (h : PC P g avs v) (hp : rT avs = true) (hr : wQ v = true) : ∃ o f, zx s = some (o, f) ∧ Yd P n (DR s) o f v := by
 unfold Tt at he
 split at he
 ·rename_i o f hd
  exact ⟨o, f, hd, Yd.call he h hp hr⟩
 ·cases he
def CT (P : Program) (f : Nat) (args : List AV) {β : Type} (T : Option β) (rv : β → AV) : Prop := ∀ r, T = some r → PC P f args (rv r)
theorem RD {α : Type} {o : Option α} {f : α → Option β} {g : Nat} {avs : List AV} {rv : α → AV} (c : CT P g avs o rv)
  (k : ∀ v, o = some v → GG P n n0 loose an r Q (f v) (C2 n (rv v) (run P n an s)))
  (he : Tt P (run P n an s) = some (g, avs) := by kernel_rfl) (hp : rT avs = true := by kernel_rfl) (hr : ∀ v, wQ (rv v) = true := by intro v; kernel_rfl) : GG P n n0 loose an r Q (aw o f) s := by
 refine ⟨fun h => ?_⟩
 obtain ⟨v, ho, h⟩ := wE h
 obtain ⟨o', f', h1, h2⟩ := Pr (n := n) he (c v ho) hp (hr v)
 exact cK (an := an) (pG h1 h2 (k v ho h))
def S7 : CV → CV
 | .pv (.s (.slice none 0 0)) => .pv (.ro [])
 | .cl els => .pv (.ro els)
 | c => c
def Rv : AV → AV
 | .one c => .one (S7 c)
 | .ag cs => .ag (cs.map S7)
 | a => a
theorem Ma (c : CV) : MK c (S7 c) := by
 unfold S7
 split
 ·exact .nl
 ·exact .cl _
 ·exact .rfl _
theorem NS (a : AV) : KF a (Rv a) := by
 unfold Rv
 split
 ·exact .one (Ma _)
 ·refine .ag (by simp) (fun i c c' h1 h2 => ?_)
  rw [List.getElem?_map, h1] at h2
  simp only [Option.map_some, Option.some.injEq] at h2
  subst h2
  exact Ma c
 ·exact .rfl _
theorem Cl.refl : ∀ l : List AV, Cl l l
 | [] => trivial
 | a :: l => ⟨.rfl _, Cl.refl l⟩
theorem Hb (l : List AV) : Cl l (l.map Rv) := by
 induction l with
 | nil => trivial
 | cons a l ih => exact ⟨NS a, ih⟩
def UH (P : Program) (s : SS) : Option (Nat × List AV) := match Tt P s with
 | some (g, l) => bif rT l then some (g, l.map Rv) else none
 | none => none
theorem uP {α : Type} {o : Option α} {f : α → Option β} {g : Nat} {avs : List AV} {rv : α → AV} (c : CT P g avs o rv)
  (k : ∀ v, o = some v → GG P n n0 loose an r Q (f v) (C2 n (rv v) (run P n an s)))
  (he : UH P (run P n an s) = some (g, avs) := by kernel_rfl) (hr : ∀ v, wQ (rv v) = true := by intro v; kernel_rfl) : GG P n n0 loose an r Q (aw o f) s := by
 refine ⟨fun h => ?_⟩
 obtain ⟨v, ho, h⟩ := wE h
 unfold UH at he
 split at he
 ·rename_i g' l hq
  cases hp : rT l with
  | false => simp [hp] at he
  | true =>
   simp only [hp, cond_true, Option.some.injEq, Prod.mk.injEq] at he
   obtain ⟨rfl, rfl⟩ := he
   obtain ⟨o', f', h1, h2⟩ := Pr (n := n) hq ((c v ho).le (Hb l)) hp (hr v)
   exact cK (an := an) (pG h1 h2 (k v ho h))
 ·cases he
structure KP (n n0 : Nat) (loose : List Nat) where
 p : Fr → St → Prop
 cl : ∀ {fr st fr' st'}, su n n0 loose fr st fr' st' → p fr' st' → p fr st
theorem yx (Q : QT) : ∀ l1 l2 : List It, QK P n n0 loose (l1 ++ l2) Q = QK P n n0 loose l1 (QK P n n0 loose l2 Q)
 | [], l2 => rfl
 | .b _ :: l, l2 => by simp only [List.cons_append, QK, yx Q l l2]
 | .s :: l, l2 => by simp only [List.cons_append, QK, yx Q l l2]
 | .c _ :: l, l2 => by simp only [List.cons_append, QK, yx Q l l2]
 | .o _ _ :: l, l2 => by simp only [List.cons_append, QK, yx Q l l2]
 | .d _ _ :: l, l2 => by simp only [List.cons_append, QK, yx Q l l2]
 | .g _ _ _ _ :: l, l2 => by simp only [List.cons_append, QK, yx Q l l2]
 | .r _ _ :: l, l2 => by simp only [List.cons_append, QK, yx Q l l2]
theorem IX (Q : QT) : mo (Q .normal) Q = Q := by funext e f s; cases e <;> rfl
def PF {α β : Type} : Nat → List α → (List α → β) → β
 | d + 1, x :: l, K => PF d l fun l => K (x :: l)
 | _, _, K => K []
def JC {α β : Type} : List α → List β → Bool
 | [], [] => true
 | _ :: l, _ :: m => JC l m
 | _, _ => false
def Tl {β : Type} (l2 : List It) : List It → (List It → β) → β
 | [], K => K []
 | x :: l, K => bif JC l2 (x :: l) then K [] else Tl l2 l fun l => K (x :: l)
def HV (l2 : List It) : List It → List It
 | [] => []
 | x :: l => bif JC l2 (x :: l) then x :: l else HV l2 l
theorem JO {β : Type} (l2 : List It) : ∀ (l : List It) (K : List It → β), ∃ l1, Tl l2 l K = K l1 ∧ l = l1 ++ HV l2 l
 | [], K => ⟨[], rfl, rfl⟩
 | x :: l, K => by
  obtain ⟨l1, h1, h2⟩ := JO l2 l (fun l => K (x :: l))
  unfold Tl HV
  cases hb : JC l2 (x :: l) with
  | true => exact ⟨[], rfl, rfl⟩
  | false => exact ⟨x :: l1, by simp only [cond_false, h1], by simp only [cond_false, List.cons_append]; rw [← h2]⟩
def R1 (l2 : List It) (s : SS) : SS := match s with
 | ⟨ks, fr, st, kn⟩ => Tl l2 ks fun ks => ⟨ks, fr, st, kn⟩
def Po : List Nat → Code → List It → List It
 | [], _, acc => acc
 | i :: p, c, acc => match c with
  | .seq a b => bif Nat.beq i 0 then Po p a (.c b :: acc) else Po p b acc
  | .block id a => Po p a (.b id :: acc)
  | .scope a => Po p a (.s :: acc)
  | .cond _ a b => bif Nat.beq i 0 then Po p a acc else Po p b acc
  | .loop x => Po p x []
  | _ => acc
def kS (fn : Func) (p : List Nat) (m : Nat) : List It := PF m (Po p (cd fn []) []) id
theorem JQ {l2 : List It} {s' : SS} (h : ∀ K : KP n n0 loose, (∀ {γ : Type} {T1 : Option γ} {r1 : γ} {f : Fr} {st : St}, T1 = some r1 → GG P n n0 loose an r1 Q T1 ⟨l2, f, st, []⟩ → K.p f st) → GG P n n0 loose an r (mo K.p (QK P n n0 loose l2 Q)) T (R1 l2 s'))
  (he : HV l2 s'.ks = l2) (ht : xC l2 = true) (hT : T = some r) : XK P n n0 loose Q s' := by
 have := h ⟨fun f st => XK P n n0 loose Q ⟨l2, f, st, []⟩, fun hs h => XK.sub ht hs h⟩ (fun hT g => g hT) hT
 obtain ⟨ks, fr, st, kn⟩ := s'
 obtain ⟨l1, e1, e3⟩ := JO l2 ks fun ks => (⟨ks, fr, st, kn⟩ : SS)
 have e : XK P n n0 loose Q ⟨ks, fr, st, kn⟩ = QK P n n0 loose (l1 ++ l2) Q .normal fr st := by
  simp only at he
  rw [he] at e3
  unfold XK
  rw [e3]
 rw [e, yx]
 have e2 : mo (fun f st => XK P n n0 loose Q ⟨l2, f, st, []⟩) (QK P n n0 loose l2 Q) = QK P n n0 loose l2 Q := IX (QK P n n0 loose l2 Q)
 unfold R1 at this
 simp only at this
 rw [e1] at this
 have t2 : QK P n n0 loose l1 (mo (fun f st => XK P n n0 loose Q ⟨l2, f, st, []⟩) (QK P n n0 loose l2 Q)) .normal fr st := this
 rw [e2] at t2
 exact t2
theorem uQ (l2 : List It) (h : ∀ K : KP n n0 loose, (∀ {γ : Type} {T1 : Option γ} {r1 : γ} {f : Fr} {st : St}, T1 = some r1 → GG P n n0 loose an r1 Q T1 ⟨l2, f, st, []⟩ → K.p f st) → GG P n n0 loose an r (mo K.p (QK P n n0 loose l2 Q)) T (R1 l2 (run P n an s)))
 (he : HV l2 (run P n an s).ks = l2 := by kernel_rfl) (ht : xC l2 = true := by kernel_rfl) : GG P n n0 loose an r Q T s := ⟨fun hT => cK (JQ h he ht hT)⟩
theorem UZ (d : Nat) (l2 : List It) (h : ∀ K : KP n n0 loose, (∀ {γ : Type} {T1 : Option γ} {r1 : γ} {f : Fr} {st : St}, T1 = some r1 → GG P n n0 loose an r1 Q T1 ⟨l2, f, st, []⟩ → K.p f st) → GG P n n0 loose an r (mo K.p (QK P n n0 loose l2 Q)) T (R1 l2 (Ei P n an d s)))
 (he : HV l2 (Ei P n an d s).ks = l2 := by kernel_rfl) (ht : xC l2 = true := by kernel_rfl) : GG P n n0 loose an r Q T s := ⟨fun hT => wY (JQ h he ht hT)⟩
def Ri : CV → CV → CV
 | .pv (.s (.slice none 0 0)), .pv (.ro _) => .pv (.ro [])
 | c, _ => c
def Kt : List CV → List CV → List CV
 | c :: l, e :: m => Ri c e :: Kt l m
 | l, _ => l
def Hh : AV → AV → AV
 | .one c, .one e => .one (Ri c e)
 | .ag l, .ag m => .ag (Kt l m)
 | a, _ => a
def IS : List AV → List AV → List AV
 | a :: l, e :: m => Hh a e :: IS l m
 | l, _ => l
def OE : AV → AV → AV
 | .tp l, .tp m => .tp (IS l m)
 | a, e => Hh a e
theorem Lt (c e : CV) : MK c (Ri c e) := by
 unfold Ri
 split
 ·exact .nl
 ·exact .rfl _
theorem Js : ∀ (l m : List CV), l.length = (Kt l m).length ∧ ∀ (i : Nat) c c', l[i]? = some c → (Kt l m)[i]? = some c' → MK c c'
 | [], m => by cases m <;> exact ⟨rfl, fun i c c' h => by simp at h⟩
 | c :: l, [] => ⟨rfl, fun i a b h1 h2 => by simp only [Kt] at h2; rw [h1] at h2; cases h2; exact .rfl _⟩
 | c :: l, e :: m => by
  obtain ⟨h1, h2⟩ := Js l m
  refine ⟨by simp only [Kt, List.length_cons]; omega, fun i a b q1 q2 => ?_⟩
  cases i with
  | zero => simp only [Kt, List.getElem?_cons_zero, Option.some.injEq] at q1 q2; subst q1; subst q2; exact Lt _ _
  | succ i => exact h2 i a b (by simpa using q1) (by simpa [Kt] using q2)
theorem Oy (a e : AV) : KF a (Hh a e) := by
 unfold Hh
 split
 ·exact .one (Lt _ _)
 ·obtain ⟨h1, h2⟩ := Js _ _
  exact .ag h1 h2
 ·exact .rfl _
def MR (fr : Fr) : Fr → Fr
 | [] => []
 | (t, e) :: l => (t, Hh (lk fr t) e) :: MR fr l
theorem Ge (fr : Fr) : ∀ fr0, Nq fr (MR fr fr0)
 | [] => trivial
 | (t, e) :: l => ⟨Oy _ _, Ge fr l⟩
def ye : Nat → St → List Nat
 | _, [] => []
 | i, .dead :: l => ye (i + 1) l
 | i, _ :: l => i :: ye (i + 1) l
def Ta (n0 : Nat) (fr0 : Fr) (st0 : St) (fr : Fr) (st : St) : Option (Fr × St) :=
 bif ((List.range n0).all (bt (ye 0 st0)) && (ye 0 st0).all (fun x => Nat.ble (x + 1) st0.length)) && fa (bt (ye 0 st0)) st0 then some (MR (pB (bt (ye 0 st0)) fr) fr0, wT (ye 0 st0) 0 (st.take st0.length)) else none
theorem Jl {fr0 fr : Fr} {st0 st : St} (he : Ta n0 fr0 st0 fr st = some (fr0, st0)) : su n n0 loose fr st fr0 st0 := by
 unfold Ta at he
 cases hb : ((List.range n0).all (bt (ye 0 st0)) && (ye 0 st0).all (fun x => Nat.ble (x + 1) st0.length)) && fa (bt (ye 0 st0)) st0 with
 | false => simp [hb] at he
 | true =>
  simp only [hb, cond_true, Option.some.injEq, Prod.mk.injEq] at he
  rw [Bool.and_eq_true] at hb
  refine su.trans (su.only (ye 0 st0) st0.length hb.1 rfl he.2 hb.2) ?_
  rw [← he.1]
  exact su.frame (Ge _ _)
def UO (n0 : Nat) (fr0 : Fr) (st0 : St) (s : SS) : Option (Fr × St) := match s.ks with
 | [] => Ta n0 fr0 st0 s.fr s.st
 | _ => none
theorem uJ {K : KP n n0 loose} {fr0 : Fr} {st0 : St} (j : T = some r → K.p fr0 st0) (he : UO n0 fr0 st0 (run P n an s) = some (fr0, st0) := by kernel_rfl) : GG P n n0 loose an r (mo K.p Q1) T s := by
 refine ⟨fun hT => ?_⟩
 refine cK (an := an) ?_
 unfold UO at he
 split at he
 ·rename_i hk
  unfold XK
  rw [hk]
  exact K.cl (Jl he) (j hT)
 ·cases he
def TL (s : SS) : Option (Code × List It) := match s.ks with
 | .c (.loop x) :: k => some (x, k)
 | _ => none
theorem uO (x' : Code) (k : List It) (h : ∀ (R : Nat → KP n n0 loose), (∀ {γ : Type} {T1 : Option γ} {r1 : γ} {j : Nat} {f : Fr} {st : St}, T1 = some r1 → GG P n n0 loose an r1 (mo (R j).p (QK P n n0 loose k Q)) T1 ⟨[.c x'], f, st, []⟩ → (R (j + 1)).p f st) →
   T = some r → (R aX).p (run P n an s).fr (run P n an s).st)
  (he : TL (run P n an s) = some (x', k) := by kernel_rfl) : GG P n n0 loose an r Q T s := by
 refine ⟨fun hT => ?_⟩
 refine cK (an := an) ?_
 have h1 := h (fun j => ⟨fun f st => XR P n n0 loose x' (QK P n n0 loose k Q) j f st, fun hs h => XR.sub hs h⟩) (fun h g => g h) hT
 generalize run P n an s = s' at *
 obtain ⟨ks, fr, st, kn⟩ := s'
 unfold TL at he
 split at he
 ·rename_i y k' hk
  simp only [Option.some.injEq, Prod.mk.injEq] at he
  obtain ⟨rfl, rfl⟩ := he
  subst hk
  exact XW.rounds aX rfl h1
 ·cases he
def Uq (j : Nat) (s : SS) : SS := match s with
 | ⟨ks, fr, st, kn⟩ => match ks with
  | .c (.loop x) :: k => ⟨.c x :: .r x j :: k, fr, st, kn⟩
  | ks => ⟨ks, fr, st, kn⟩
theorem MG (j : Nat) (g : GG P n n0 loose an r Q T (Uq j (run P n an s))) : GG P n n0 loose an r Q T s := by
 refine ⟨fun hT => ?_⟩
 refine cK (an := an) ?_
 have h1 := g hT
 generalize run P n an s = s' at *
 obtain ⟨ks, fr, st, kn⟩ := s'
 unfold Uq at h1
 simp only at h1
 split at h1
 ·exact XW.rounds (j + 1) rfl h1
 ·exact h1
theorem uE {K : KP n n0 loose} {fr0 fr : Fr} {st0 st : St} (j : T = some r → K.p fr0 st0) (he : Ta n0 fr0 st0 fr st = some (fr0, st0) := by kernel_rfl) : T = some r → K.p fr st :=
 fun hT => K.cl (Jl he) (j hT)
theorem uU {T' : Option β} (hu : T' = T) (g : GG P n n0 loose an r Q T s) : GG P n n0 loose an r Q T' s := hu ▸ g
def Tf (s : SS) : Option Exit := match s.ks with
 | .c (.exit id) :: k => bif (Da id k).isNone then some (.exit id) else none
 | .c .ret :: _ => some .ret
 | _ => none
structure RE (P : Program) (n n0 : Nat) (loose an : List Nat) {β : Type} (r : β) (e : Exit) (Q : QT) (T : Option β) (s : SS) : Prop where
 go : T = some r → Q e s.fr s.st
instance {e : Exit} : CoeFun (RE P n n0 loose an r e Q T s) (fun _ => T = some r → Q e s.fr s.st) := ⟨RE.go⟩
theorem uR (e : Exit) (g : RE P n n0 loose an r e Q T (run P n an s)) (he : Tf (run P n an s) = some e := by kernel_rfl) : GG P n n0 loose an r Q T s := by
 refine ⟨fun hT => ?_⟩
 have g := g hT
 refine cK (an := an) ?_
 generalize run P n an s = s' at *
 obtain ⟨ks, fr, st, kn⟩ := s'
 unfold Tf at he
 split at he
 ·rename_i id k0 hk
  simp only at hk
  subst hk
  cases hu : Da id k0 with
  | some k' => simp [hu] at he
  | none =>
   simp only [hu, Option.isNone_none, cond_true, Option.some.injEq] at he
   subst he
   exact XW.exit rfl (tP hu g)
 ·rename_i k0 hk
  simp only at hk
  subst hk
  simp only [Option.some.injEq] at he
  subst he
  exact XW.ret rfl (w8 g)
 ·cases he
def MH (e : Exit) (k : List It) : Option (List It) := match e with
 | .exit id => Da id k
 | _ => none
def TH : Exit → Bool
 | .ret => true
 | .exit _ => true
 | _ => false
theorem xM {e : Exit} {R : Fr → St → Prop} {k : List It} (g : GG P n n0 loose an r Q T ⟨(MH e k).getD [], s.fr, s.st, []⟩) (he : (MH e k).isSome = true := by kernel_rfl) : RE P n n0 loose an r e (mo R (QK P n n0 loose k Q)) T s := by
 refine ⟨fun hT => ?_⟩
 have g := g hT
 cases e <;> simp only [MH] at he g <;> try (cases he; done)
 rename_i id
 obtain ⟨k', hk⟩ := Option.isSome_iff_exists.1 he
 rw [hk] at g
 exact xi hk g
theorem xN {e : Exit} {R : Fr → St → Prop} {k : List It} (g : RE P n n0 loose an r e Q T s) (he : ((MH e k).isNone && TH e) = true := by kernel_rfl) : RE P n n0 loose an r e (mo R (QK P n n0 loose k Q)) T s := by
 refine ⟨fun hT => ?_⟩
 have g := g hT
 cases e with
 | exit id => exact tP (Option.isNone_iff_eq_none.1 (by simpa [MH, TH] using he)) g
 | ret => exact w8 g
 | _ => simp [TH] at he
theorem NE {st : St} {q : Nat → Bool} {c e : CV} (h : qo q (Ri c e) = true) : CF st q c (Ri c e) := by
 unfold Ri at *
 split
 ·exact .nl
 ·exact .rfl _ (by simpa using h)
theorem LF.same {st : St} {q : Nat → Bool} : ∀ {l : List CV}, zz q l = true → LF st q l l
 | [], _ => .nil
 | c :: l, h => by
  simp only [zz, Bool.and_eq_true] at h
  exact .cons (.rfl _ h.1) (LF.same h.2)
theorem MZ {st : St} {q : Nat → Bool} : ∀ {l m : List CV}, zz q (Kt l m) = true → LF st q l (Kt l m)
 | c :: l, e :: m, h => by
  simp only [Kt, zz, Bool.and_eq_true] at h
  exact .cons (NE h.1) (MZ h.2)
 | [], _, _ => by simp only [Kt]; exact .nil
 | c :: l, [], h => by simp only [Kt] at h ⊢; exact LF.same h
theorem AF.same {st : St} {q : Nat → Bool} : ∀ {a : AV}, em q a = true → AF st q a a
 | .j, _ => .j _
 | .one c, h => .one (.rfl _ h)
 | .ag l, h => .ag (LF.same h)
 | .tp [], _ => .tp0
 | .tp (a :: l), h => by
  simp only [em, em.go, Bool.and_eq_true] at h
  exact .tpc (AF.same h.1) (AF.same (a := .tp l) (by simpa [em] using h.2))
theorem Jx {st : St} {q : Nat → Bool} {a e : AV} (h : em q (Hh a e) = true) : AF st q a (Hh a e) := by
 unfold Hh at *
 split
 ·exact .one (NE (by simpa [em] using h))
 ·exact .ag (MZ (by simpa [em] using h))
 ·exact AF.same (by simpa using h)
theorem J0 {st : St} {q : Nat → Bool} : ∀ {l m : List AV}, em.go q (IS l m) = true → AF st q (.tp l) (.tp (IS l m))
 | c :: l, e :: m, h => by
  simp only [IS, em.go, Bool.and_eq_true] at h
  exact .tpc (Jx h.1) (J0 h.2)
 | [], _, _ => by simp only [IS]; exact .tp0
 | c :: l, [], h => by simp only [IS] at h ⊢; exact AF.same (a := .tp (c :: l)) (by simpa [em] using h)
theorem Mn {st : St} {q : Nat → Bool} {a e : AV} (h : em q (OE a e) = true) : AF st q a (OE a e) := by
 unfold OE at *
 split
 ·exact J0 (by simpa [em] using h)
 ·exact Jx (by simpa using h)
def RZ (P : Program) (fn : Func) (s : SS) (e : AV) : Option AV := match s8 P s.fr s.st fn.results.toList [] with
 | some (avs, []) => bif em (fun _ => false) (OE (xJ avs) e) then some (OE (xJ avs) e) else none
 | _ => none
theorem Qn {fn : Func} {e : Exit} {R : AV} (he : e = .normal ∨ e = .ret) (h : RZ P fn s R = some R) : FF P fn R e s.fr s.st := by
 unfold RZ at h
 split at h
 ·rename_i avs hr
  cases hi : em (fun _ => false) (OE (xJ avs) R) with
  | false => simp [hi] at h
  | true =>
   simp only [hi, cond_true, Option.some.injEq] at h
   have := Mn (st := s.st) hi
   rw [h] at this
   exact ⟨he, [], avs, [], hr, trivial, this⟩
 ·cases h
def IG (P : Program) (fn : Func) {β : Type} (rv : β → AV) (r : β) : QT := FF P fn (rv r)
theorem xF {fn : Func} {rv : β → AV} {v : β} (he : RZ P fn s (rv v) = some (rv v) := by kernel_rfl) : RE P n n0 loose an r .ret (IG P fn rv r) (some v) s := by
 refine ⟨fun h => ?_⟩
 simp only [Option.some.injEq] at h
 subst h
 show FF P fn (rv v) _ _ _
 exact Qn (.inr rfl) he
def Ru (args : List AV) : Fr := fF (og args 0) id
theorem dT {f : Nat} {args : List AV} {rv : β → AV} (n : Nat) (an : List Nat) (fn : Func) (g : ∀ r, GG P n 0 [] an r (IG P fn rv r) T ⟨[.c (cd fn [])], Ru args, [], []⟩)
  (hf : P.funcs[f]? = some fn := by kernel_rfl) (hb : fn.body = some (cd fn []) := by kernel_rfl) (hn : fn.ntmps = n := by kernel_rfl) (hl : Nat.ble args.length n = true := by rfl) : CT P f args T rv := by
 intro r hT
 refine PC.of hf hb hn (Nat.le_of_ble_eq_true hl) ?_
 have := g r hT
 unfold Ru at this
 rw [Bz] at this
 refine XW.mono (show XW P n 0 [] (cd fn []) (QK P n 0 [] [] (IG P fn rv r)) (og args 0) [] from ?_) (fun e f s h => h)
 have e : mo (XW P n 0 [] (cd fn []) (IG P fn rv r)) (IG P fn rv r) .normal (og args 0) [] := this
 exact e
theorem EN {f : Nat} {args : List AV} {rv : β → AV} (e : T = none) : CT P f args T rv := fun r h => gr e h
def UC (P : Program) (m : Nat) (s : SS) : Bool := match s.ks with
 | .c (.region _ ops true) :: _ => (xl ops && CC ops m) && P.follows .mixedOrders
 | _ => false
def U6 (m : Nat) (s : SS) : SS := match s with
 | ⟨.c (.region _ ops true) :: k, fr, st, kn⟩ => ⟨.d ops (ops.toList.take m) :: .o ops (ops.toList.drop m) :: k, fr, st, kn⟩
 | s => s
theorem oS (m : Nat) (k : GG P n n0 loose an r Q T (U6 m (run P n an s))) (he : UC P m (run P n an s) = true := by kernel_rfl) : GG P n n0 loose an r Q T s := by
 refine ⟨fun hT => ?_⟩
 have k := k hT
 refine cK (an := an) ?_
 generalize run P n an s = s' at *
 obtain ⟨ks, fr, st, kn⟩ := s'
 unfold UC at he
 split at he
 ·rename_i id ops k0 hk
  simp only at hk
  subst hk
  obtain ⟨fr', h1, h2⟩ := k
  exact XW.drwS (c := .region id ops true) m fr' rfl he h1 h2
 ·cases he
def Ut (P : Program) (n0 : Nat) (loose : List Nat) (m K : Nat) (X : List Nat) (s : SS) : Bool := match s.ks with
 | .c (.region _ ops true) :: _ => ((xl ops && CC ops m) && P.follows .mixedOrders) && (fa (fun i => !bt X i) s.st && Fs n0 loose X)
 | _ => false
def UD (m K : Nat) (X : List Nat) (s : SS) : SS := match s with
 | ⟨.c (.region _ ops true) :: k, fr, st, kn⟩ => fS (st ++ List.replicate K .dead) fun st => ⟨.g X ops (ops.toList.take m) [] :: .o ops (ops.toList.drop m) :: k, fr, st, kn⟩
 | s => s
theorem E2 {q : Nat → Bool} : ∀ {a b : St}, fa q a = true → fa q b = true → fa q (a ++ b) = true
 | [], b, _, h => h
 | x :: a, b, h, h2 => by
  simp only [List.cons_append, fa, Bool.and_eq_true] at h ⊢
  exact ⟨h.1, E2 h.2 h2⟩
theorem DH {q : Nat → Bool} : ∀ K : Nat, fa q (List.replicate K .dead) = true
 | 0 => rfl
 | K + 1 => by rw [List.replicate_succ]; simp only [fa, Bool.and_eq_true]; exact ⟨rfl, DH K⟩
theorem Hq (m K : Nat) (X : List Nat) (k : GG P n n0 loose an r Q T (UD m K X (run P n an s))) (he : Ut P n0 loose m K X (run P n an s) = true := by kernel_rfl) : GG P n n0 loose an r Q T s := by
 refine ⟨fun hT => ?_⟩
 have k := k hT
 refine cK (an := an) ?_
 generalize run P n an s = s' at *
 obtain ⟨ks, fr, st, kn⟩ := s'
 unfold Ut at he
 split at he
 ·rename_i id ops k0 hk
  simp only at hk
  subst hk
  simp only [UD, vg] at k
  obtain ⟨fr2, st2, tw2, h1, h2, h3⟩ := k
  simp only [Bool.and_eq_true] at he
  obtain ⟨he, he1, he2⟩ := he
  rw [List.nil_append] at h2
  unfold M3 at h2
  rw [Bool.and_eq_true] at h2
  have h4 : fa (fun i => !bt X i) (st ++ List.replicate K .dead) = true := E2 he1 (DH K)
  exact XW.sub (su.dead K) (XW.drwG (c := .region id ops true) m X tw2 fr2 st2 rfl (by simp only [Bool.and_eq_true]; exact ⟨he, ⟨h2, h4⟩, he2⟩) h1 h3)
 ·cases he
end
end Go.SX
namespace Go.SX
open Go
section
variable {P : Program} {n n0 : Nat} {loose an : List Nat} {Q Q1 : QT} {α β : Type} {T x y : Option β} {r : β} {s : SS} {fr : Fr} {st : St} {ops : Array Oper} {l : List Oper}
def HI (b : Bool) (a : AV) : AV := match b with
 | true => Rv a
 | false => a
theorem Q3 (b : Bool) (l : List AV) : Cl l (l.map (HI b)) := by
 cases b with
 | true => exact Hb l
 | false => rw [show l.map (HI false) = l from List.map_id l]; exact Cl.refl l
theorem xK.soft {ι : IM} {w : World} {vs : List Value} {asv : List AV} (b : Bool) (h : xK ι w st vs asv) : xK ι w st vs (asv.map (HI b)) := by
 obtain ⟨e1, e2⟩ := (Q3 b asv).get
 refine ⟨h.1.trans e1, fun j v a h1 h2 => ?_⟩
 have hlt : j < asv.length := by rw [e1]; exact (List.getElem?_eq_some_iff.1 h2).1
 exact (h.2 j v _ h1 (List.getElem?_eq_getElem hlt)).le (e2 j _ a (List.getElem?_eq_getElem hlt) h2)
def CM (P : Program) (f : Nat) (args : List AV) (sc : St) {β : Type} (T : Option β) (rv : β → AV) (nb : β → St) : Prop := ∀ r, T = some r → MC P f args sc (rv r) (nb r)
def Bh (P : Program) (fn : Func) (k : Nat) {β : Type} (rv : β → AV) (nb : β → St) (r : β) : QT := Kz P fn (rv r) k (nb r)
def Tk (st : St) : St := fS st id
theorem rF {f : Nat} {args : List AV} {sc : St} {rv : β → AV} {nb : β → St} (k n : Nat) (an : List Nat) (fn : Func) (g : ∀ r, GG P n k [] an r (Bh P fn k rv nb r) T ⟨[.c (cd fn [])], Ru args, Tk sc, []⟩)
  (hf : P.funcs[f]? = some fn := by kernel_rfl) (hb : fn.body = some (cd fn []) := by kernel_rfl) (hn : fn.ntmps = n := by kernel_rfl) (hl : Nat.ble args.length n = true := by rfl) (hk : sc.length = k := by rfl) : CM P f args sc T rv nb := by
 intro r hT
 refine MC.of k hf hb hn (Nat.le_of_ble_eq_true hl) hk ?_
 have := g r hT
 unfold Ru Tk at this
 rw [Bz, vg] at this
 refine XW.mono (show XW P n k [] (cd fn []) (QK P n k [] [] (Bh P fn k rv nb r)) (og args 0) sc from ?_) (fun e f s h => h)
 have e : mo (XW P n k [] (cd fn []) (Bh P fn k rv nb r)) (Bh P fn k rv nb r) .normal (og args 0) sc := this
 exact e
theorem PA {f : Nat} {args : List AV} {sc : St} {rv : β → AV} {nb : β → St} (e : T = none) : CM P f args sc T rv nb := fun r h => gr e h
def Ui (P : Program) (fn : Func) (k : Nat) (s : SS) (e : AV) : Option (AV × St) := match s8 P s.fr s.st fn.results.toList [] with
 | some (avs, []) => bif em (fun id => Nat.ble (id + 1) k) (OE (xJ avs) e) && fa (fun id => Nat.ble (id + 1) k) (s.st.take k) then some (OE (xJ avs) e, s.st.take k) else none
 | _ => none
theorem Ok {fn : Func} {k : Nat} {e : Exit} {R : AV} {sc : St} (he : e = .normal ∨ e = .ret) (h : Ui P fn k s R = some (R, sc)) : Kz P fn R k sc e s.fr s.st := by
 unfold Ui at h
 split at h
 ·rename_i avs hr
  cases hi : em (fun id => Nat.ble (id + 1) k) (OE (xJ avs) R) with
  | false => simp [hi] at h
  | true =>
   cases hs : fa (fun id => Nat.ble (id + 1) k) (s.st.take k) with
   | false => simp [hs] at h
   | true =>
    simp only [hi, hs, Bool.and_self, cond_true, Option.some.injEq, Prod.mk.injEq] at h
    have := Mn (st := s.st) hi
    rw [h.1] at this
    exact ⟨he, [], avs, [], hr, trivial, h.2, by rw [← h.2]; exact hs, this⟩
 ·cases h
theorem sk {fn : Func} {k : Nat} {rv : β → AV} {nb : β → St} {v : β} (he : Ui P fn k s (rv v) = some (rv v, nb v) := by kernel_rfl) : RE P n n0 loose an r .ret (Bh P fn k rv nb r) (some v) s := by
 refine ⟨fun h => ?_⟩
 simp only [Option.some.injEq] at h
 subst h
 exact Ok (.inr rfl) he
def cQ (b : Bool) (P : Program) (n : Nat) (s : SS) : Option (Nat × List AV) := match s.ks with
 | .o ops l :: _ => (match rc P n ops l s.fr with
  | some (g, avs) => some (g, avs.map (HI b))
  | none => none)
 | _ => none
def Ro (n : Nat) (av : AV) (st' : St) (s : SS) : SS := match s with
 | ⟨.o ops (o :: l) :: k, fr, _, kn⟩ => fA av fun av => fS st' fun st' => zr n o.dst av fr (fun fr' => AE false o.dst kn fun kn' => ⟨.o ops l :: k, fr', st', kn'⟩) s
 | s => s
theorem Fw {av : AV} {st' : St} {o : Oper} {k : List It} {kn : List Nat} : (∃ fr' kn', wO n o.dst av fr = some fr' ∧ Ro n av st' ⟨.o ops (o :: l) :: k, fr, st, kn⟩ = ⟨.o ops l :: k, fr', st', kn'⟩) ∨ Ro n av st' ⟨.o ops (o :: l) :: k, fr, st, kn⟩ = ⟨.o ops (o :: l) :: k, fr, st, kn⟩ := by
 simp only [Ro, yq, vg]
 rcases nQ (n := n) o.dst av fr (fun fr' => AE false o.dst kn fun kn' => (⟨.o ops l :: k, fr', st', kn'⟩ : SS)) ⟨.o ops (o :: l) :: k, fr, st, kn⟩ with ⟨fr', hp, e⟩ | e
 ·obtain ⟨kn', ek⟩ := pY false o.dst kn fun kn' => (⟨.o ops l :: k, fr', st', kn'⟩ : SS)
  exact .inl ⟨fr', kn', hp, by rw [e, ek]⟩
 ·exact .inr e
theorem XO.calmS (g : Nat) (avs avs0 : List AV) (sc sc' : St) (r : AV) (rs : List Nat) (fr' : Fr) (st' : St) (hc : rc P n ops l fr = some (g, avs0)) (b : Bool) (hs : avs0.map (HI b) = avs.map (xO (nZ rs st.length))) (h : MC P g avs sc r sc') (hb : Ja st.length rs sc sc' avs = true)
  (hst : rs.map (fun x => st[x]?) = sc.map (fun o => some (sB (nZ rs st.length) o))) (hst' : fJ st rs (sc'.map (sB (nZ rs st.length))) = st') (hput : zQ n l (xO (nZ rs st.length) r) fr = some fr')
  (hk : XO P n n0 loose ops (l.drop 1) Q fr' st') : XO P n n0 loose ops l Q fr st := by
 cases l with
 | nil => simp [rc] at hc
 | cons o rest =>
  simp only [rc] at hc
  split at hc
  ·rename_i hg
   intro ι w a hR hF
   obtain ⟨vs, hrun, hA⟩ := w9 hc hF
   have hA := hA.soft b
   rw [hs] at hA
   have hw := dQ hg hF
   refine wpList_step fun K hK => ?_
   rw [if_pos hw]
   simp only [Oper.wp, hrun, Oper.upon]
   refine (h.use' rs (La hb) hst hR hA).mono ?_
   rintro e w' ⟨v, ι', rfl, hR', hv, k⟩
   rw [hst'] at hR' hv k
   exact hK _ _ (gf (fun e a w h => h.trans (k.weaken (fun _ _ => trivial))) (hk ι' w' _ hR' (nm hput (hF.mono' k) hv)))
  ·simp at hc
theorem zW (b : Bool) (rs : List Nat) {o : Option α} {f : α → Option β} {g : Nat} {avs : List AV} {sc : St} {rv : α → AV} {nb : α → St} (c : CM P g avs sc o rv nb)
  (k : ∀ v, o = some v → GG P n n0 loose an r Q (f v) (Ro n (xO (nZ rs (run P n an s).st.length) (rv v)) (fJ (run P n an s).st rs ((nb v).map (sB (nZ rs (run P n an s).st.length)))) (run P n an s)))
  (h1 : cQ b P n (run P n an s) = some (g, avs.map (xO (nZ rs (run P n an s).st.length))) := by kernel_rfl) (h2 : ∀ v, Ja (run P n an s).st.length rs sc (nb v) avs = true := by intro v; kernel_rfl)
  (h3 : rs.map (fun x => (run P n an s).st[x]?) = sc.map (fun o => some (sB (nZ rs (run P n an s).st.length) o)) := by kernel_rfl) : GG P n n0 loose an r Q (aw o f) s := by
 refine ⟨fun h => ?_⟩
 obtain ⟨v, ho, h⟩ := wE h
 refine cK (an := an) ?_
 have k := k v ho h
 have h2 := h2 v
 generalize run P n an s = s' at *
 obtain ⟨ks, fr, st, kn⟩ := s'
 unfold cQ at h1
 split at h1
 ·rename_i ops l k' hk
  simp only at hk
  subst hk
  split at h1
  ·rename_i g' avs' hc
   simp only [Option.some.injEq, Prod.mk.injEq] at h1
   obtain ⟨rfl, h1⟩ := h1
   cases l with
   | nil => simp [rc] at hc
   | cons o' l =>
    rcases Fw (n := n) (av := xO (nZ rs st.length) (rv v)) (st' := fJ st rs ((nb v).map (sB (nZ rs st.length)))) (o := o') (ops := ops) (l := l) (fr := fr) (st := st) (k := k') (kn := kn) with ⟨fr', kn', hp, e⟩ | e
    ·rw [e] at k
     exact XO.calmS _ _ _ _ _ _ _ fr' _ hc b h1 (c v ho) h2 h3 rfl hp k
    ·rw [e] at k; exact k
  ·cases h1
 ·cases h1
def Uy (P : Program) (s : SS) : Option ByteArray := match s.ks with
 | .o ops l :: _ => G2 P ops l s.fr
 | _ => none
theorem Tq (t : ByteArray) (k : GG P n n0 loose an r Q T (Ro n (.one (.pt (run P n an s).st.length 0 0 0)) ((run P n an s).st ++ [.raw (.stringIter t 0)]) (run P n an s))) (he : Uy P (run P n an s) = some t := by kernel_rfl) : GG P n n0 loose an r Q T s := by
 refine ⟨fun h => cK (an := an) ?_⟩
 have k := k h
 generalize run P n an s = s' at *
 obtain ⟨ks, fr, st, kn⟩ := s'
 unfold Uy at he
 split at he
 ·rename_i ops l k' hk
  simp only at hk
  subst hk
  cases l with
  | nil => simp [G2] at he
  | cons o' l =>
   rcases Fw (n := n) (av := .one (.pt st.length 0 0 0)) (st' := st ++ [.raw (.stringIter t 0)]) (o := o') (ops := ops) (l := l) (fr := fr) (st := st) (k := k') (kn := kn) with ⟨fr', kn', hp, e⟩ | e
   ·rw [e] at k
    exact XO.rng t fr' _ he hp rfl k
   ·rw [e] at k; exact k
 ·cases he
def TK (s : SS) : Option Nat := match s.ks with
 | .o ops l :: _ => Bo ops l s.fr
 | _ => none
theorem Tc (id : Nat) {t : ByteArray} {pos : Nat}
  (k1 : decide (pos < t.size) = true → GG P n n0 loose an r Q x (Ro n (.tp [.one (.pv (.s (.bool true))), .one (.pv (.s (.int .i64 (Int.ofNat pos)))), .one (.pv (.s (.int .i32 (Int.ofNat (Utf8.decode t pos).1))))]) ((run P n an s).st.set id (.raw (.stringIter t (pos + (Utf8.decode t pos).2)))) (run P n an s)))
  (k2 : decide (pos < t.size) = false → GG P n n0 loose an r Q y (Ro n (.tp [.one (.pv (.s (.bool false)))]) (run P n an s).st (run P n an s)))
  (he : TK (run P n an s) = some id := by kernel_rfl) (ho : (run P n an s).st[id]? = some (.raw (.stringIter t pos)) := by kernel_rfl) : GG P n n0 loose an r Q (al (decide (pos < t.size)) x y) s := by
 refine ⟨fun h => cK (an := an) ?_⟩
 cases hp0 : decide (pos < t.size) with
 | true =>
  rw [hp0] at h
  have k := k1 hp0 h
  generalize run P n an s = s' at *
  obtain ⟨ks, fr, st, kn⟩ := s'
  unfold TK at he
  split at he
  ·rename_i ops l k' hk
   simp only at hk
   subst hk
   cases l with
   | nil => simp [Bo] at he
   | cons o' l =>
    rcases Fw (n := n) (av := .tp [.one (.pv (.s (.bool true))), .one (.pv (.s (.int .i64 (Int.ofNat pos)))), .one (.pv (.s (.int .i32 (Int.ofNat (Utf8.decode t pos).1))))]) (st' := st.set id (.raw (.stringIter t (pos + (Utf8.decode t pos).2)))) (o := o') (ops := ops) (l := l) (fr := fr) (st := st) (k := k') (kn := kn) with ⟨fr', kn', hp, e⟩ | e
    ·rw [e] at k
     exact XO.nxt id t pos fr' _ he ho hp rfl hp0 k
    ·rw [e] at k; exact k
  ·cases he
 | false =>
  rw [hp0] at h
  have k := k2 hp0 h
  generalize run P n an s = s' at *
  obtain ⟨ks, fr, st, kn⟩ := s'
  unfold TK at he
  split at he
  ·rename_i ops l k' hk
   simp only at hk
   subst hk
   cases l with
   | nil => simp [Bo] at he
   | cons o' l =>
    rcases Fw (n := n) (av := .tp [.one (.pv (.s (.bool false)))]) (st' := st) (o := o') (ops := ops) (l := l) (fr := fr) (st := st) (k := k') (kn := kn) with ⟨fr', kn', hp, e⟩ | e
    ·rw [e] at k
     exact XO.nxtE id t pos fr' he ho hp hp0 k
    ·rw [e] at k; exact k
  ·cases he
end
end Go.SX
namespace Go.SX
open Go
section
variable {P : Program} {n n0 : Nat} {loose an : List Nat} {Q Q1 : QT} {α β : Type} {T x y : Option β} {r : β} {s : SS} {fr : Fr} {st : St} {ops : Array Oper} {l : List Oper}
inductive BF (st : St) (q : Nat → Bool) : cC → cC → Prop where
 | same (o : cC) (h : lu q o = true) : BF st q o o
 | box {cells cells' : List CV} (h : LF st q cells cells') : BF st q (.box cells) (.box cells')
structure Fz (q : Nat → Bool) (st st' : St) : Prop where
 old : ∀ (id : Nat) o', st'[id]? = some o' → o' = .dead ∨ (q id = true ∧ ∃ o, st[id]? = some o ∧ BF st q o o')
 keep : ∀ id, q id = true → id < st.length → id < st'.length
theorem BF.alive {q : Nat → Bool} {o o' : cC} (h : BF st q o o') (ha : o'.alive) : o.alive := by
 cases h with
 | same => exact ha
 | box => simp [cC.alive]
theorem Fz.own {q : Nat → Bool} {st' : St} (h : Fz q st st') {ι : IM} {b : Nat} (ho : vr ι st' b) : ∃ id o, q id = true ∧ st[id]? = some o ∧ o.alive ∧ ι id = some b := by
 obtain ⟨id, o, h1, h2, h3⟩ := ho
 rcases h.old id o h1 with rfl | ⟨h4, o0, h5, h6⟩
 ·exact absurd rfl h2
 ·exact ⟨id, o0, h4, h5, h6.alive h2, h3⟩
theorem Fz.keeps {q : Nat → Bool} {st' : St} (h : Fz q st st') {ι : IM} {w : World} : cc (fun id => q id = true) ι w st ι w st' :=
 ⟨rfl, rfl, rfl, Nat.le_refl _, rfl, fun b _ hm => ⟨rfl, fun ho => by
  obtain ⟨id, o, _, h2, h3, h4⟩ := h.own ho
  exact hm ⟨id, o, h2, h3, h4⟩⟩, fun id hq hid => ⟨h.keep id hq hid, rfl⟩, fun _ c _ _ h => ⟨c, h, rfl⟩⟩
theorem dl.fzF {q : Nat → Bool} {st' : St} {ι : IM} {w : World} (r : gZ ι w st) (hs : Fz q st st') {v : Value} {c c' : CV} (h : dl ι w st v c) (hf : CF st q c c') : dl ι w st' v c' := by
 have k := hs.keeps (ι := ι) (w := w)
 cases hf with
 | rfl _ hc => exact h.mono k (q := q) (fun _ h _ => h) hc
 | nl =>
  have := bY (bh.one _ _ h)
  subst this
  exact .pv _ _ .nl
 | pt hid hq => exact h.boxed r (fun b => hs.own) (fun _ _ => k.pure) hid hq
 | fnp hid hq => exact h.boxfn r (fun b => hs.own) (fun _ _ => k.pure) hid hq
 | @sl id sz off len els els' ho hq hl he =>
  subst he
  have hlen : ((els.drop off).take len).length = len := by simp; omega
  cases h with
  | sn _ _ hid hb =>
   have : (els.drop 0).take 0 = [] := by simp
   rw [this]
   exact .pv _ _ .nl
  | sl _ _ _ _ b cap hid hb hcap hc =>
   rcases r.obj id _ ho with ⟨e1, _⟩ | ⟨b', c, ty, e1, e2, hcs, hsz, hcell⟩
   ·rw [hb] at e1; cases e1
   ·rw [hb] at e1; cases e1
    have hown : vr ι st b := ⟨id, _, ho, by simp [cC.alive], hb⟩
    have := gI.ro (μ := lq ι st') (w := w) ⟨b, off * sz, none⟩ cap sz ((els.drop off).take len) (fun i j => c.getD ((off + i) * sz + j) undef) (by rw [hlen]; exact hcap)
     (fun e he => hsz e (List.mem_of_mem_drop (List.mem_of_mem_take he)))
     (fun _ => ⟨dW e2, fun hm => by
      rcases hm with hm | hm
      ·exact r.dis b hown hm
      ·obtain ⟨id', o', hq', h5, h6, h7⟩ := hs.own hm
       have := r.inj id id' _ o' b ho h5 (by simp [cC.alive]) h6 hb h7
       subst this
       rw [hq] at hq'; cases hq'⟩)
     (fun i e j p h1 h2 => by
      rw [List.getElem?_take] at h1
      split at h1
      ·rw [List.getElem?_drop] at h1
       obtain ⟨u, a1, a2⟩ := hcell _ e j p h1 h2
       rw [add_lit, qF e2]
       rw [show off * sz + (i * sz + j) = (off + i) * sz + j by rw [Nat.add_mul]; omega, a1]
       simp [a1]
      ·cases h1)
     (fun i e j p h1 h2 => by
      rw [List.getElem?_take] at h1
      split at h1
      ·rw [List.getElem?_drop] at h1
       obtain ⟨u, a1, a2⟩ := hcell _ e j p h1 h2
       have : c.getD ((off + i) * sz + j) undef = u := by simp [a1]
       rw [this]
       exact k.pure a2
      ·cases h1)
    rw [hlen] at this
    exact .pv _ _ this
theorem fh.fzF {q : Nat → Bool} {st' : St} {ι : IM} {w : World} (r : gZ ι w st) (hs : Fz q st st') {cs cs' : List CV} (hf : LF st q cs cs') : ∀ {vs : List Value}, fh ι w st vs cs → fh ι w st' vs cs' := by
 induction hf with
 | nil => exact fun h => ⟨h.1, fun j v c h1 h2 => by simp at h2⟩
 | @cons c c' l l' hc hk ih =>
  intro vs hL
  match vs, hL with
  | [], hL => have := hL.1; simp at this
  | u :: us, hL =>
   have h0 := hL.2 0 u c rfl rfl
   have ht := ih (vs := us) ⟨by have := hL.1; simpa using this, fun j v c h1 h2 => hL.2 (j + 1) v c (by simpa using h1) (by simpa using h2)⟩
   refine ⟨by simp [ht.1], fun j v c h1 h2 => ?_⟩
   cases j with
   | zero => simp at h1 h2; subst h1; subst h2; exact h0.fzF r hs hc
   | succ j => exact ht.2 j v c (by simpa using h1) (by simpa using h2)
theorem bh.fzF {q : Nat → Bool} {st' : St} {ι : IM} {w : World} (r : gZ ι w st) (hs : Fz q st st') {v : Value} {a a' : AV} (h : bh ι w st v a) (hf : AF st q a a') : bh ι w st' v a' := by
 induction hf generalizing v with
 | j a => exact .j _
 | one hc => exact .one _ _ ((om h).fzF r hs hc)
 | @ag cs cs' hl =>
  obtain ⟨vs, rfl, hL⟩ := GC h
  exact .ag _ _ (hL.fzF r hs hl)
 | tp0 =>
  cases h with
  | tp vs _ hl h => exact .tp _ _ hl (fun j v a h1 h2 => by simp at h2)
 | @tpc a a' l l' ha hk ih1 ih2 =>
  cases h with
  | tp vs _ hl h =>
   match vs, hl with
   | [], hl => simp at hl
   | u :: us, hl =>
    have h0 := ih1 (h 0 u a rfl rfl)
    have ht := ih2 (.tp us l (by simpa using hl) (fun j v c h1 h2 => h (j + 1) v c (by simpa using h1) (by simpa using h2)))
    generalize hx : Value.tuple us.toArray = xv at ht
    generalize hy : AV.tp l' = ya at ht
    cases ht with
    | tp vs2 as2 hl2 h2 =>
     cases hy
     have : us = vs2 := by
      have := congrArg (fun v : Value => match v with | .tuple a => a.toList | _ => []) hx
      simpa using this
     subst this
     refine .tp _ _ (by simp [hl2]) (fun j v c h1 h3 => ?_)
     cases j with
     | zero => simp at h1 h3; subst h1; subst h3; exact h0
     | succ j => exact h2 j v c (by simpa using h1) (by simpa using h3)
    | _ => cases hy
theorem gZ.frz {q : Nat → Bool} {st' : St} {ι : IM} {w : World} (r : gZ ι w st) (h : Fz q st st') : gZ ι w st' := by
 have k := h.keeps (ι := ι) (w := w)
 refine ⟨fun id o ho => ?_, r.amb, fun b ho => ?_, fun id id' o o' b h1 h2 a1 a2 e1 e2 => ?_, r.glk k⟩
 ·rcases h.old id o ho with rfl | ⟨hq, o0, ho', hbf⟩
  ·trivial
  ·have := r.obj id o0 ho'
   cases hbf with
   | box hl =>
    obtain ⟨b', vs, ty, e', hb', hL⟩ := this
    exact ⟨b', vs, ty, e', hb', hL.fzF r h hl⟩
   | same _ hb =>
    cases o with
    | dead => trivial
    | box cells =>
     obtain ⟨b', vs, ty, e', hb', hl⟩ := this
     exact ⟨b', vs, ty, e', hb', hl.mono k (q := q) (fun _ h _ => h) hb⟩
    | rel Rm ps =>
     obtain ⟨b', ob, vs0, e', hb', hr0, hl0⟩ := this
     exact ⟨b', ob, vs0, e', hb', hr0, hl0.map fun _ _ h0 => k.pure h0⟩
    | arr sz els =>
     rcases this with ⟨e', he⟩ | ⟨b', c, ty, e', hb', h1, h2, h3⟩
     ·exact .inl ⟨e', he⟩
     ·refine .inr ⟨b', c, ty, e', hb', h1, h2, fun i e' j cv a1 a2 => ?_⟩
      obtain ⟨v, hv, hr⟩ := h3 i e' j cv a1 a2
      exact ⟨v, hv, k.pure hr⟩
 ·obtain ⟨id, o, _, h2, h3, h4⟩ := h.own ho
  exact r.dis b ⟨id, o, h2, h3, h4⟩
 ·rcases h.old id o h1 with rfl | ⟨_, o0, h5, q1⟩
  ·exact absurd rfl a1
  rcases h.old id' o' h2 with rfl | ⟨_, o1, h6, q2⟩
  ·exact absurd rfl a2
  exact r.inj id id' o0 o1 b h5 h6 (q1.alive a1) (q2.alive a2) e1 e2
theorem su.frz {q : Nat → Bool} {fr' : Fr} {st' : St} (h : Fz q st st') (hf : ∀ t, AF st q (lk fr t) (lk fr' t)) (hq : ∀ id, tM n0 loose id = true → q id = true) : su n n0 loose fr st fr' st' :=
 fun ι w a hR hF => ⟨ι, hR.frz h, ⟨hF.defers, hF.size, fun t => (hF.slot t).fzF hR h (hf t)⟩, h.keeps.weaken hq⟩
def SL (id : Nat) (els : List (List PV)) : CV → CV
 | .sl i sz off len => bif Nat.beq i id then .pv (.ro els) else .sl i sz off len
 | c => c
def S4 (id : Nat) (els : List (List PV)) : List CV → List CV
 | [] => []
 | c :: l => SL id els c :: S4 id els l
def UR (id : Nat) (els : List (List PV)) : AV → AV
 | .one c => .one (SL id els c)
 | .ag l => .ag (S4 id els l)
 | a => a
def Ts (id : Nat) : CV → List (Nat × Nat × Nat)
 | .sl i sz off len => bif Nat.beq i id then [(sz, off, len)] else []
 | _ => []
def Rw (id : Nat) : List CV → List (Nat × Nat × Nat)
 | [] => []
 | c :: l => Ts id c ++ Rw id l
def UI (id : Nat) : AV → List (Nat × Nat × Nat)
 | .one c => Ts id c
 | .ag l => Rw id l
 | _ => []
def UN (id : Nat) (els : List (List PV)) : cC → cC
 | .box l => .box (S4 id els l)
 | b => b
def UJ (id : Nat) : cC → List (Nat × Nat × Nat)
 | .box l => Rw id l
 | _ => []
def H1 (id : Nat) (els : List (List PV)) : Nat → St → St
 | _, [] => []
 | i, b :: l => (bif Nat.beq i id then .dead else UN id els b) :: H1 id els (i + 1) l
def ML (id : Nat) : St → List (Nat × Nat × Nat)
 | [] => []
 | b :: l => UJ id b ++ ML id l
def KX (id : Nat) : Nat → Bool := fun i => !Nat.beq i id
def Uk (id : Nat) (c : CV) : Bool := match c with
 | .sl .. => true
 | c => qo (KX id) c
def SG (id : Nat) : List CV → Bool
 | [] => true
 | c :: l => Uk id c && SG id l
def UF (id : Nat) : AV → Bool
 | .one c => Uk id c
 | .ag l => SG id l
 | a => em (KX id) a
def UA (id : Nat) : cC → Bool
 | .box l => SG id l
 | _ => true
theorem Jm {E : rn α} {xs : List α} {id : Nat} {L : List (Nat × Nat × Nat)} (h : ∀ p ∈ L, p = (E.sz, 0, xs.length)) {st : St} (hid : st[id]? = some (.arr E.sz (E.els xs))) {c : CV} (hc : ∀ p ∈ Ts id c, p ∈ L) (ho : Uk id c = true) : CF st (KX id) c (SL id (E.els xs) c) := by
 cases c with
 | sl i sz off len =>
  cases hb : Nat.beq i id with
  | true =>
   have := Nat.eq_of_beq_eq_true hb
   subst this
   have hp := h _ (hc (sz, off, len) (by simp [Ts]))
   simp only [Prod.mk.injEq] at hp
   obtain ⟨rfl, rfl, rfl⟩ := hp
   simp only [SL, hb, cond_true]
   exact Sb E xs hid (by simp [KX]) rfl
  | false =>
   simp only [SL, hb, cond_false]
   exact .rfl _ (by simp [qo, KX, hb])
 | _ => exact .rfl _ ho
theorem IT {E : rn α} {xs : List α} {id : Nat} {L : List (Nat × Nat × Nat)} (h : ∀ p ∈ L, p = (E.sz, 0, xs.length)) {st : St} (hid : st[id]? = some (.arr E.sz (E.els xs))) : ∀ {l : List CV}, (∀ p ∈ Rw id l, p ∈ L) → SG id l = true → LF st (KX id) l (S4 id (E.els xs) l)
 | [], _, _ => .nil
 | c :: l, hc, ho => by
  simp only [SG, Bool.and_eq_true] at ho
  exact .cons (Jm h hid (fun p hp => hc p (by simp [Rw, hp])) ho.1) (IT h hid (fun p hp => hc p (by simp [Rw, hp])) ho.2)
theorem Ql {E : rn α} {xs : List α} {id : Nat} {L : List (Nat × Nat × Nat)} (h : ∀ p ∈ L, p = (E.sz, 0, xs.length)) {st : St} (hid : st[id]? = some (.arr E.sz (E.els xs))) {a : AV} (hc : ∀ p ∈ UI id a, p ∈ L) (ho : UF id a = true) : AF st (KX id) a (UR id (E.els xs) a) := by
 cases a with
 | one c => exact .one (Jm h hid hc ho)
 | ag l => exact .ag (IT h hid hc ho)
 | _ => exact AF.same ho
theorem DP (id : Nat) (els : List (List PV)) : ∀ (st : St) (i j : Nat), (H1 id els i st)[j]? = (st[j]?).map fun b => bif Nat.beq (i + j) id then cC.dead else UN id els b
 | [], i, j => by simp [H1]
 | b :: l, i, 0 => by simp [H1]
 | b :: l, i, j + 1 => by simp only [H1, List.getElem?_cons_succ]; rw [DP id els l (i + 1) j, show i + 1 + j = i + (j + 1) by omega]
theorem Hj {id : Nat} : ∀ {st : St} {j : Nat} {b : cC}, st[j]? = some b → ∀ p ∈ UJ id b, p ∈ ML id st
 | [], j, b, h, p, hp => by simp at h
 | x :: l, 0, b, h, p, hp => by simp at h; subst h; simp [ML, hp]
 | x :: l, j + 1, b, h, p, hp => by simp only [ML, List.mem_append]; exact .inr (Hj (by simpa using h) p hp)
def Nk (id : Nat) (els : List (List PV)) (fr : Fr) : List Nat → Fr
 | [] => pB (KX id) fr
 | t :: ts => (t, UR id els (lk fr t)) :: Nk id els fr ts
def LW (id : Nat) (fr : Fr) : List Nat → List (Nat × Nat × Nat)
 | [] => []
 | t :: ts => UI id (lk fr t) ++ LW id fr ts
def Mk (id : Nat) (fr : Fr) : List Nat → Bool
 | [] => true
 | t :: ts => UF id (lk fr t) && Mk id fr ts
theorem JU {E : rn α} {xs : List α} {id : Nat} {L : List (Nat × Nat × Nat)} (h : ∀ p ∈ L, p = (E.sz, 0, xs.length)) {st : St} (hid : st[id]? = some (.arr E.sz (E.els xs))) : ∀ {ts : List Nat}, (∀ p ∈ LW id fr ts, p ∈ L) → Mk id fr ts = true → ∀ t, AF st (KX id) (lk fr t) (lk (Nk id (E.els xs) fr ts) t)
 | [], _, _, t => by
  simp only [Nk]
  rw [yn]
  cases hi : em (KX id) (lk fr t) with
  | false => exact .j _
  | true => exact AF.same hi
 | u :: ts, hc, ho, t => by
  simp only [Mk, Bool.and_eq_true] at ho
  simp only [Nk, lk]
  cases hb : Nat.beq u t with
  | true =>
   have := Nat.eq_of_beq_eq_true hb
   subst this
   exact Ql h hid (fun p hp => hc p (by simp [LW, hp])) ho.1
  | false => exact JU h hid (fun p hp => hc p (by simp [LW, hp])) ho.2 t
def Je (n0 id : Nat) (ts : List Nat) (s : SS) : Option (Nat × List (List PV) × List (Nat × Nat × Nat)) :=
 match s.st[id]? with
 | some (.arr sz els) => bif Nat.ble n0 id && (Mk id s.fr ts && s.st.all (UA id)) then some (sz, els, LW id s.fr ts ++ ML id s.st) else none
 | _ => none
def DV (id : Nat) (els : List (List PV)) (ts : List Nat) (s : SS) : SS := match s with
 | ⟨ks, fr, st, kn⟩ => fF (Nk id els fr ts) fun fr => fS (H1 id els 0 st) fun st => ⟨ks, fr, st, kn⟩
theorem M1 {E : rn α} {xs : List α} {id : Nat} {ts : List Nat} {L : List (Nat × Nat × Nat)} (he : Je n0 id ts s = some (E.sz, E.els xs, L)) (hL : ∀ p ∈ L, p = (E.sz, 0, xs.length)) :
  su n n0 loose s.fr s.st (DV id (E.els xs) ts s).fr (DV id (E.els xs) ts s).st := by
 unfold Je at he
 split at he
 ·rename_i sz els hid
  cases hb : Nat.ble n0 id && (Mk id s.fr ts && s.st.all (UA id)) with
  | false => simp [hb] at he
  | true =>
   simp only [hb, cond_true, Option.some.injEq, Prod.mk.injEq] at he
   obtain ⟨rfl, rfl, rfl⟩ := he
   simp only [Bool.and_eq_true] at hb
   obtain ⟨h1, h2, h3⟩ := hb
   obtain ⟨ks, fr, st, kn⟩ := s
   simp only [DV, Bz, vg]
   simp only at hid h2 h3 hL
   refine su.frz (q := KX id) ⟨fun i o' ho => ?_, fun i hq hi => ?_⟩ (JU hL hid (fun p hp => by simp [hp]) h2) (fun i hi => ?_)
   ·rw [DP, Nat.zero_add, Option.map_eq_some_iff] at ho
    obtain ⟨b, hb, e⟩ := ho
    cases hbi : Nat.beq i id with
    | true => simp only [hbi, cond_true] at e; exact .inl e.symm
    | false =>
     simp only [hbi, cond_false] at e
     refine .inr ⟨by simp [KX, hbi], b, hb, ?_⟩
     subst e
     have hok := List.all_eq_true.1 h3 b (List.mem_of_getElem? hb)
     cases b with
     | box l => exact .box (IT hL hid (fun p hp => by simp only [List.mem_append]; exact .inr (Hj hb p hp)) hok)
     | _ => exact .same _ rfl
   ·have : (H1 id (E.els xs) 0 st)[i]? ≠ none := by
     rw [DP]
     simp [hi]
    simp only [ne_eq, List.getElem?_eq_none_iff] at this
    omega
   ·have h4 := Nat.le_of_ble_eq_true h1
    simp only [tM, Bool.and_eq_true] at hi
    have h5 := Nat.le_of_ble_eq_true hi.1
    have : i ≠ id := by omega
    simp only [KX, BO this, Bool.not_false]
 ·cases he
theorem No {id : Nat} {els : List (List PV)} {ts : List Nat} : (DV id els ts s).ks = s.ks := by
 obtain ⟨ks, fr, st, kn⟩ := s
 simp only [DV, Bz, vg]
def Ot {γ : Type} (y : γ) (l : List γ) : List γ := l.map fun _ => y
theorem Oh {γ : Type} {y : γ} {l : List γ} (h : l = Ot y l) : ∀ p ∈ l, p = y := by
 intro p hp
 rw [h] at hp
 simp only [Ot, List.mem_map] at hp
 obtain ⟨_, _, e⟩ := hp
 exact e.symm
def JY (n0 id : Nat) (ts : List Nat) (s : SS) : List (Nat × Nat × Nat) := match Je n0 id ts s with
 | some (_, _, L) => L
 | none => []
theorem Kj (E : rn α) (xs : List α) (id : Nat) (ts : List Nat) (k : GG P n n0 loose an r Q T (DV id (E.els xs) ts (run P n an s))) (he : Je n0 id ts (run P n an s) = some (E.sz, E.els xs, Ot (E.sz, 0, xs.length) (JY n0 id ts (run P n an s))) := by kernel_rfl)
  (ht : xC (run P n an s).ks = true := by kernel_rfl) : GG P n n0 loose an r Q T s := by
 refine ⟨fun h => cK (an := an) ?_⟩
 have hL := he
 have e : JY n0 id ts (run P n an s) = Ot (E.sz, 0, xs.length) (JY n0 id ts (run P n an s)) := by
  conv => lhs; unfold JY; rw [he]
 have hs := M1 (n := n) (loose := loose) he (by rw [← e]; exact Oh e)
 have k := k h
 refine QK.sub ht hs ?_
 have : XK P n n0 loose Q (DV id (E.els xs) ts (run P n an s)) := k
 unfold XK at this
 rw [No] at this
 exact this
def Uw : List CV → List PV
 | .pv p :: l => p :: Uw l
 | _ => []
def US (id : Nat) (ps : List PV) : CV → CV
 | .pt i sz k off => bif Nat.beq i id then .pv (.rp [ps] k off) else .pt i sz k off
 | .fn f [.pt i sz k off] => bif Nat.beq i id then .fn f [.pv (.rp [ps] k off)] else .fn f [.pt i sz k off]
 | c => c
def U9 (id : Nat) (ps : List PV) : AV → AV
 | .one c => .one (US id ps c)
 | a => a
def U8 (id : Nat) (s : SS) : List PV := match s.st[id]? with
 | some (.box cells) => Uw cells
 | _ => []
inductive Cv where
 | li (t sz : Nat)
 | sf (t : Nat)
 | lb (bx j sz : Nat)
 | sb (bx j : Nat)
 | stl (bx j : Nat)
 | sw (a b : Nat)
 | dd (k : Nat)
def N4 (n0 : Nat) (loose : List Nat) (c : Cv) (fr : Fr) (st : St) : Option (Fr × St) := match c with
 | .li t sz => (match lk fr t with
  | .one (.pv (.s (.slice none 0 0))) => some ((t, .one (.sl st.length sz 0 0)) :: fr, st ++ [.arr sz []])
  | _ => none)
 | .sf t => some ((t, Rv (lk fr t)) :: fr, st)
 | .lb bx j sz => (match st[bx]? with
  | some (.box cells) => (match cells[j]? with
   | some (.pv (.s (.slice none 0 0))) => some (fr, (st ++ [cC.arr sz []]).set bx (.box (cells.set j (.sl st.length sz 0 0))))
   | _ => none)
  | _ => none)
 | .sb bx j => (match st[bx]? with
  | some (.box cells) => (match cells[j]? with
   | some (.pv (.s (.slice none 0 0))) => some (fr, st.set bx (.box (cells.set j (.pv (.ro [])))))
   | _ => none)
  | _ => none)
 | .stl bx j => (match st[bx]? with
  | some (.box cells) => (match cells[j]? with
   | some (.sl id sz off len) => some (fr, (st ++ [cC.dead]).set bx (.box (cells.set j (.sl st.length sz off len))))
   | _ => none)
  | _ => none)
 | .dd k => some (fr, st ++ List.replicate k .dead)
 | .sw a b => bif (Nat.ble (a + 1) st.length && Nat.ble (b + 1) st.length) && !(tM n0 loose a || tM n0 loose b) then some (Jg a b fr, zT a b st) else none
theorem LZ {c : Cv} {fr' : Fr} {st' : St} (h : N4 n0 loose c fr st = some (fr', st')) : su n n0 loose fr st fr' st' := by
 unfold N4 at h
 cases c with
 | li t sz =>
  simp only at h
  split at h
  ·rename_i hl
   simp only [Option.some.injEq, Prod.mk.injEq] at h
   obtain ⟨rfl, rfl⟩ := h
   exact su.list hl
  ·cases h
 | sf t =>
  simp only [Option.some.injEq, Prod.mk.injEq] at h
  obtain ⟨rfl, rfl⟩ := h
  intro ι w a hR hF
  refine ⟨ι, hR, ⟨hF.defers, hF.size, fun t' => ?_⟩, .refl⟩
  simp only [lk]
  cases hb : Nat.beq t t' with
  | true =>
   have := Nat.eq_of_beq_eq_true hb
   subst this
   exact (hF.slot t).le (NS _)
  | false => exact hF.slot t'
 | lb bx j sz =>
  simp only at h
  split at h
  ·rename_i cells hb
   split at h
   ·rename_i hj
    simp only [Option.some.injEq, Prod.mk.injEq] at h
    obtain ⟨rfl, rfl⟩ := h
    exact su.listb bx j sz cells hb hj _ rfl
   ·cases h
  ·cases h
 | sb bx j =>
  simp only at h
  split at h
  ·rename_i cells hb
   split at h
   ·rename_i hj
    simp only [Option.some.injEq, Prod.mk.injEq] at h
    obtain ⟨rfl, rfl⟩ := h
    exact su.softb bx j cells hb hj _ rfl
   ·cases h
  ·cases h
 | stl bx j =>
  simp only at h
  split at h
  ·rename_i cells hb
   split at h
   ·rename_i id sz off len hj
    simp only [Option.some.injEq, Prod.mk.injEq] at h
    obtain ⟨rfl, rfl⟩ := h
    exact su.stale bx j id sz off len cells hb hj _ rfl
   ·cases h
  ·cases h
 | dd k =>
  simp only [Option.some.injEq, Prod.mk.injEq] at h
  obtain ⟨rfl, rfl⟩ := h
  exact su.dead k
 | sw a b =>
  simp only at h
  cases hb : (Nat.ble (a + 1) st.length && Nat.ble (b + 1) st.length) && !(tM n0 loose a || tM n0 loose b) with
  | false => rw [hb] at h; cases h
  | true =>
   rw [hb] at h
   simp only [cond_true, Option.some.injEq, Prod.mk.injEq] at h
   obtain ⟨rfl, rfl⟩ := h
   simp only [Bool.and_eq_true, Bool.not_eq_true'] at hb
   exact su.swap a b _ _ (by simp only [Bool.and_eq_true]; exact hb.1) hb.2 rfl rfl
def RY (n0 : Nat) (loose : List Nat) (c : Cv) (s : SS) : SS := match s with
 | ⟨ks, fr, st, kn⟩ => match N4 n0 loose c fr st with
  | some (fr', st') => fF fr' fun fr' => fS st' fun st' => ⟨ks, fr', st', kn⟩
  | none => ⟨ks, fr, st, kn⟩
theorem PQ (c : Cv) (s : SS) : (RY n0 loose c s).ks = s.ks ∧ su n n0 loose s.fr s.st (RY n0 loose c s).fr (RY n0 loose c s).st := by
 obtain ⟨ks, fr, st, kn⟩ := s
 unfold RY
 simp only
 cases hd : N4 n0 loose c fr st with
 | none => exact ⟨rfl, fun ι w a hR hF => ⟨ι, hR, hF, .refl⟩⟩
 | some p =>
  obtain ⟨fr', st'⟩ := p
  simp only [Bz, vg]
  exact ⟨trivial, LZ hd⟩
theorem CN (c : Cv) (k : GG P n n0 loose an r Q T (RY n0 loose c (run P n an s))) (ht : xC (run P n an s).ks = true := by kernel_rfl) : GG P n n0 loose an r Q T s := by
 refine ⟨fun h => cK (an := an) ?_⟩
 have k := k h
 obtain ⟨e, hs⟩ := PQ (n := n) (n0 := n0) (loose := loose) c (run P n an s)
 unfold XK at k
 rw [e] at k
 exact QK.sub ht hs k
end
end Go.SX
namespace Go.SX
open Go
section
variable {P : Program} {n n0 : Nat} {loose an : List Nat} {Q Q1 : QT} {α β : Type} {T x y : Option β} {r : β} {s : SS} {fr : Fr} {st : St} {ops : Array Oper} {l : List Oper}
def NU (X : List Nat) (ops : Array Oper) (o : Oper) (fr : Fr) (st : St) (mv : Option Nat) : List Nat × List Nat := match mv with
 | none => (v6 X (cE ops o fr), cE ops o fr ++ [])
 | some id => (match st[id]? with
  | some .dead => (v6 X (id :: cE ops o fr), (id :: cE ops o fr) ++ [id + 1000])
  | _ => (v6 X (cE ops o fr), cE ops o fr ++ [id + 1000]))
def Iq (st : St) (mv : Option Nat) : Bool := match mv with
 | none => true
 | some id => (match st[id]? with
  | some .dead => false
  | _ => true)
def dN (o : Oper) : Nat := match o.dst with
 | some d => d + 1
 | none => 0
def Rr (P : Program) (an X : List Nat) (ops : Array Oper) (o : Oper) (fr : Fr) (st : St) (hs : HS) : Option zY :=
 match ev P (xn an o) o (dP ops o fr) (lO (bt (cE ops o fr)) 0 st) hs with
 | some out => bif Nat.beq out.st.length st.length then
   bif (!xn an o && Pn (dN o) ops X o fr st (cE ops o fr) out) && (Lf st (cE ops o fr) && Iq st out.mv) then some ⟨out.av, jg (bt (cE ops o fr)) 0 st out.st, out.ob, out.hs, out.mv⟩ else none
  else (match Ko X st, out.st.drop st.length with
   | some id, [b] => bif O4 (dN o) ops X id o fr st (cE ops o fr) out b && Lf st (id :: cE ops o fr) then some ⟨xO (DD st.length id) out.av, (jg (bt (cE ops o fr)) 0 st (out.st.take st.length)).set id b, out.ob, out.hs, some id⟩ else none
   | _, _ => none)
 | none => none
theorem Lp {o : Oper} (h : ∀ d, o.dst = some d → d < n) : uw n o = true := by
 unfold uw
 cases hd : o.dst with
 | none => rfl
 | some d => exact Nat.ble_eq_true_of_le (h d hd)
theorem Sm {X T : List Nat} {o : Oper} {out : zY} (h : Pn (dN o) ops X o fr st T out = true) (hd : uw n o = true) : Pn n ops X o fr st T out = true := by
 unfold Pn at h ⊢
 simp only [Bool.and_eq_true] at h ⊢
 exact ⟨⟨⟨hd, h.1.1.2⟩, h.1.2⟩, h.2⟩
theorem Sq {X T : List Nat} {id : Nat} {o : Oper} {out : zY} {b : cC} (h : O4 (dN o) ops X id o fr st T out b = true) (hd : uw n o = true) : O4 n ops X id o fr st T out b = true := by
 unfold O4 at h ⊢
 simp only [Bool.and_eq_true] at h ⊢
 exact ⟨⟨⟨⟨⟨hd, h.1.1.1.1.2⟩, h.1.1.1.2⟩, h.1.1.2⟩, h.1.2⟩, h.2⟩
theorem Jv (m : Nat) : (fun id => !bt [m] id) = mE (some m) := by funext id; simp [bt, mE]
def Rz (P : Program) (an : List Nat) (hs : HS) (s : SS) : Option zY := match s.ks with
 | .g X ops (o :: _) _ :: _ => (match NX ops s.kn o (dP ops o s.fr) with
  | some true => Rr P an X ops o s.fr s.st hs
  | _ => none)
 | .o ops (o :: _) :: _ => (match NX ops s.kn o s.fr with
  | some true => ev P (xn an o) o s.fr s.st hs
  | _ => none)
 | _ => none
def Ey {β : Type} (q : Nat → Bool) : Fr → (Fr → β) → β
 | [], K => K []
 | (d, av) :: fr, K => match em q av with
  | true => Ey q fr fun fr => K ((d, av) :: fr)
  | false => Ey q fr fun fr => K ((d, .j) :: fr)
theorem DQ {β : Type} (q : Nat → Bool) : ∀ (fr : Fr) (K : Fr → β), Ey q fr K = K (pB q fr)
 | [], K => rfl
 | (d, av) :: fr, K => by
  simp only [Ey, pB]
  cases em q av <;> simp only [DQ q fr, cond_true, cond_false]
def T8 {β : Type} (mv : Option Nat) (fr : Fr) (K : Fr → β) : β := match mv with
 | none => K fr
 | some m => Ey (mE (some m)) fr K
theorem HT {β : Type} (mv : Option Nat) (fr : Fr) (K : Fr → β) : T8 mv fr K = K (Mp mv fr) := by
 cases mv with
 | none => rfl
 | some m => exact DQ _ _ _
def IE (n : Nat) (av : AV) (st' : St) (mv : Option Nat) (s : SS) : SS := match s with
 | ⟨.o ops (o :: l) :: k, fr, _, kn⟩ => fA av fun av => fS st' fun st' => T8 mv fr fun fr => zr n o.dst av fr (fun fr' => AE false o.dst kn fun kn' => ⟨.o ops l :: k, fr', st', kn'⟩) s
 | ⟨.g X ops (o :: l) tw :: k, fr, st, kn⟩ => fA av fun av => fS st' fun st' => T8 mv fr fun fr' => zr n o.dst av fr' (fun fr2 => AE false o.dst kn fun kn' => ⟨.g X ops l (tw ++ [NU X ops o fr st mv]) :: k, fr2, st', kn'⟩) s
 | s => s
theorem GK.ev {X : List Nat} {tw : List (List Nat × List Nat)} {R : Fr → St → Prop} {o : Oper} {hs : HS} {out : zY} {fr2 : Fr} (hg : dI ops o (dP ops o fr) = some true) (he : Rr P an X ops o fr st hs = some out) (hob : gX out.ob) (hp : wO n o.dst out.av (Mp out.mv fr) = some fr2)
  (k : GK P n X ops l (tw ++ [NU X ops o fr st out.mv]) R fr2 out.st) : GK P n X ops (o :: l) tw R fr st := by
 obtain ⟨p1, p2⟩ := wB hp
 have hd := Lp (n := n) p1
 unfold Rr at he
 split at he
 ·rename_i out0 hev
  cases hb : Nat.beq out0.st.length st.length with
  | true =>
   simp only [hb, cond_true] at he
   cases hc : (!xn an o && Pn (dN o) ops X o fr st (cE ops o fr) out0) && (Lf st (cE ops o fr) && Iq st out0.mv) with
   | false => rw [hc] at he; cases he
   | true =>
    rw [hc] at he
    simp only [cond_true, Option.some.injEq] at he
    subst he
    simp only [Bool.and_eq_true, Bool.not_eq_true'] at hc
    obtain ⟨⟨c1, c2⟩, c3, c4⟩ := hc
    rw [c1] at hev
    have hw := Sm c2 hd
    have hE : RR P n ops X (o :: l) fr st hs = some (tq o ⟨out0.av, cE ops o fr, cE ops o fr, out0.mv.toList, jg (bt (cE ops o fr)) 0 st out0.st⟩ fr, cE ops o fr, out0.mv.toList, jg (bt (cE ops o fr)) 0 st out0.st, out0.ob) := by
     unfold RR
     simp only [HE, hg, hev, hw, cond_true]
    have hn : tq o ⟨out0.av, cE ops o fr, cE ops o fr, out0.mv.toList, jg (bt (cE ops o fr)) 0 st out0.st⟩ fr = fr2 := by
     unfold tq
     cases hm : out0.mv with
     | none => rw [hm] at p2; simp only [Option.toList, Mp] at p2 ⊢; rw [BX]; exact p2
     | some m => rw [hm] at p2; simp only [Option.toList, Mp] at p2 ⊢; rw [Jv]; exact p2
    rw [hn] at hE
    have ht : NU X ops o fr st out0.mv = (v6 X (cE ops o fr), cE ops o fr ++ out0.mv.toList.map (· + 1000)) := by
     unfold NU
     unfold Iq at c4
     cases hm : out0.mv with
     | none => rfl
     | some m =>
      rw [hm] at c4
      simp only at c4 ⊢
      split
      ·rename_i hd'; rw [hd'] at c4; cases c4
      ·rfl
    refine GK.of (tw1 := NU X ops o fr st out0.mv) (fun h2 => ?_) k
    rw [ht]
    exact GX.wr hs fr2 _ _ _ _ hE hob c3 h2
  | false =>
   simp only [hb, cond_false] at he
   split at he
   ·rename_i id b hf hd2
    cases hc : O4 (dN o) ops X id o fr st (cE ops o fr) out0 b && Lf st (id :: cE ops o fr) with
    | false => rw [hc] at he; cases he
    | true =>
     rw [hc] at he
     simp only [cond_true, Option.some.injEq] at he
     subst he
     rw [Bool.and_eq_true] at hc
     have hw := Sq hc.1 hd
     have hdd : st[id]? = some .dead := by
      have h := hc.1
      unfold O4 at h
      simp only [Bool.and_eq_true] at h
      exact Dp h.1.2.1.1.1.1
     have hE : Ry P n ops X (xn an o) id (o :: l) fr st hs = some (tq o ⟨xO (DD st.length id) out0.av, id :: cE ops o fr, id :: cE ops o fr, [id], (jg (bt (cE ops o fr)) 0 st (out0.st.take st.length)).set id b⟩ fr, id :: cE ops o fr, (jg (bt (cE ops o fr)) 0 st (out0.st.take st.length)).set id b, out0.ob) := by
      unfold Ry
      simp only [HE, hg, hev, hd2, hw, cond_true]
     have hn : tq o ⟨xO (DD st.length id) out0.av, id :: cE ops o fr, id :: cE ops o fr, [id], (jg (bt (cE ops o fr)) 0 st (out0.st.take st.length)).set id b⟩ fr = fr2 := by
      unfold tq
      simp only [Mp] at p2
      rw [← p2]
      simp only
      rw [Jv]
     rw [hn] at hE
     have ht : NU X ops o fr st (some id) = (v6 X (id :: cE ops o fr), (id :: cE ops o fr) ++ [id + 1000]) := by
      unfold NU
      simp only [hdd]
     refine GK.of (tw1 := NU X ops o fr st (some id)) (fun h2 => ?_) k
     rw [ht]
     exact GX.new _ id hs fr2 _ _ _ hE hob hc.2 h2
   ·cases he
 ·cases he
theorem Nl {out : zY} {hs : HS} (he : Rz P an hs s = some out) (hob : gX out.ob) (hm : Es n0 loose out.mv = true) (k : XK P n n0 loose Q (IE n out.av out.st out.mv s)) : XK P n n0 loose Q s := by
 obtain ⟨ks, fr, st, kn⟩ := s
 unfold Rz at he
 split at he
 ·rename_i X ops o l tw k' hk
  simp only at hk
  subst hk
  split at he
  ·rename_i hg
   have hg := vq hg
   simp only [IE, yq, vg, HT] at k
   rcases nQ (n := n) o.dst out.av (Mp out.mv fr) (fun fr' => AE false o.dst kn fun kn' => (⟨.g X ops l (tw ++ [NU X ops o fr st out.mv]) :: k', fr', out.st, kn'⟩ : SS)) ⟨.g X ops (o :: l) tw :: k', fr, st, kn⟩ with ⟨fr', hp, e⟩ | e
   ·obtain ⟨kn', ek⟩ := pY false o.dst kn fun kn' => (⟨.g X ops l (tw ++ [NU X ops o fr st out.mv]) :: k', fr', out.st, kn'⟩ : SS)
    rw [e, ek] at k
    exact GK.ev hg he hob hp k
   ·rw [e] at k; exact k
  ·cases he
 ·rename_i ops o l k' hk
  simp only at hk
  subst hk
  split at he
  ·rename_i hg
   have hg := vq hg
   simp only [IE, yq, vg, HT] at k
   rcases nQ (n := n) o.dst out.av (Mp out.mv fr) (fun fr' => AE false o.dst kn fun kn' => (⟨.o ops l :: k', fr', out.st, kn'⟩ : SS)) ⟨.o ops (o :: l) :: k', fr, st, kn⟩ with ⟨fr', hp, e⟩ | e
   ·obtain ⟨kn', ek⟩ := pY false o.dst kn fun kn' => (⟨.o ops l :: k', fr', out.st, kn'⟩ : SS)
    rw [e, ek] at k
    have he : ev P (xn an o) o fr st hs = some out := he
    have hg : dI ops o fr = some true := hg
    have h0 : rk P n n0 loose an ops [o] fr st hs = some ⟨.normal, fr', out.st, out.hs, out.ob ++ []⟩ := by simp only [rk, hg, he, hm, cond_true, hp]
    exact XO.run (l := [o]) (rest := l) h0 (by rw [List.append_nil]; exact hob) k
   ·rw [e] at k; exact k
  ·cases he
 ·cases he
theorem T0 {hs hs' : HS} {av av' : AV} {st1 st' : St} {ob : List Prop} {mv : Option Nat} (he : Rz P an hs (run P n an s) = some ⟨av, st1, ob, hs', mv⟩) (hob : gX ob) (hm : Es n0 loose mv = true) (e1 : av = av') (e2 : st1 = st')
  (k : GG P n n0 loose an r Q T (IE n av' st' mv (run P n an s))) : GG P n n0 loose an r Q T s := by
 subst e1; subst e2
 exact ⟨fun h => cK (an := an) (Nl he hob hm (k h))⟩
def Up (s : SS) : Nat := match s.ks with
 | .g X _ _ _ :: _ => (Ko X s.st).getD 0
 | _ => s.st.length
def Uv (s : SS) (b : cC) : St := match s.ks with
 | .g X _ _ _ :: _ => s.st.set ((Ko X s.st).getD 0) b
 | _ => s.st ++ [b]
def TZ (s : SS) : Option Nat := match s.ks with
 | .g X _ _ _ :: _ => some ((Ko X s.st).getD 0)
 | _ => none
theorem KB (E : rn α) (id : Nat) (xs : List α) {ys : List α} {N L : Nat} (k : GG P n n0 loose an r Q x (IE n (.one (.sl id E.sz 0 (ys ++ xs).length)) ((run P n an s).st.set id (.arr E.sz (E.els (ys ++ xs)))) (some id) (run P n an s))) (hL : L = ys.length := by rfl) (hN : N = xs.length := by rfl)
  (he : Rz P an [] (run P n an s) = some ⟨.one (.sl id E.sz 0 (L + (E.els xs).length)), (run P n an s).st.set id (.arr E.sz (E.els ys ++ E.els xs)), [jB E.sz (E.els xs), L = (E.els ys).length, L + (E.els xs).length ≤ 4294967296], [], some id⟩ := by kernel_rfl)
  (hm : Es n0 loose (some id) = true := by kernel_rfl) : GG P n n0 loose an r Q (nX (ys.length + N ≤ 4294967296) x) s := by
 subst hL; subst hN
 refine ⟨fun h => ?_⟩
 obtain ⟨hp, h⟩ := qH h
 exact T0 he ⟨E.ok _, (E.len _).symm, by rw [E.len]; exact hp, trivial⟩ hm (by rw [E.len, List.length_append]) (by rw [E.app2]) k h
theorem Tb (E : rn α) (id : Nat) {ys : List α} {i : Int} {L : Nat} {f : α → Option β} (k : ∀ e, at? ys i = some e → GG P n n0 loose an r Q (f e) (C2 n (.one (.pt id E.sz (0 + i.toNat) 0)) (run P n an s))) (hL : L = ys.length := by rfl)
  (he : IA P (run P n an s) = some (.one (.pt id E.sz (0 + i.toNat) 0), [0 ≤ i ∧ i < ((L : Nat) : Int)]) := by kernel_rfl) : GG P n n0 loose an r Q (aw (at? ys i) f) s := by
 subst hL
 refine ⟨fun h => ?_⟩
 obtain ⟨e, ha, h⟩ := wE h
 exact uV _ _ (ob := [_]) ⟨rn.inb' ha, trivial⟩ rfl (k e ha) he h
theorem UX (E : rn α) (id : Nat) {ys : List α} {i : Int} {e : α} {L : Nat} (ha : at? ys i = some e) (k : GG P n n0 loose an r Q T (C2 n (.one (.pt id E.sz (0 + i.toNat) 0)) (run P n an s))) (hL : L = ys.length := by rfl)
  (he : IA P (run P n an s) = some (.one (.pt id E.sz (0 + i.toNat) 0), [0 ≤ i ∧ i < ((L : Nat) : Int)]) := by kernel_rfl) : GG P n n0 loose an r Q T s := by
 subst hL
 exact uV _ _ (ob := [_]) ⟨rn.inb' ha, trivial⟩ rfl k he
def LS (P : Program) (hs : HS) (s : SS) : Option (AV × List Prop) :=
 match zx s with
 | some (o, f) => bif ll o.op then (match ev P false o f (DR s) hs with
  | some out => some (out.av, out.ob)
  | none => none) else none
 | none => none
theorem Oe {hs : HS} {av : AV} {ob : List Prop} (he : LS P hs s = some (av, ob)) (hob : gX ob) : ∃ o f, zx s = some (o, f) ∧ Yd P n (DR s) o f av := by
 unfold LS at he
 split at he
 ·rename_i o f hd
  cases hq : ll o.op with
  | false => simp [hq] at he
  | true =>
   simp only [hq, cond_true] at he
   split at he
   ·rename_i out hev
    simp only [Option.some.injEq, Prod.mk.injEq] at he
    obtain ⟨rfl, rfl⟩ := he
    exact ⟨o, f, hd, Yd.ev hq hev hob⟩
   ·cases he
 ·cases he
def Su (o : Option (AV × List Prop)) : AV := match o with
 | some (av, _) => av
 | none => .j
theorem Tj (E : rn α) {ys : List α} {i : Int} {e : α} (ha : at? ys i = some e) (k : GG P n n0 loose an r Q T (C2 n (Su (LS P [E.cells e] (run P n an s))) (run P n an s)))
  (he : LS P [E.cells e] (run P n an s) = some (Su (LS P [E.cells e] (run P n an s)), [(E.els ys)[0 + i.toNat]? = some (E.cells e)]) := by kernel_rfl) : GG P n n0 loose an r Q T s := by
 refine ⟨fun h => ?_⟩
 obtain ⟨o, g, h1, h2⟩ := Oe (n := n) he ⟨E.get0 ha, trivial⟩
 exact cK (an := an) (pG h1 h2 (k h))
theorem U3 (id sz L : Nat) (k : GG P n n0 loose an r Q T (C2 n (.one (.sl id sz 0 L)) (run P n an s)))
  (he : IA P (run P n an s) = some (.one (.sl id sz (0 + (0 : Int).toNat) (((L : Nat) : Int).toNat - (0 : Int).toNat)), [((0 : Int) ≤ 0 ∧ (0 : Int) ≤ ((L : Nat) : Int) ∧ (((L : Nat) : Int) ≤ ((L : Nat) : Int) ∧ ((L : Nat) : Int) ≤ ((L : Nat) : Int))) ∧ ((0 : Int).toNat = 0 ∨ (((0 : Int).toNat : Nat) : Int) < ((L : Nat) : Int))]) := by kernel_rfl) : GG P n n0 loose an r Q T s := by
 have e2 : ((L : Nat) : Int).toNat - (0 : Int).toNat = L := by simp
 rw [e2] at he
 exact uV _ _ (ob := [_]) ⟨⟨⟨by omega, by omega, by omega, by omega⟩, .inl rfl⟩, trivial⟩ rfl k he
theorem U0 (E : rn α) (id : Nat) {ys : List α} {i : Int} {e : α} (ha : at? ys i = some e) (v : α) (k : GG P n n0 loose an r Q T (IE n .j ((run P n an s).st.set id (.arr E.sz (E.els (ys.set i.toNat v)))) none (run P n an s)))
  (he : Rz P an [E.cells e] (run P n an s) = some ⟨.j, (run P n an s).st.set id (.arr E.sz ((E.els ys).set (0 + i.toNat) (E.cells v))), [(E.els ys)[0 + i.toNat]? = some (E.cells e)], [], none⟩ := by kernel_rfl) : GG P n n0 loose an r Q T s :=
 T0 he ⟨E.get0 ha, trivial⟩ rfl rfl (by rw [E.set0]) k
theorem UV (E : rn α) (v : α) {N M : Int} (k : GG P n n0 loose an r Q x (IE n (.one (.sl (Up (run P n an s)) E.sz 0 N.toNat)) (Uv (run P n an s) (.arr E.sz (E.els (List.replicate N.toNat v)))) (TZ (run P n an s)) (run P n an s)))
  (he : Rz P an [] (run P n an s) = some ⟨.one (.sl (Up (run P n an s)) E.sz 0 N.toNat), Uv (run P n an s) (.arr E.sz (List.replicate N.toNat (E.cells v))), [0 ≤ N, N ≤ M, M ≤ 4294967296], [], TZ (run P n an s)⟩ := by kernel_rfl) (hm : Es n0 loose (TZ (run P n an s)) = true := by kernel_rfl) : GG P n n0 loose an r Q (nX (0 ≤ N ∧ N ≤ M ∧ M ≤ 4294967296) x) s := by
 refine ⟨fun h => ?_⟩
 obtain ⟨⟨h1, h2, h3⟩, h⟩ := qH h
 exact T0 he ⟨h1, h2, h3, trivial⟩ hm rfl (by rw [E.rep]) k h
theorem uW (d : Nat) (E : rn α) (xs : List α) (k : GG P n n0 loose an r Q T (C2 n (vl E xs) (Ei P n an d s))) (he : IA P (Ei P n an d s) = some (.one (.pv (.ro (xs.map E.cells))), []) := by kernel_rfl) : GG P n n0 loose an r Q T s := by
 refine ⟨fun h => ?_⟩
 rw [← E.hels] at he
 obtain ⟨o, g, h1, h2⟩ := Iw (n := n) he trivial
 exact wY (pG h1 h2 (k h))
def CX (P : Program) (f : Nat) (args : List AV) (sc : St) (lo : List Nat) {β : Type} (T : Option β) (rv : β → AV) (nb : β → St) : Prop := ∀ r, T = some r → MX P f args sc lo (rv r) (nb r)
theorem QF {f : Nat} {args : List AV} {sc : St} {lo : List Nat} {rv : β → AV} {nb : β → St} (k m n : Nat) (an : List Nat) (fn : Func) (g : ∀ r, GG P n k lo an r (Bh P fn m rv nb r) T ⟨[.c (cd fn [])], Ru args, Tk sc, []⟩)
  (hf : P.funcs[f]? = some fn := by kernel_rfl) (hb : fn.body = some (cd fn []) := by kernel_rfl) (hn : fn.ntmps = n := by kernel_rfl) (hl : Nat.ble args.length n = true := by rfl) (hk : sc.length = k := by rfl) (hkm : Nat.ble k m = true := by rfl) : CX P f args sc lo T rv nb := by
 intro r hT
 refine MX.of k m hkm hf hb hn (Nat.le_of_ble_eq_true hl) hk ?_
 have := g r hT
 unfold Ru Tk at this
 rw [Bz, vg] at this
 refine XW.mono (show XW P n k lo (cd fn []) (QK P n k lo [] (Bh P fn m rv nb r)) (og args 0) sc from ?_) (fun e f s h => h)
 have e : mo (XW P n k lo (cd fn []) (Bh P fn m rv nb r)) (Bh P fn m rv nb r) .normal (og args 0) sc := this
 exact e
theorem UU {f : Nat} {args : List AV} {sc : St} {lo : List Nat} {rv : β → AV} {nb : β → St} (e : T = none) : CX P f args sc lo T rv nb := fun r h => gr e h
theorem XO.calxS (g : Nat) (avs avs0 : List AV) (sc sc' : St) (lo : List Nat) (r : AV) (rs : List Nat) (L : List Nat) (fr' : Fr) (st' : St) (hc : rc P n ops l fr = some (g, avs0)) (b : Bool) (hs : avs0.map (HI b) = avs.map (xO (nZ rs st.length))) (h : MX P g avs sc lo r sc') (hb : Kb st.length rs sc sc' avs = true)
  (hL : lo.map (nZ rs st.length) = L) (hbx : BE rs L 0 st = true) (hfx : Fs n0 loose L = true)
  (hst : rs.map (fun x => st[x]?) = sc.map (fun o => some (sB (nZ rs st.length) o))) (hst' : fJ st rs ((sc'.take sc.length).map (sB (nZ rs st.length))) ++ (sc'.drop sc.length).map (sB (nZ rs st.length)) = st') (hput : zQ n l (xO (nZ rs st.length) r) (pB (fun id => !bt L id) fr) = some fr')
  (hk : XO P n n0 loose ops (l.drop 1) Q fr' st') : XO P n n0 loose ops l Q fr st := by
 cases l with
 | nil => simp [rc] at hc
 | cons o rest =>
  simp only [rc] at hc
  split at hc
  ·rename_i hg
   intro ι w a hR hF
   obtain ⟨vs, hrun, hA⟩ := w9 hc hF
   have hA := hA.soft b
   rw [hs] at hA
   have hw := dQ hg hF
   refine wpList_step fun K hK => ?_
   rw [if_pos hw]
   simp only [Oper.wp, hrun, Oper.upon]
   refine (h.use' rs hb hst (by rw [hL]; exact fun id o ho hn => CA hbx id o ho (by rwa [Nat.zero_add])) hR hA).mono ?_
   rintro e w' ⟨v, ι', rfl, hR', hv, k⟩
   rw [hst', hL] at k
   rw [hst'] at hR' hv
   refine hK _ _ (gf (fun e a w h => h.trans (k.weaken (fun id hf => ?_))) (hk ι' w' _ hR' (nm hput (hF.keep k (q := fun id => !bt L id) (fun id hq _ hm => by rw [gA.2 hm] at hq; cases hq)) hv)))
   intro hm
   have := List.all_eq_true.1 hfx id hm
   have hf' : tM n0 loose id = true := hf
   rw [hf'] at this
   cases this
  ·simp at hc
def Ux (n : Nat) (rs lo : List Nat) (len : Nat) (av : AV) (sc' : St) (s : SS) : SS := match s with
 | ⟨.o ops (o :: l) :: k, fr, st, kn⟩ => fA (xO (nZ rs st.length) av) fun av => fS (fJ st rs ((sc'.take len).map (sB (nZ rs st.length))) ++ (sc'.drop len).map (sB (nZ rs st.length))) fun st' => Ey (fun id => !bt (lo.map (nZ rs st.length)) id) fr fun fr => zr n o.dst av fr (fun fr' => AE false o.dst kn fun kn' => ⟨.o ops l :: k, fr', st', kn'⟩) s
 | s => s
theorem Tm (b : Bool) (rs : List Nat) {o : Option α} {f : α → Option β} {g : Nat} {avs : List AV} {sc : St} {lo : List Nat} {rv : α → AV} {nb : α → St} (c : CX P g avs sc lo o rv nb)
  (k : ∀ v, o = some v → GG P n n0 loose an r Q (f v) (Ux n rs lo sc.length (rv v) (nb v) (run P n an s)))
  (h1 : cQ b P n (run P n an s) = some (g, avs.map (xO (nZ rs (run P n an s).st.length))) := by kernel_rfl) (h2 : ∀ v, Kb (run P n an s).st.length rs sc (nb v) avs = true := by intro v; kernel_rfl)
  (h4 : (BE rs (lo.map (nZ rs (run P n an s).st.length)) 0 (run P n an s).st && Fs n0 loose (lo.map (nZ rs (run P n an s).st.length))) = true := by kernel_rfl)
  (h3 : rs.map (fun x => (run P n an s).st[x]?) = sc.map (fun o => some (sB (nZ rs (run P n an s).st.length) o)) := by kernel_rfl) : GG P n n0 loose an r Q (aw o f) s := by
 refine ⟨fun h => ?_⟩
 obtain ⟨v, ho, h⟩ := wE h
 refine cK (an := an) ?_
 have k := k v ho h
 have h2 := h2 v
 generalize run P n an s = s' at *
 obtain ⟨ks, fr, st, kn⟩ := s'
 simp only [Bool.and_eq_true] at h4
 unfold cQ at h1
 split at h1
 ·rename_i ops l k' hk
  simp only at hk
  subst hk
  split at h1
  ·rename_i g' avs' hc
   simp only [Option.some.injEq, Prod.mk.injEq] at h1
   obtain ⟨rfl, h1⟩ := h1
   cases l with
   | nil => simp [rc] at hc
   | cons o' l =>
    simp only [Ux, yq, vg, DQ] at k
    rcases nQ (n := n) o'.dst (xO (nZ rs st.length) (rv v)) (pB (fun id => !bt (lo.map (nZ rs st.length)) id) fr) (fun fr' => AE false o'.dst kn fun kn' => (⟨.o ops l :: k', fr', fJ st rs (((nb v).take sc.length).map (sB (nZ rs st.length))) ++ ((nb v).drop sc.length).map (sB (nZ rs st.length)), kn'⟩ : SS)) ⟨.o ops (o' :: l) :: k', fr, st, kn⟩ with ⟨fr', hp, e⟩ | e
    ·obtain ⟨kn', ek⟩ := pY false o'.dst kn fun kn' => (⟨.o ops l :: k', fr', fJ st rs (((nb v).take sc.length).map (sB (nZ rs st.length))) ++ ((nb v).drop sc.length).map (sB (nZ rs st.length)), kn'⟩ : SS)
     rw [e, ek] at k
     exact XO.calxS _ _ _ _ _ _ _ _ _ fr' _ hc b h1 (c v ho) h2 rfl h4.1 h4.2 h3 rfl hp k
    ·rw [e] at k; exact k
  ·cases h1
 ·cases h1
def UM (id : Nat) (m : Nat) : CV → CV
 | .sl i sz off len => bif Nat.beq i id then .sl i sz off m else .sl i sz off len
 | c => c
def UY (id m : Nat) : AV → AV
 | .one c => .one (UM id m c)
 | a => a
def Uc (id m : Nat) : cC → cC
 | .box cs => .box (cs.map (UM id m))
 | b => b
def TW (id m : Nat) (fr : Fr) : Fr := fr.map fun x => (x.1, UY id m x.2)
def Um (id m : Nat) (s : SS) : SS := match s with
 | ⟨ks, fr, st, kn⟩ => fF (TW id m fr) fun fr => fS (st.map (Uc id m)) fun st => ⟨ks, fr, st, kn⟩
theorem UP (id : Nat) {L m : Nat} (h : L = m) (k : GG P n n0 loose an r Q T (Um id m (run P n an s))) (he : (run P n an s).fr = TW id L (run P n an s).fr := by kernel_rfl) (he' : (run P n an s).st = (run P n an s).st.map (Uc id L) := by kernel_rfl) : GG P n n0 loose an r Q T s := by
 subst h
 refine ⟨fun h => cK (an := an) ?_⟩
 have k := k.go h
 generalize run P n an s = s' at *
 obtain ⟨ks, fr, st, kn⟩ := s'
 simp only [Um, Bz, vg] at k he he'
 rw [← he, ← he'] at k
 exact k
theorem U7 (id : Nat) {L m : Nat} (k : GG P n n0 loose an r Q x (Um id m (run P n an s))) (he : (run P n an s).fr = TW id L (run P n an s).fr := by kernel_rfl) (he' : (run P n an s).st = (run P n an s).st.map (Uc id L) := by kernel_rfl) : GG P n n0 loose an r Q (nX (m = L) x) s := by
 refine ⟨fun h => ?_⟩
 obtain ⟨hp, h⟩ := qH h
 exact (UP id hp.symm k he he').go h
theorem Yd.ext {st : St} {o : Oper} {f : Fr} {g : Nat} {vs us : List Value} (hc : DO P o f = some (g, vs)) (h : Fj P g vs (.tuple us.toArray)) (hp : us.all plain = true) : Yd P n st o f (Jo us) := by
 intro ι w a hR hF K Q hK
 have hrun := zh hc h hF (w := w)
 simp only [Oper.wp, hrun, Oper.upon]
 exact hK _ w ι (zk hp) hR .refl
def Tr (P : Program) (s : SS) : Option (Nat × List Value) := match zx s with
 | some (o, f) => DO P o f
 | none => none
theorem RP {p : Prop} [Decidable p] {g : Nat} {vs us : List Value} (h : p → Fj P g vs (.tuple us.toArray)) (hp : us.all plain = true) (k : GG P n n0 loose an r Q x (C2 n (Jo us) (run P n an s))) (he : Tr P (run P n an s) = some (g, vs)) : GG P n n0 loose an r Q (nX p x) s := by
 refine ⟨fun h' => ?_⟩
 obtain ⟨hp', h'⟩ := qH h'
 unfold Tr at he
 split at he
 ·rename_i o f hd
  exact cK (an := an) (pG hd (Yd.ext he (h hp') hp) (k h'))
 ·cases he
theorem Gu {a b c : Int} (g : Nat) (fn : Func) (k : GG P n n0 loose an r Q x (C2 n (.tp [.one (.pv (.s (.int .u64 ((a + b + c) % 18446744073709551616)))), .one (.pv (.s (.int .u64 ((a + b + c) / 18446744073709551616))))]) (run P n an s)))
  (he : Tr P (run P n an s) = some (g, [.int .u64 a, .int .u64 b, .int .u64 c]) := by kernel_rfl) (hf : P.funcs[g]? = some fn := by kernel_rfl)
  (hx : ((!(fn.name == "runtime.NumGoroutine") && fn.body.isNone) && (Extern.findNext fn).isNone) = true := by kernel_rfl) (hx' : Extern.find fn = some add64Entry := by kernel_rfl) : GG P n n0 loose an r Q (nX (0 ≤ a ∧ 0 ≤ b ∧ 0 ≤ c ∧ c ≤ 1) x) s := by
 simp only [Bool.and_eq_true, Bool.not_eq_true', Option.isNone_iff_eq_none] at hx
 exact RP (fun h => KQ hf hx.1.1 (by rw [hx.1.2]; rfl) hx.2 hx' h.1 h.2.1 h.2.2.1 h.2.2.2) rfl k he
theorem O2 {a b c : Int} (g : Nat) (fn : Func) (k : GG P n n0 loose an r Q x (C2 n (.tp [.one (.pv (.s (.int .u64 ((a - b - c) % 18446744073709551616)))), .one (.pv (.s (.int .u64 (if a < b + c then (1 : Int) else (0 : Int)))))]) (run P n an s)))
  (he : Tr P (run P n an s) = some (g, [.int .u64 a, .int .u64 b, .int .u64 c]) := by kernel_rfl) (hf : P.funcs[g]? = some fn := by kernel_rfl)
  (hx : ((!(fn.name == "runtime.NumGoroutine") && fn.body.isNone) && (Extern.findNext fn).isNone) = true := by kernel_rfl) (hx' : Extern.find fn = some IP := by kernel_rfl) : GG P n n0 loose an r Q (nX (0 ≤ a ∧ 0 ≤ b ∧ b < 18446744073709551616 ∧ 0 ≤ c ∧ c ≤ 1) x) s := by
 simp only [Bool.and_eq_true, Bool.not_eq_true', Option.isNone_iff_eq_none] at hx
 exact RP (fun h => Ki hf hx.1.1 (by rw [hx.1.2]; rfl) hx.2 hx' h.1 h.2.1 h.2.2.1 h.2.2.2.1 h.2.2.2.2) rfl k he
end
end Go.SX
namespace Go.SX
open Go
def Px (b : Bool) (e : Value) : Prop := (b = false ∧ e = .nilIface) ∨ (b = true ∧ ∃ t p, e = .iface t (.pointer p))
theorem Px.plain {b : Bool} {e : Value} (h : Px b e) : plain e = true := by
 rcases h with ⟨_, rfl⟩ | ⟨_, t, p, rfl⟩ <;> rfl
section
variable {P : Program} {n n0 : Nat} {loose an : List Nat} {β : Type} {r : β} {Q : QT} {s : SS}
def Dj (s : SS) : Bool := match s.ks with
 | .o _ (_ :: _) :: _ => true
 | _ => false
end
end Go.SX
namespace Go.SX
open Go
def SC : rn PV := .of 1 (fun p => [p]) (fun _ => rfl)
def NY : SY Value := ⟨fun v => v⟩
theorem Fu (v : Value) : NY.enc v = v := rfl
def AG (ag : Bool) (l : List Value) : Value := if ag then .agg l.toArray else l.headD (.bool false)
section
variable {κ α : Type} (K : KM κ) (E : rn α) (ag : Bool)
def MV (sz : Nat) (ag : Bool) : List κ → List Value → List (κ × Value)
 | [], _ => []
 | k :: ks, vs => (k, AG ag (vs.take sz)) :: MV sz ag ks (vs.drop sz)
def fl (m : List (κ × α)) : List PV := (m.map fun x => E.cells x.2).flatten
def o8 (m : List (κ × α)) : List κ := m.map (·.1)
def q8 (m : List (κ × α)) : cC := .rel (fun o vs => vs.length = (o8 m).length * E.sz ∧ o = vU K NY (MV E.sz ag (o8 m) vs)) (fl E m)
variable {μ : Nat → Prop} {w : World}
theorem Hp {vs : List Value} {p q : List PV} (h : PL μ w vs (p ++ q)) : PL μ w (vs.take p.length) p ∧ PL μ w (vs.drop p.length) q := by
 obtain ⟨hl, h⟩ := h
 rw [List.length_append] at hl
 refine ⟨⟨by rw [List.length_take]; omega, fun j v c h1 h2 => ?_⟩, ⟨by rw [List.length_drop]; omega, fun j v c h1 h2 => ?_⟩⟩
 ·have hj := (List.getElem?_eq_some_iff.1 h2).1
  rw [List.getElem?_take_of_lt hj] at h1
  exact h j v c h1 (by rw [List.getElem?_append_left hj]; exact h2)
 ·rw [List.getElem?_drop] at h1
  exact h (p.length + j) v c h1 (by rw [List.getElem?_append_right (by omega)]; simpa using h2)
theorem JH {vs us : List Value} {p q : List PV} (h : PL μ w vs p) (k : PL μ w us q) : PL μ w (vs ++ us) (p ++ q) := by
 refine ⟨by rw [List.length_append, List.length_append, h.1, k.1], fun j v c h1 h2 => ?_⟩
 rcases Nat.lt_or_ge j vs.length with hj | hj
 ·rw [List.getElem?_append_left hj] at h1
  rw [List.getElem?_append_left (by rw [← h.1]; exact hj)] at h2
  exact h.2 j v c h1 h2
 ·rw [List.getElem?_append_right hj] at h1
  rw [List.getElem?_append_right (by rw [← h.1]; exact hj)] at h2
  rw [← h.1] at h2
  exact k.2 _ v c h1 h2
theorem Fo (k : κ) (a : α) (m : List (κ × α)) : fl E ((k, a) :: m) = E.cells a ++ fl E m := rfl
theorem QQ (m : List (κ × α)) : (fl E m).length = (o8 m).length * E.sz := by
 induction m with
 | nil => simp [fl, o8]
 | cons x m ih =>
  obtain ⟨k, a⟩ := x
  rw [Fo, List.length_append, ih, E.hsz]
  simp [o8, Nat.succ_mul, Nat.add_comm]
theorem Ly : ∀ (m : List (κ × α)) (vs : List Value) (k : κ), PL μ w vs (fl E m) →
  match iB K m k with
  | none => iB K (MV E.sz ag (o8 m) vs) k = none
  | some a => ∃ l, iB K (MV E.sz ag (o8 m) vs) k = some (AG ag l) ∧ PL μ w l (E.cells a)
 | [], vs, k, h => rfl
 | (k', a) :: m, vs, k, h => by
  rw [Fo] at h
  obtain ⟨h1, h2⟩ := Hp h
  rw [E.hsz] at h1 h2
  have ih := Ly m (vs.drop E.sz) k h2
  show match iB K ((k', a) :: m) k with
   | none => iB K ((k', AG ag (vs.take E.sz)) :: MV E.sz ag (o8 m) (vs.drop E.sz)) k = none
   | some a => ∃ l, iB K ((k', AG ag (vs.take E.sz)) :: MV E.sz ag (o8 m) (vs.drop E.sz)) k = some (AG ag l) ∧ PL μ w l (E.cells a)
  simp only [iB]
  cases hq : K.eq k k' with
  | true => exact ⟨vs.take E.sz, rfl, h1⟩
  | false => exact ih
theorem Mq : ∀ (m : List (κ × α)) (vs l : List Value) (k : κ) (a : α), PL μ w vs (fl E m) → PL μ w l (E.cells a) →
  ∃ vs', PL μ w vs' (fl E (jq K m k a)) ∧ MV E.sz ag (o8 (jq K m k a)) vs' = jq K (MV E.sz ag (o8 m) vs) k (AG ag l)
 | [], vs, l, k, a, h, hl => by
  refine ⟨l, ?_, ?_⟩
  ·show PL μ w l (E.cells a ++ [])
   rw [List.append_nil]; exact hl
  ·show [(k, AG ag (l.take E.sz))] = [(k, AG ag l)]
   rw [List.take_of_length_le (by rw [hl.1, E.hsz]; exact Nat.le_refl _)]
 | (k', a') :: m, vs, l, k, a, h, hl => by
  rw [Fo] at h
  obtain ⟨h1, h2⟩ := Hp h
  rw [E.hsz] at h1 h2
  have hll : l.length = E.sz := by rw [hl.1, E.hsz]
  show ∃ vs', PL μ w vs' (fl E (if K.eq k k' then (k, a) :: m else (k', a') :: jq K m k a)) ∧ MV E.sz ag (o8 (if K.eq k k' then (k, a) :: m else (k', a') :: jq K m k a)) vs' = (if K.eq k k' then (k, AG ag l) :: MV E.sz ag (o8 m) (vs.drop E.sz) else (k', AG ag (vs.take E.sz)) :: jq K (MV E.sz ag (o8 m) (vs.drop E.sz)) k (AG ag l))
  cases hq : K.eq k k' with
  | true =>
   refine ⟨l ++ vs.drop E.sz, JH hl h2, ?_⟩
   show (k, AG ag ((l ++ vs.drop E.sz).take E.sz)) :: MV E.sz ag (o8 m) ((l ++ vs.drop E.sz).drop E.sz) = _
   rw [List.take_left' hll, List.drop_left' hll]
   rfl
  | false =>
   obtain ⟨vs', g1, g2⟩ := Mq m (vs.drop E.sz) l k a h2 hl
   have ht : (vs.take E.sz).length = E.sz := by rw [h1.1, E.hsz]
   refine ⟨vs.take E.sz ++ vs', JH h1 g1, ?_⟩
   show (k', AG ag ((vs.take E.sz ++ vs').take E.sz)) :: MV E.sz ag (o8 (jq K m k a)) ((vs.take E.sz ++ vs').drop E.sz) = _
   rw [List.take_left' ht, List.drop_left' ht, g2]
   rfl
def Pp (a : α) : AV := if ag then .ag ((E.cells a).map .pv) else .one (.pv ((E.cells a).headD (.s (.bool false))))
theorem LM {ι : IM} {st : St} {l : List Value} {a : α} (h1 : ag = true ∨ E.sz = 1) (h : PL (lq ι st) w l (E.cells a)) : bh ι w st (AG ag l) (Pp E ag a) := by
 unfold AG Pp
 cases hag : ag with
 | true =>
  simp only [if_true]
  refine .ag _ _ ⟨by rw [h.1, List.length_map], fun j v c h2 h3 => ?_⟩
  rw [List.getElem?_map] at h3
  cases hp : (E.cells a)[j]? with
  | none => rw [hp] at h3; cases h3
  | some p =>
   rw [hp] at h3
   cases h3
   exact .pv _ _ (h.2 j v p h2 hp)
 | false =>
  have hs : E.sz = 1 := by rcases h1 with h' | h'; rw [hag] at h'; cases h'; exact h'
  have hl := E.hsz a
  rw [hs] at hl
  simp only [Bool.false_eq_true, if_false]
  match hc : E.cells a, hl with
  | [p], _ =>
   rw [hc] at h
   match l, h.1 with
   | [v], _ => exact .one _ _ (.pv _ _ (h.2 0 v p rfl rfl))
theorem Rf {ι : IM} {st : St} {v : Value} {a : α} (h1 : ag = true ∨ E.sz = 1) (h : bh ι w st v (Pp E ag a)) : ∃ l, v = AG ag l ∧ PL (lq ι st) w l (E.cells a) := by
 unfold Pp at h
 unfold AG
 cases hag : ag with
 | true =>
  rw [hag] at h
  simp only [if_true] at h ⊢
  cases h with
  | ag vs cs h =>
   refine ⟨vs, rfl, by rw [h.1, List.length_map], fun j v p h2 h3 => ?_⟩
   have := h.2 j v (.pv p) h2 (by rw [List.getElem?_map, h3]; rfl)
   cases this with
   | pv _ _ h => exact h
 | false =>
  rw [hag] at h
  have hs : E.sz = 1 := by rcases h1 with h' | h'; rw [hag] at h'; cases h'; exact h'
  have hl := E.hsz a
  rw [hs] at hl
  simp only [Bool.false_eq_true, if_false] at h ⊢
  match hc : E.cells a, hl with
  | [p], _ =>
   rw [hc] at h
   cases h with
   | one _ _ h =>
    cases h with
    | pv _ _ h => exact ⟨[v], rfl, rfl, fun j x q h2 h3 => by
     match j with
     | 0 => simp at h2 h3; subst h2; subst h3; exact h
     | j + 1 => simp at h2⟩
end
section
variable {P : Program} {n n0 : Nat} {loose an : List Nat} {β : Type} {r : β} {Q : QT} {s : SS} {T : Option β}
theorem H7 {av : AV} {st' : St} (hs : Dj s = true)
  (step : ∀ (ops : Array Oper) (o : Oper) (l : List Oper) (Q' : QT) (fr' : Fr), (∃ ks, s.ks = .o ops (o :: l) :: ks) → wO n o.dst av s.fr = some fr' → XO P n n0 loose ops l Q' fr' st' → XO P n n0 loose ops (o :: l) Q' s.fr s.st)
  (k : XK P n n0 loose Q (IE n av st' none s)) : XK P n n0 loose Q s := by
 obtain ⟨ks, fr, st, kn⟩ := s
 match ks, hs with
 | .o ops (o :: l) :: ks, hs =>
  simp only [IE, yq, vg, HT] at k
  rcases nQ (n := n) o.dst av (Mp none fr) (fun fr' => AE false o.dst kn fun kn' => (⟨.o ops l :: ks, fr', st', kn'⟩ : SS)) ⟨.o ops (o :: l) :: ks, fr, st, kn⟩ with ⟨fr', hp, e⟩ | e
  ·obtain ⟨kn', ek⟩ := pY false o.dst kn fun kn' => (⟨.o ops l :: ks, fr', st', kn'⟩ : SS)
   rw [e, ek] at k
   exact step ops o l _ fr' ⟨ks, rfl⟩ hp k
  ·rw [e] at k; exact k
def Si (s : SS) : Bool := match s.ks with
 | .o ops (o :: l) :: _ => FE ops (o :: l) s.fr
 | _ => false
section
variable {κ α : Type} (K : KM κ) (E : rn α) (ag : Bool)
theorem LH (hs : Dj s = true) (he : Si s = true) (k : XK P n n0 loose Q (IE n (.one (.mp s.st.length)) (s.st ++ [q8 K E ag []]) none s)) : XK P n n0 loose Q s := by
 refine H7 hs (fun ops o l Q' fr' hks hput hk => ?_) k
 obtain ⟨ks, fr, st, kn⟩ := s
 obtain ⟨ks', hks⟩ := hks
 simp only at hks
 subst hks
 have hc : FE ops (o :: l) fr = true := he
 simp only [FE] at hc
 split at hc
 ·rename_i hg
  cases hop : o.op <;> simp only [hop] at hc <;> try (cases hc; done)
  rename_i t x
  cases x with
  | some x => simp at hc
  | none =>
   intro ι w a hR hF
   have hw := dQ hg hF
   have hrun : (execOp a.eval o).run P w = .ok (.value (.map (some w.heap.size))) (w.alloc (.map #[] 0)) := by
    simp [execOp, hop, Instr.makeMap]
   have hO : qR (ι.add st.length (some w.heap.size)) (w.alloc (.map #[] 0)) (st ++ [q8 K E ag []]) st.length (q8 K E ag []) :=
    ⟨w.heap.size, .map #[] 0, [], by simp [IM.add], eu w _, ⟨by simp [o8], rfl⟩, rfl, fun j v p h => by simp at h⟩
   have hR' : gZ (ι.add st.length (some w.heap.size)) (w.alloc (.map #[] 0)) (st ++ [q8 K E ag []]) :=
    hR.add (rm.alloc w _) (fun x e => by cases e; exact Nat.le_refl _) hO
   have k : cc all ι w st (ι.add st.length (some w.heap.size)) (w.alloc (.map #[] 0)) (st ++ [q8 K E ag []]) :=
    tU (rm.alloc w _) _ _ (fun x e => by cases e; exact Nat.le_refl _)
   have hres : bh (ι.add st.length (some w.heap.size)) (w.alloc (.map #[] 0)) (st ++ [q8 K E ag []]) (.map (some w.heap.size)) (.one (.mp st.length)) :=
    .one _ _ (dl.mp st.length w.heap.size (by simp) (by simp [IM.add]))
   refine wpList_step fun K' hK => ?_
   rw [if_pos hw]
   simp only [Oper.wp, hrun, Oper.upon]
   exact hK _ _ (gf (fun e a w h => h.trans (k.weaken (fun _ _ => trivial))) (hk _ _ _ hR' (nm hput (hF.mono' k) hres)))
 ·simp at hc
theorem UG (k : GG P n n0 loose an r Q T (IE n (.one (.mp (run P n an s).st.length)) ((run P n an s).st ++ [q8 K E ag []]) none (run P n an s)))
  (he : Si (run P n an s) = true := by kernel_rfl) (hs : Dj (run P n an s) = true := by kernel_rfl) : GG P n n0 loose an r Q T s :=
 ⟨fun h => cK (an := an) (LH K E ag hs he (k.go h))⟩
def ID (P : Program) (s : SS) : Option (Nat × Value × TypeId × TypeId × Bool) := match s.ks with
 | .o ops (o :: _) :: _ => (match dI ops o s.fr with
  | some true => (match o.op with
   | .lookup t x i ok => (match P.underlying t with
    | some (.map kt et) => (match rv s.fr x, rv s.fr i with
     | .one (.mp id), .one (.pv (.s v)) => some (id, v, kt, et, ok)
     | _, _ => none)
    | _ => none)
   | _ => none)
  | _ => none)
 | _ => none
def S8 : Value → PV → Bool
 | .int k n, .s (.int k' n') => k == k' && n == n'
 | .bool b, .s (.bool b') => b == b'
 | .string s, .s (.string s') => s.size == 0 && s'.size == 0
 | .slice none 0 0, .ro [] => true
 | _, _ => false
theorem JN {μ : Nat → Prop} {w : World} {v : Value} {p : PV} (h : S8 v p = true) : gI μ w v p := by
 unfold S8 at h
 split at h
 ·rename_i k n k' n'
  obtain ⟨h1, h2⟩ := Bool.and_eq_true_iff.1 h
  have e1 : k = k' := by simpa using h1
  have e2 : n = n' := by simpa using h2
  subst e1 e2
  exact .s _ rfl
 ·rename_i b b'
  have e1 : b = b' := by simpa using h
  subst e1
  exact .s _ rfl
 ·rename_i s s'
  obtain ⟨h1, h2⟩ := Bool.and_eq_true_iff.1 h
  have e1 : s.size = 0 := by simpa using h1
  have e2 : s'.size = 0 := by simpa using h2
  have e : s = s' := ByteArray.ext (by rw [Array.eq_empty_of_size_eq_zero e1, Array.eq_empty_of_size_eq_zero e2])
  subst e
  exact .s _ rfl
 ·exact .nl
 ·cases h
def Tp (P : Program) (ag : Bool) (et : TypeId) (ps : List PV) : Bool := match (P.info? et).bind (·.zero) with
 | some v => (match ag, v with
  | true, .agg a => a.toList.length == ps.length && (a.toList.zip ps).all fun x => S8 x.1 x.2
  | false, v => (match ps with
   | [p] => S8 v p
   | _ => false)
  | _, _ => false)
 | none => false
theorem QV {ag : Bool} {et : TypeId} {ps : List PV} (h : Tp P ag et ps = true) : ∃ zv, (P.info? et).bind (·.zero) = some zv ∧ ∃ l, zv = AG ag l ∧ ∀ (μ : Nat → Prop) (w : World), PL μ w l ps := by
 unfold Tp at h
 split at h
 ·rename_i v hv
  refine ⟨v, hv, ?_⟩
  split at h
  ·rename_i a
   obtain ⟨h1, h2⟩ := Bool.and_eq_true_iff.1 h
   have h1 : a.toList.length = ps.length := by simpa using h1
   refine ⟨a.toList, by simp [AG], fun μ w => ⟨h1, fun j v p e1 e2 => ?_⟩⟩
   refine JN (List.all_eq_true.1 h2 (v, p) ?_)
   refine List.mem_iff_getElem?.2 ⟨j, ?_⟩
   rw [List.getElem?_zip_eq_some]
   exact ⟨e1, e2⟩
  ·split at h
   ·rename_i p
    refine ⟨[v], by simp [AG], fun μ w => ⟨rfl, fun j x q e1 e2 => ?_⟩⟩
    match j with
    | 0 => simp at e1 e2; subst e1; subst e2; exact JN h
    | j + 1 => simp at e1
   ·cases h
  ·cases h
 ·cases h
def Uz (ok : Bool) (a : AV) (b : Bool) : AV := match ok with
 | true => .tp [a, .one (.pv (.s (.bool b)))]
 | false => a
theorem Gn (id : Nat) (m : List (κ × α)) (k0 : κ) (z : α) (kt et : TypeId) (ok : Bool) (hag : ag = true ∨ E.sz = 1) (hs : Dj s = true) (he : ID P s = some (id, K.enc k0, kt, et, ok)) (hkt : P.underlying kt = some K.desc)
  (hzo : Tp P ag et (E.cells z) = true) (ho : s.st[id]? = some (q8 K E ag m))
  (k : XK P n n0 loose Q (IE n (Uz ok (Pp E ag ((iB K m k0).getD z)) (iB K m k0).isSome) s.st none s)) : XK P n n0 loose Q s := by
 refine H7 hs (fun ops o l Q' fr' hks hput hk => ?_) k
 obtain ⟨ks, fr, st, kn⟩ := s
 obtain ⟨ks', hks⟩ := hks
 simp only at hks
 subst hks
 simp only [ID] at he
 split at he
 ·rename_i hg
  split at he
  ·rename_i t x i ok' hop
   split at he
   ·rename_i kt' et' hu
    split at he
    ·rename_i id' v hx hi
     simp only [Option.some.injEq, Prod.mk.injEq] at he
     obtain ⟨rfl, rfl, rfl, rfl, rfl⟩ := he
     intro ι w a hR hF
     have h1 := dh hF x
     rw [hx] at h1
     obtain ⟨b, hv, hid, hb⟩ := NR h1
     have h2 := dh hF i
     rw [hi] at h2
     have hiv := bY h2
     obtain ⟨b', o', vs, e1, e2, ⟨e3, rfl⟩, e4⟩ := hR.obj id' _ ho
     rw [hb] at e1; cases e1
     have hw := dQ hg hF
     obtain ⟨zv, hz, zl, hzl, hzp⟩ := QV hzo
     obtain ⟨inf, hinf, hzero⟩ := Option.bind_eq_some_iff.1 hz
     have hmv := Ly K E ag m vs k0 e4
     have hres : ∃ l, (execOp a.eval o).run P w = .ok (.value (if ok' then .tuple #[AG ag l, .bool (iB K m k0).isSome] else AG ag l)) w ∧ PL (lq ι st) w l (E.cells ((iB K m k0).getD z)) := by
      have hpos := DZ K (MV E.sz ag (o8 m) vs) k0
      have hf := GD (P := P) K NY hkt (MV E.sz ag (o8 m) vs) k0 w
      cases hmg : iB K m k0 with
      | none =>
       rw [hmg] at hmv
       simp only at hmv
       rw [hmv] at hpos
       have hp : wC K (MV E.sz ag (o8 m) vs) k0 = none := by cases h : wC K (MV E.sz ag (o8 m) vs) k0 <;> simp [h] at hpos ⊢
       rw [hp] at hf
       refine ⟨zl, ?_, hzp _ _⟩
       rw [← hzl]
       simp only [execOp, hop, hv, hiv, Instr.lookup]
       cases ok' <;> simp [run_underlying hu, getObj, Sem.run, e2, vU, K.flat P _ _ k0 w hkt, hf, Result.andThen, Bf hinf hzero]
      | some e =>
       rw [hmg] at hmv
       simp only at hmv
       obtain ⟨l, hl1, hl2⟩ := hmv
       rw [hl1] at hpos
       cases hp : wC K (MV E.sz ag (o8 m) vs) k0 with
       | none => rw [hp] at hpos; simp at hpos
       | some j =>
        rw [hp, hl1] at hf
        refine ⟨l, ?_, hl2⟩
        simp only [execOp, hop, hv, hiv, Instr.lookup]
        cases ok' <;> simp [run_underlying hu, getObj, Sem.run, e2, vU, K.flat P _ _ k0 w hkt, hf, Result.andThen, Fu]
     obtain ⟨l, hrun, hl⟩ := hres
     refine wpList_step fun K' hK => ?_
     rw [if_pos hw]
     simp only [Oper.wp, hrun, Oper.upon]
     refine hK _ _ (hk _ _ _ hR (nm hput hF ?_))
     cases ok' with
     | false => exact LM E ag hag hl
     | true =>
      refine bh.tp [AG ag l, .bool (iB K m k0).isSome] _ rfl (fun j v a h1 h2 => ?_)
      match j with
      | 0 => simp at h1 h2; subst h1; subst h2; exact LM E ag hag hl
      | 1 => simp at h1 h2; subst h1; subst h2; exact .one _ _ (.pv _ _ (.s _ rfl))
      | j + 2 => simp at h1
    ·cases he
   ·cases he
  ·cases he
 ·cases he
theorem Ue (id : Nat) {m : List (κ × α)} {k0 : κ} (z : α) (kt et : TypeId) (ok : Bool) {f : α → Option β}
  (k : ∀ u, some ((iB K m k0).getD z) = some u → GG P n n0 loose an r Q (f u) (IE n (Uz ok (Pp E ag u) (iB K m k0).isSome) (run P n an s).st none (run P n an s)))
  (he : ID P (run P n an s) = some (id, K.enc k0, kt, et, ok) := by kernel_rfl) (ho : (run P n an s).st[id]? = some (q8 K E ag m) := by kernel_rfl)
  (hs : Dj (run P n an s) = true := by kernel_rfl) (hzo : Tp P ag et (E.cells z) = true := by kernel_rfl) (hag : ag = true ∨ E.sz = 1 := by first | exact .inl rfl | exact .inr rfl) (hkt : P.underlying kt = some K.desc := by kernel_rfl) : GG P n n0 loose an r Q (aw (some ((iB K m k0).getD z)) f) s :=
 ⟨fun h => cK (an := an) (Gn K E ag id m k0 z kt et ok hag hs he hkt hzo ho ((k _ rfl).go h))⟩
def QU (P : Program) (s : SS) : Option (Nat × Value × AV × TypeId) := match s.ks with
 | .o ops (o :: _) :: _ => (match dI ops o s.fr with
  | some true => (match o.dst, o.op with
   | none, .mapUpdate t x i y => (match P.underlying t with
    | some (.map kt et) => (match rv s.fr x, rv s.fr i with
     | .one (.mp id), .one (.pv (.s v)) => some (id, v, rv s.fr y, kt)
     | _, _ => none)
    | _ => none)
   | _, _ => none)
  | _ => none)
 | _ => none
theorem Lh (id : Nat) (m : List (κ × α)) (k0 : κ) (u : α) (kt : TypeId) (hag : ag = true ∨ E.sz = 1) (hs : Dj s = true) (he : QU P s = some (id, K.enc k0, Pp E ag u, kt)) (hkt : P.underlying kt = some K.desc)
  (ho : s.st[id]? = some (q8 K E ag m)) (k : XK P n n0 loose Q (IE n .j (s.st.set id (q8 K E ag (jq K m k0 u))) none s)) : XK P n n0 loose Q s := by
 refine H7 hs (fun ops o l Q' fr' hks hput hk => ?_) k
 obtain ⟨ks, fr, st, kn⟩ := s
 obtain ⟨ks', hks⟩ := hks
 simp only at hks
 subst hks
 simp only [QU] at he
 split at he
 ·rename_i hg
  split at he
  ·rename_i t x i y hdst hop
   split at he
   ·rename_i kt' et' hu
    split at he
    ·rename_i id' v hx hi
     simp only [Option.some.injEq, Prod.mk.injEq] at he
     obtain ⟨rfl, rfl, hy, rfl⟩ := he
     intro ι w a hR hF
     have h1 := dh hF x
     rw [hx] at h1
     obtain ⟨b, hv, hid, hb⟩ := NR h1
     have h2 := dh hF i
     rw [hi] at h2
     have hiv := bY h2
     have h3 := dh hF y
     rw [hy] at h3
     obtain ⟨el, hyv, hel⟩ := Rf E ag hag h3
     obtain ⟨b', o', vs, e1, e2, ⟨e3, rfl⟩, e4⟩ := hR.obj id' _ ho
     rw [hb] at e1; cases e1
     have hw := dQ hg hF
     have hbl := dW e2
     obtain ⟨vs', g1, g2⟩ := Mq K E ag m vs el k0 u e4 hel
     have hrun : (execOp a.eval o).run P w = .ok .skip { w with heap := w.heap.setIfInBounds b (vU K NY (jq K (MV E.sz ag (o8 m) vs) k0 (AG ag el))) } := by
      have hpos := DZ K (MV E.sz ag (o8 m) vs) k0
      have hf := GD (P := P) K NY hkt (MV E.sz ag (o8 m) vs) k0 w
      simp only [execOp, hop, hv, hiv, hyv, Instr.mapUpdate]
      cases hp : wC K (MV E.sz ag (o8 m) vs) k0 with
      | none =>
       rw [hp] at hf
       have e3 := EJ K NY (MV E.sz ag (o8 m) vs) k0 (AG ag el) 0 hp
       have e4 := Aa K (MV E.sz ag (o8 m) vs) k0 (AG ag el) hp
       simp [run_underlying hu, getObj, setObj, Sem.run, e2, vU, K.flat P _ _ k0 w hkt, hf, Result.andThen, e3, e4, Fu]
      | some j =>
       rw [hp] at hpos hf
       cases hq : iB K (MV E.sz ag (o8 m) vs) k0 with
       | none => simp [hq] at hpos
       | some u' =>
        rw [hq] at hf
        obtain ⟨e, g1, ⟨k', g2, g3⟩, g4, g5⟩ := Ez K NY (MV E.sz ag (o8 m) vs) k0 (AG ag el) 0 j hp
        have hs := K.bits k0 k' g3
        simp [run_underlying hu, getObj, setObj, Sem.run, e2, vU, K.flat P _ _ k0 w hkt, hf, Result.andThen, g1, g2, Instr.keyThatStays, hs, g4, g5, Fu]
     have hwr : A5 w { w with heap := w.heap.setIfInBounds b (vU K NY (jq K (MV E.sz ag (o8 m) vs) k0 (AG ag el))) } b := by
      refine ⟨rfl, rfl, rfl, by simp, fun y hy => ?_, fun c ty fz h => ?_⟩
      ·simp [Array.getElem?_setIfInBounds, Ne.symm hy]
      ·rw [e2] at h; simp [vU] at h
     have ha : cC.alive (q8 K E ag m) := by simp [cC.alive, q8]
     have kk := qk (body' := q8 K E ag (jq K m k0 u)) ho ha hb hwr
     have hO : qR ι { w with heap := w.heap.setIfInBounds b (vU K NY (jq K (MV E.sz ag (o8 m) vs) k0 (AG ag el))) } (st.set id' (q8 K E ag (jq K m k0 u))) id' (q8 K E ag (jq K m k0 u)) := by
      refine ⟨b, vU K NY (jq K (MV E.sz ag (o8 m) vs) k0 (AG ag el)), vs', hb, ?_, ⟨?_, by rw [← g2]⟩, ?_⟩
      ·have : b < w.heap.size := hbl
       simp [Array.getElem?_setIfInBounds, this]
      ·have := g1.1
       rw [this, QQ]
      ·exact g1.map fun _ _ h => kk.pure h
     have hR' := hR.set (body' := q8 K E ag (jq K m k0 u)) ho ha hb hwr hO
     refine wpList_step fun K' hK => ?_
     rw [if_pos hw]
     simp only [Oper.wp, hrun, Oper.upon]
     refine hK _ _ (gf (fun e a w h => h.trans (kk.weaken (fun _ _ => trivial))) (hk _ _ _ hR' ?_))
     have hfr : fr' = fr := by
      rw [hdst] at hput
      exact (Option.some.inj hput).symm
     rw [hdst, hfr]
     exact hF.mono' kk
    ·cases he
   ·cases he
  ·cases he
 ·cases he
theorem Uu (id : Nat) {m : List (κ × α)} {k0 : κ} {u : α} (kt : TypeId)
  (k : GG P n n0 loose an r Q T (IE n .j ((run P n an s).st.set id (q8 K E ag (jq K m k0 u))) none (run P n an s)))
  (he : QU P (run P n an s) = some (id, K.enc k0, Pp E ag u, kt) := by kernel_rfl) (ho : (run P n an s).st[id]? = some (q8 K E ag m) := by kernel_rfl)
  (hs : Dj (run P n an s) = true := by kernel_rfl) (hag : ag = true ∨ E.sz = 1 := by first | exact .inl rfl | exact .inr rfl) (hkt : P.underlying kt = some K.desc := by kernel_rfl) : GG P n n0 loose an r Q T s :=
 ⟨fun h => cK (an := an) (Lh K E ag id m k0 u kt hag hs he hkt ho (k.go h))⟩
end
end
end Go.SX
namespace Go.SX
open Go
variable {P : Program} {n n0 : Nat} {loose an : List Nat} {Q Q1 : QT} {α β : Type} {T x y : Option β} {r : β} {s : SS}
def Q5 : Nat → Nat → List Nat → List Nat
 | 0, _, a => a
 | g + 1, q, a => bif Nat.beq q 1 then a else Q5 g (Nat.div q 2) (Nat.mod q 2 :: a)
abbrev kP (fn : Func) (q m : Nat) : List It := kS fn (Q5 99 q []) m
abbrev cP (fn : Func) (q : Nat) : Code := cd fn (Q5 99 q [])
theorem bL (fn : Func) (q m : Nat) (h : ∀ K : KP n n0 loose, (∀ {γ : Type} {T1 : Option γ} {r1 : γ} {f : Fr} {st : St}, T1 = some r1 → GG P n n0 loose an r1 Q T1 ⟨kP fn q m, f, st, []⟩ → K.p f st) → GG P n n0 loose an r (mo K.p (QK P n n0 loose (kP fn q m) Q)) T (R1 (kP fn q m) (run P n an s)))
 (he : HV (kP fn q m) (run P n an s).ks = kP fn q m := by kernel_rfl) (ht : xC (kP fn q m) = true := by kernel_rfl) : GG P n n0 loose an r Q T s := uQ _ h he ht
theorem gE (fn : Func) (q m : Nat) (h : ∀ (R : Nat → KP n n0 loose), (∀ {γ : Type} {T1 : Option γ} {r1 : γ} {j : Nat} {f : Fr} {st : St}, T1 = some r1 → GG P n n0 loose an r1 (mo (R j).p (QK P n n0 loose (kP fn q m) Q)) T1 ⟨[.c (cP fn (2 * q))], f, st, []⟩ → (R (j + 1)).p f st) →
  T = some r → (R aX).p (run P n an s).fr (run P n an s).st)
 (he : TL (run P n an s) = some (cP fn (2 * q), kP fn q m) := by kernel_rfl) : GG P n n0 loose an r Q T s := uO _ _ h he
theorem uz {fn : Func} {rv : β → AV} {v : β} (h1 : Tf (run P n an s) = some .ret := by kernel_rfl) (he : RZ P fn (run P n an s) (rv v) = some (rv v) := by kernel_rfl) : GG P n n0 loose an r (IG P fn rv r) (some v) s := uR .ret (xF he) h1
theorem iU {R R' : Fr → St → Prop} {k k' : List It} {fn : Func} {rv : β → AV} {v : β} (h1 : Tf (run P n an s) = some .ret := by kernel_rfl) (he : RZ P fn (run P n an s) (rv v) = some (rv v) := by kernel_rfl) :
 GG P n n0 loose an r (mo R (QK P n n0 loose k (mo R' (QK P n n0 loose k' (IG P fn rv r))))) (some v) s := uR .ret (xN (xN (xF he))) h1
theorem uI {m : Nat → Prop} (z : m 0) (t : ∀ k, m k → m (k + 1)) : ∀ k, m k
 | 0 => z
 | k + 1 => t k (uI z t k)
abbrev vR (x : List PV) : AV := .one (.pv (.rp [x] 0 0))
end Go.SX
namespace Go.SX
open Go
structure cO where
 neg : Bool
 size : Int × Int × Int × Int
 deriving DecidableEq
structure dF where
 leaves : Int
 deriving DecidableEq
structure cj where
 kind : Int
 param : Int
 deriving DecidableEq
structure ry where
 below : Bool
 d : List Int
 deriving DecidableEq
structure ko (α : Type) where
 id : Int
 name : ByteArray
 need : Bool
 type : α
structure ap where
 kind : Int
 scale : Int
 fields : List (ko ap)
abbrev ac := ko ap
structure ae where
 kind : Int
 n : Int
 scale : Int
 s : ByteArray
 items : List ae
mutual
def ap.cells : ap → List PV
 | ⟨k, s, fs⟩ => [pi k, pi s, .ro (ap.fcells fs)]
def ap.fcells : List (ko ap) → List (List PV)
 | [] => []
 | f :: l => ap.fcell f :: ap.fcells l
def ap.fcell : ko ap → List PV
 | ⟨i, n, q, t⟩ => pi i :: .s (.string n) :: .s (.bool q) :: ap.cells t
end
mutual
def ae.cells : ae → List PV
 | ⟨k, n, sc, s, it⟩ => [pi k, pi n, pi sc, .s (.string s), .ro (ae.lcells it)]
def ae.lcells : List ae → List (List PV)
 | [] => []
 | v :: l => ae.cells v :: ae.lcells l
end
theorem ap.fcells_eq : ∀ l : List (ko ap), ap.fcells l = l.map ap.fcell
 | [] => rfl
 | f :: l => by rw [ap.fcells, ap.fcells_eq l]; rfl
theorem ae.lcells_eq : ∀ l : List ae, ae.lcells l = l.map ae.cells
 | [] => rfl
 | f :: l => by rw [ae.lcells, ae.lcells_eq l]; rfl
abbrev NO (f : ac) : List PV := [pi f.id, .s (.string f.name), .s (.bool f.need), pi f.type.kind, pi f.type.scale, .ro (ap.fcells f.type.fields)]
abbrev FB (v : ae) : List PV := [pi v.kind, pi v.n, pi v.scale, .s (.string v.s), .ro (ae.lcells v.items)]
theorem Li : ap.fcell = NO := funext fun ⟨_, _, _, ⟨_, _, _⟩⟩ => rfl
theorem EI : ae.cells = FB := funext fun ⟨_, _, _, _, _⟩ => rfl
def af : rn ac := ⟨6, NO, ap.fcells, fun l => by rw [ap.fcells_eq, Li], fun _ => rfl⟩
def am : rn ae := ⟨5, FB, ae.lcells, fun l => by rw [ae.lcells_eq, EI], fun _ => rfl⟩
structure bm where
 source : Int
 transform : cj
 deriving DecidableEq
structure dq where
 fields : List bm
 deriving DecidableEq
structure eN where
 id : Int
 nulls : Int
 min : ae
 max : ae
structure eT where
 file : ByteArray
 rows : List Int
 deriving DecidableEq
structure aD where
 schema : Int
 ids : List Int
 keys : List (List ae)
 seq : Int
structure ah where
 name : ByteArray
 schema : Int
 spec : Int
 part : List ae
 rows : Int
 seq : Int
 stats : List eN
structure kN where
 name : ByteArray
 branch : Bool
 snapshot : Int
 deriving DecidableEq
structure pp where
 name : ByteArray
 value : ByteArray
 deriving DecidableEq
structure aj where
 id : Int
 parent : Int
 seq : Int
 schema : Int
 time : Int
 kind : Int
 files : List ah
 dat : List eT
 dby : List aD
structure ax where
 schemas : List (List ac)
 specs : List dq
 nextField : Int
 nextSeq : Int
 nextSnap : Int
 purges : Int
 snapshots : List aj
 refs : List kN
 props : List pp
structure kR where
 gone : List ByteArray
 new : List ByteArray
 touched : List ByteArray
abbrev I4 (x : bm) : List PV := [pi x.source, pi x.transform.kind, pi x.transform.param]
def aM : rn bm := .of 3 I4 (fun _ => rfl)
def fR : rn dq := .of 1 (fun x => [.ro (aM.els x.fields)]) (fun _ => rfl)
abbrev H9 (x : eN) : List PV := [pi x.id, pi x.nulls, pi x.min.kind, pi x.min.n, pi x.min.scale, .s (.string x.min.s), .ro (am.els x.min.items), pi x.max.kind, pi x.max.n, pi x.max.scale, .s (.string x.max.s), .ro (am.els x.max.items)]
def dJ : rn eN := .of 12 H9 (fun _ => rfl)
def cw : rn eT := .of 2 (fun x => [.s (.string x.file), .ro (eI.els x.rows)]) (fun _ => rfl)
def bp : rn aD := .of 4 (fun x => [pi x.schema, .ro (eI.els x.ids), .ro ((eL am).els x.keys), pi x.seq]) (fun _ => rfl)
abbrev Mo (x : ah) : List PV := [.s (.string x.name), pi x.schema, pi x.spec, .ro (am.els x.part), pi x.rows, pi x.seq, .ro (dJ.els x.stats)]
def aF : rn ah := .of 7 Mo (fun _ => rfl)
def nI : rn kN := .of 3 (fun x => [.s (.string x.name), .s (.bool x.branch), pi x.snapshot]) (fun _ => rfl)
def kU : rn pp := .of 2 (fun x => [.s (.string x.name), .s (.string x.value)]) (fun _ => rfl)
abbrev MI (x : aj) : List PV := [pi x.id, pi x.parent, pi x.seq, pi x.schema, pi x.time, pi x.kind, .ro (aF.els x.files), .ro (cw.els x.dat), .ro (bp.els x.dby)]
def aW : rn aj := .of 9 MI (fun _ => rfl)
end Go.SX
namespace Go.SX
open Go Go.Shelf Go.Lib Go.Proofs Go.RowKit
theorem DN {ι : IM} {w : World} {st : St} : ∀ {us vs : List Value}, vs.length = us.length → (∀ (j : Nat) v a, vs[j]? = some v → (us.map fun u => AV.one (.pv (.s u)))[j]? = some a → bh ι w st v a) → vs = us
 | [], [], _, _ => rfl
 | [], _ :: _, h, _ => by simp at h
 | _ :: _, [], h, _ => by simp at h
 | u :: us, v :: vs, h, hA => by
  have h0 := bY (hA 0 v _ rfl rfl)
  subst h0
  rw [DN (us := us) (vs := vs) (by simpa using h) (fun j x a h1 h2 => hA (j + 1) x a (by simpa using h1) (by simpa using h2))]
theorem PC.below {P : Program} {f : Nat} {us : List Value} {v : Value} (hv : plain v = true)
  (h : ∀ w : World, (∀ (b : Nat) (l : List Value), Hr b = some l → SE w b l) → Calls P f us.toArray w fun e w' => e = .returned v ∧ Below w.heap.size w w') :
  PC P f (us.map fun u => .one (.pv (.s u))) (.one (.pv (.s v))) := by
 intro ι w vs hR hA
 obtain rfl := DN (by simpa using hA.1) hA.2
 refine (h w (fun b l hb => (hR.gl b l hb).2.2)).mono ?_
 rintro e w' ⟨rfl, hb⟩
 have hx : rm w w' := ⟨hb.os, hb.tape, hb.output, hb.size, fun b hlt => hb.block b hlt⟩
 exact ⟨v, _, [], ι, rfl, ⟨rfl, rfl⟩, hR.ext hx, .one _ _ (.pv _ _ (.s _ hv)), (hx.keeps ι []).weaken (fun _ _ => trivial)⟩
theorem Oo {g3 g4 : Nat} {w : World} (h3 : ∀ (i : Nat) x, AB[i]? = some x → w.cell? ⟨g3, i, none⟩ = some x) (h4 : ∀ (i : Nat) x, GJ[i]? = some x → w.cell? ⟨g4, i, none⟩ = some x) : Utf8Tabs g3 g4 w := by
 refine ⟨fun c hc => h3 c _ ?_, fun i hi => ⟨h4 _ _ ?_, h4 _ _ ?_⟩⟩
 ·simp [AB, hc]
 ·simp [GJ, show 2 * i < 32 by omega]
 ·simp [GJ, show 2 * i + 1 < 32 by omega, show (2 * i + 1) / 2 = i by omega]
theorem Ow {g3 g4 : Nat} {w : World} (h : Utf8Tabs g3 g4 w) : (∀ (i : Nat) x, AB[i]? = some x → w.cell? ⟨g3, i, none⟩ = some x) ∧ (∀ (i : Nat) x, GJ[i]? = some x → w.cell? ⟨g4, i, none⟩ = some x) := by
 refine ⟨fun i x hx => ?_, fun i x hx => ?_⟩
 ·by_cases hi : i < 256
  ·simp [AB, hi] at hx; subst hx; exact h.1 i hi
  ·simp [AB, hi] at hx
 ·by_cases hi : i < 32
  ·simp only [GJ, List.getElem?_map, List.getElem?_range hi, Option.map_some, Option.some.injEq] at hx
   by_cases e : i % 2 = 0
   ·rw [if_pos e] at hx
    have := (h.2 (i / 2) (by omega)).1
    rw [show 2 * (i / 2) = i by omega, hx] at this
    exact this
   ·rw [if_neg e] at hx
    have := (h.2 (i / 2) (by omega)).2
    rw [show 2 * (i / 2) + 1 = i by omega, hx] at this
    exact this
  ·simp [GJ, hi] at hx
theorem Dz {P : Program} {ρ : Ren} (L : Lays.n196 P ρ) (h3 : Hr (ρ.g 3) = some AB) (h4 : Hr (ρ.g 4) = some GJ) (s : ByteArray) (hs : s.size ≤ 9223372036854775807) :
  PC P (ρ.f 196) [.one (.pv (.s (.string s)))] (.one (.pv (.s (.bool (validD s.data.toList))))) :=
 PC.below (us := [.string s]) rfl fun w hw => Go.Proofs.Any.utf8_ValidString L s w hs (Oo (hw _ _ h3).1 (hw _ _ h4).1)
end Go.SX
namespace Go.SX
open Go
section
variable {P : Program} {n n0 : Nat} {loose : List Nat} {Q : QT} {fr : Fr} {st : St} {ops : Array Oper}
end
section
variable {P : Program} {n n0 : Nat} {loose an : List Nat} {Q : QT} {β : Type} {T : Option β} {r : β} {s : SS}
end
end Go.SX
namespace Go.SX
open Go
structure wg where
 f : {H : Type} → DataW H → Nat
 one : ∀ {H : Type} (d : DataW H), 1 ≤ f d
 str : ∀ {H : Type} (b : List UInt8), b.length + 1 ≤ f (DataW.lit (H := H) (.string b))
 sl : ∀ {H : Type} (e s : List (DataW H)), (e.map f).sum + 1 ≤ f (.slice e s)
 ag : ∀ {H : Type} (ps : List (DataW H)), (ps.map f).sum + 1 ≤ f (.agg ps)
abbrev GU : Nat → Prop := fun _ => False
def xQ (w : World) (cs : List Value) (ps : List PV) : Prop :=
 cs.length = ps.length ∧ ∀ (j : Nat) v p, cs[j]? = some v → ps[j]? = some p → gI GU w v p
theorem xQ.one {w : World} {v : Value} {p : PV} (h : gI GU w v p) : xQ w [v] [p] := by
 refine ⟨rfl, fun j v' p' h1 h2 => ?_⟩
 cases j with
 | zero => simp at h1 h2; subst h1; subst h2; exact h
 | succ j => simp at h1
theorem xQ.nil {w : World} : xQ w [] [] := ⟨rfl, fun j v p h => by simp at h⟩
theorem xQ.app {w : World} {cs : List Value} {p q : List PV} {n : Nat} (h : xQ w (cs.take n) p) (k : xQ w (cs.drop n) q) (hn : p.length = n) : xQ w cs (p ++ q) := by
 have e : cs = cs.take n ++ cs.drop n := (List.take_append_drop n cs).symm
 refine ⟨?_, fun j v x h1 h2 => ?_⟩
 ·have h1 := h.1; have h2 := k.1
  rw [List.length_append, ← h1, ← h2, ← List.length_append, ← e]
 ·by_cases hj : j < n
  ·rw [List.getElem?_append_left (by omega)] at h2
   refine h.2 j v x ?_ h2
   rw [List.getElem?_take, if_pos hj]; exact h1
  ·rw [List.getElem?_append_right (by omega)] at h2
   refine k.2 (j - n) v x ?_ (by rw [← hn]; exact h2)
   rw [List.getElem?_drop, show n + (j - n) = j by omega]; exact h1
section
variable (B : wg) (P : Program)
def oX (N : Nat) (t : TypeId) {α : Type} (cells : α → List PV) (wf : α → Prop) (size : α → Nat) : Prop :=
 ∀ ⦃H : Type⦄ ⦃enc : TypeId × Value → H⦄ ⦃w : World⦄ ⦃base : Nat⦄ ⦃spare : Nat → Bool⦄ ⦃held : Bool⦄ ⦃iO : Nat⦄ ⦃cs : List Value⦄ ⦃d : DataW H⦄ ⦃ps : List MemPlace⦄,
  DataW.trod enc P w base spare held iO t cs = some (d, ps) → B.f d ≤ N → ∃ x, xQ w cs (cells x) ∧ wf x ∧ size x ≤ B.f d
variable {B P}
theorem oX.int {N : Nat} {t : TypeId} {k : IntKind} (ht : P.underlying t = some (.int k)) : oX B P N t (fun n : Int => [.s (.int k n)]) (fun n => k.min ≤ n ∧ n ≤ k.max) (fun _ => 1) := by
 intro H enc w base spare held iO cs d ps h hN
 obtain ⟨n, rfl, hx, hw⟩ := DataW.trod_int ht h
 refine ⟨n, .one (.s _ rfl), ?_, B.one d⟩
 simpa [Lit.wf] using hw
theorem oX.bool {N : Nat} {t : TypeId} (ht : P.underlying t = some .bool) : oX B P N t (fun b : Bool => [.s (.bool b)]) (fun _ => True) (fun _ => 1) := by
 intro H enc w base spare held iO cs d ps h hN
 obtain ⟨b, rfl, hx⟩ := DataW.trod_bool ht h
 exact ⟨b, .one (.s _ rfl), trivial, B.one d⟩
theorem oX.str {N : Nat} {t : TypeId} (ht : P.underlying t = some .string) : oX B P N t (fun s : ByteArray => [.s (.string s)]) (fun _ => True) (fun s => s.size + 1) := by
 intro H enc w base spare held iO cs d ps h hN
 obtain ⟨s, rfl, hx, hs⟩ := DataW.trod_string ht h
 simp only [Prod.mk.injEq] at hx
 obtain ⟨rfl, rfl⟩ := hx
 refine ⟨s, .one (.s _ rfl), trivial, ?_⟩
 have := B.str (H := H) s.data.toList
 simpa using this
theorem N8 {w : World} {a : Addr} {v : Value} (h : w.cell? a = some v) : a.block < w.heap.size := by
 unfold World.cell? at h
 split at h
 ·rename_i h1; exact (Array.getElem?_eq_some_iff.1 h1).1
 ·cases h
theorem PS {α : Type} {f : α → Nat} {l : List α} {x : α} (h : x ∈ l) : f x ≤ (l.map f).sum := by
 induction l with
 | nil => cases h
 | cons y l ih =>
  simp only [List.map_cons, List.sum_cons]
  rcases List.mem_cons.1 h with rfl | h
  ·omega
  ·have := ih h; omega
theorem Hy {α β : Type} {q : Nat → α → β → Prop} : ∀ {l : List α} , (∀ (i : Nat) a, l[i]? = some a → ∃ b, q i a b) → ∃ bs : List β, bs.length = l.length ∧ ∀ (i : Nat) a b, l[i]? = some a → bs[i]? = some b → q i a b := by
 intro l
 induction l generalizing q with
 | nil => intro _; exact ⟨[], rfl, fun i a b h => by simp at h⟩
 | cons x l ih =>
  intro h
  obtain ⟨b0, h0⟩ := h 0 x rfl
  obtain ⟨bs, hl, hb⟩ := ih (q := fun i => q (i + 1)) (fun i a hi => h (i + 1) a (by simpa using hi))
  refine ⟨b0 :: bs, by simp [hl], fun i a b h1 h2 => ?_⟩
  cases i with
  | zero => simp at h1 h2; subst h1; subst h2; exact h0
  | succ i => exact hb i a b (by simpa using h1) (by simpa using h2)
theorem EG {α β : Type} {f : α → Nat} {g : β → Nat} : ∀ {l : List α} {m : List β}, m.length = l.length → (∀ (i : Nat) a b, l[i]? = some a → m[i]? = some b → g b ≤ f a) → (m.map g).sum ≤ (l.map f).sum
 | [], [], _, _ => by simp
 | [], _ :: _, h, _ => by simp at h
 | _ :: _, [], h, _ => by simp at h
 | a :: l, b :: m, h, hk => by
  have h0 := hk 0 a b rfl rfl
  have := EG (f := f) (g := g) (l := l) (m := m) (by simpa using h) (fun i x y h1 h2 => hk (i + 1) x y (by simpa using h1) (by simpa using h2))
  simp only [List.map_cons, List.sum_cons]
  omega
theorem oX.slice {N : Nat} {t e : TypeId} {α : Type} {cells : α → List PV} {wf : α → Prop} {size : α → Nat} (ht : P.underlying t = some (.slice e)) (hc : ∀ x, (cells x).length = P.cellsOf e)
  (hpos : 0 < P.cellsOf e) (h : ∀ N', N' < N → oX B P N' e cells wf size) :
  oX B P N t (fun xs : List α => [.ro (xs.map cells)]) (fun xs => ∀ x ∈ xs, wf x) (fun xs => (xs.map size).sum + 1) := by
 intro H enc w base spare held iO cs d ps hd hN
 rcases DataW.trod_slice ht hd with ⟨rfl, hx⟩ | ⟨a, len, cap, elems, rest, n, _, rfl, hx, hb, hl, hm, hlen, hel, _, _⟩
 ·exact ⟨[], .one .nl, by simp, by simpa using B.one d⟩
 simp only [Prod.mk.injEq] at hx
 obtain ⟨rfl, rfl⟩ := hx
 have hsum := B.sl (elems.map (·.1)) (rest.map (·.1))
 have hel' : ∀ (i : Nat) z, elems[i]? = some z → ∃ x : α, (∃ cs', w.cells? base (a.add (i * P.cellsOf e)) (P.cellsOf e) = some cs' ∧ xQ w cs' (cells x)) ∧ wf x ∧ size x ≤ B.f z.1 := by
  intro i z hz
  have hi : i < len := by rw [← hlen]; exact (List.getElem?_eq_some_iff.1 hz).1
  have hk := hel i hi
  rw [hz] at hk
  obtain ⟨cs', h1, h2⟩ := Option.bind_eq_some_iff.1 hk
  have hle : B.f z.1 ≤ ((elems.map (·.1)).map B.f).sum := PS (f := B.f) (List.mem_map.2 ⟨z, List.mem_of_getElem? hz, rfl⟩)
  obtain ⟨x, k1, k2, k3⟩ := h (B.f z.1) (by omega) (d := z.1) (ps := z.2) h2 (Nat.le_refl _)
  exact ⟨x, ⟨cs', h1, k1⟩, k2, k3⟩
 obtain ⟨xs, hxl, hxs⟩ := Hy hel'
 have hxlen : xs.length = len := by omega
 have key : ∀ (i : Nat) x, xs[i]? = some x → ∃ z, elems[i]? = some z ∧ (∃ cs', w.cells? base (a.add (i * P.cellsOf e)) (P.cellsOf e) = some cs' ∧ xQ w cs' (cells x)) ∧ wf x ∧ size x ≤ B.f z.1 := by
  intro i x hx
  have hi : i < elems.length := by rw [← hxl]; exact (List.getElem?_eq_some_iff.1 hx).1
  exact ⟨_, List.getElem?_eq_getElem hi, hxs i _ x (List.getElem?_eq_getElem hi) hx⟩
 refine ⟨xs, .one ?_, ?_, ?_⟩
 ·have hcell : ∀ (i : Nat) (ee : List PV) (j : Nat) c, (xs.map cells)[i]? = some ee → ee[j]? = some c → ∃ v, w.cell? (a.add (i * P.cellsOf e + j)) = some v ∧ gI GU w v c := by
   intro i ee j c h1 h2
   rw [List.getElem?_map, Option.map_eq_some_iff] at h1
   obtain ⟨x, hx, rfl⟩ := h1
   obtain ⟨z, _, ⟨cs', hcs, hrd⟩, _, _⟩ := key i x hx
   obtain ⟨_, hcl, hcc⟩ := World.cells?_some hcs
   have hj : j < P.cellsOf e := by rw [← hc x]; exact (List.getElem?_eq_some_iff.1 h2).1
   have := hcc j hj
   rw [wS] at this
   have hget : cs'[j]? = some cs'[j] := List.getElem?_eq_getElem (by omega)
   exact ⟨cs'[j], this.trans hget, hrd.2 j _ c hget h2⟩
  have := gI.ro (μ := GU) (w := w) a cap (P.cellsOf e) (xs.map cells) (fun i j => (w.cell? (a.add (i * P.cellsOf e + j))).getD undef) (by simpa [hxlen] using hl)
   (fun ee he => by obtain ⟨x, _, rfl⟩ := List.mem_map.1 he; exact hc x)
   (fun hne => by
    refine ⟨?_, fun h => h⟩
    cases xs with
    | nil => simp at hne
    | cons x0 r0 =>
     have h0 : 0 < (cells x0).length := by rw [hc]; exact hpos
     obtain ⟨v, hv, _⟩ := hcell 0 (cells x0) 0 _ rfl (List.getElem?_eq_getElem h0)
     have := N8 hv
     rwa [wA] at this)
   (fun i ee j c h1 h2 => by obtain ⟨v, hv, _⟩ := hcell i ee j c h1 h2; simp [hv])
   (fun i ee j c h1 h2 => by obtain ⟨v, hv, hr⟩ := hcell i ee j c h1 h2; simpa [hv] using hr)
  rw [List.length_map, hxlen] at this
  exact this
 ·intro x hx
  obtain ⟨i, hi, rfl⟩ := List.getElem_of_mem hx
  obtain ⟨_, _, _, k, _⟩ := key i _ (List.getElem?_eq_getElem hi)
  exact k
 ·have : (xs.map size).sum ≤ ((elems.map (·.1)).map B.f).sum := by
   rw [List.map_map]
   exact EG (f := B.f ∘ Prod.fst) (g := size) hxl (fun i z x h1 h2 => (hxs i z x h1 h2).2.2)
  show (xs.map size).sum + 1 ≤ _
  omega
def zu (B : wg) (P : Program) (N : Nat) (off : Nat) (fs : List Field) {α : Type} (cells : α → List PV) (wf : α → Prop) (size : α → Nat) : Prop :=
 ∀ ⦃H : Type⦄ ⦃enc : TypeId × Value → H⦄ ⦃w : World⦄ ⦃base : Nat⦄ ⦃spare : Nat → Bool⦄ ⦃held : Bool⦄ ⦃n : Nat⦄ ⦃cs : List Value⦄ ⦃xs : List (DataW H × List MemPlace)⦄,
  xs.length = fs.length → (∀ (i : Nat) f, fs[i]? = some f → DataW.trod enc P w base spare held n f.type ((cs.drop f.offset).take (P.cellsOf f.type)) = xs[i]?) → ((xs.map (·.1)).map B.f).sum ≤ N →
  cs.length = off + (fs.map fun f => P.cellsOf f.type).sum →
  ∃ x, xQ w (cs.drop off) (cells x) ∧ wf x ∧ size x ≤ ((xs.map (·.1)).map B.f).sum
theorem zu.nil {N off : Nat} : zu B P N off [] (fun _ : Unit => []) (fun _ => True) (fun _ => 0) := by
 intro H enc w base spare held n cs xs hl h hN hc
 refine ⟨(), ?_, trivial, Nat.zero_le _⟩
 have : cs.drop off = [] := by simp at hc ⊢; omega
 rw [this]
 exact .nil
theorem zu.cons {N off : Nat} {f : Field} {fs : List Field} {α β : Type} {c1 : α → List PV} {w1 : α → Prop} {s1 : α → Nat} {c2 : β → List PV} {w2 : β → Prop} {s2 : β → Nat} (ho : f.offset = off) (hc : ∀ x, (c1 x).length = P.cellsOf f.type)
  (h : oX B P N f.type c1 w1 s1) (k : zu B P N (off + P.cellsOf f.type) fs c2 w2 s2) : zu B P N off (f :: fs) (fun p : α × β => c1 p.1 ++ c2 p.2) (fun p => w1 p.1 ∧ w2 p.2) (fun p => s1 p.1 + s2 p.2) := by
 intro H enc w base spare held n cs xs hl hx hN hlen
 match xs, hl with
 | z :: zs, hl =>
  simp only [List.map_cons, List.sum_cons] at hN hlen ⊢
  have h0 := hx 0 f rfl
  obtain ⟨x, a1, a2, a3⟩ := h (d := z.1) (ps := z.2) h0 (by omega)
  obtain ⟨y, b1, b2, b3⟩ := k (xs := zs) (cs := cs) (by simpa using hl) (fun i g hg => hx (i + 1) g (by simpa using hg)) (by omega) (by omega)
  refine ⟨(x, y), ?_, ⟨a2, b2⟩, by simp only; omega⟩
  rw [ho] at a1
  refine xQ.app (n := P.cellsOf f.type) a1 ?_ (hc x)
  rw [List.drop_drop]
  exact b1
theorem oX.struct {N : Nat} {t : TypeId} {fs : Array Field} {α β : Type} {c : β → List PV} {wf : β → Prop} {s : β → Nat} {cells : α → List PV} {wf' : α → Prop} {size : α → Nat} (ht : P.underlying t = some (.struct fs)) (hsz : P.cellsOf t = 0 + (fs.toList.map fun f => P.cellsOf f.type).sum)
  (h : ∀ N', N' < N → zu B P N' 0 fs.toList c wf s) (mk : β → α) (h1 : ∀ y, cells (mk y) = c y) (h2 : ∀ y, wf y → wf' (mk y)) (h3 : ∀ y, size (mk y) ≤ s y + 1) : oX B P N t cells wf' size := by
 intro H enc w base spare held iO cs d ps hd hN
 obtain ⟨xs, n, _, hx, hlen, hxl, hf⟩ := DataW.trod_struct ht hd
 simp only [Prod.mk.injEq] at hx
 obtain ⟨rfl, rfl⟩ := hx
 have hag := B.ag (xs.map (·.1))
 obtain ⟨y, a1, a2, a3⟩ := h _ (show ((xs.map (·.1)).map B.f).sum < N by omega) (xs := xs) (cs := cs) (by simpa using hxl) (fun i f hi => hf i f (by simpa using hi)) (Nat.le_refl _) (hlen.trans hsz)
 refine ⟨mk y, ?_, h2 y a2, ?_⟩
 ·rw [h1]; simpa using a1
 ·have := h3 y; omega
theorem oX.conv {N : Nat} {t : TypeId} {α : Type} {c c' : α → List PV} {wf wf' : α → Prop} {s s' : α → Nat} (h : oX B P N t c wf s) (h1 : ∀ x, c' x = c x) (h2 : ∀ x, wf x → wf' x) (h3 : ∀ x, s' x ≤ s x) : oX B P N t c' wf' s' := by
 intro H enc w base spare held iO cs d ps hd hN
 obtain ⟨x, a1, a2, a3⟩ := h hd hN
 exact ⟨x, by rw [h1]; exact a1, h2 x a2, Nat.le_trans (h3 x) a3⟩
end
theorem gI.toVRel {w : World} {v : Value} {p : PV} (h : gI GU w v p) : dl ⟨fun _ => none, fun _ => False⟩ w [] v (.pv p) :=
 .pv v p (h.mono (Nat.le_refl _) (fun b _ _ => ⟨rfl, fun hm => by
  rcases hm with hm | ⟨id, o, h1, _, _⟩
  ·exact hm
  ·simp at h1⟩))
theorem OM {w : World} {v : Value} {p : PV} (h : xQ w [v] [p]) : bh ⟨fun _ => none, fun _ => False⟩ w [] v (.one (.pv p)) := .one _ _ (h.2 0 v p rfl rfl).toVRel
theorem QG {w : World} {cs : List Value} {ps : List PV} (h : xQ w cs ps) : bh ⟨fun _ => none, fun _ => False⟩ w [] (.agg cs.toArray) (.ag (ps.map .pv)) := by
 refine .ag _ _ ⟨by simpa using h.1, fun j v c h1 h2 => ?_⟩
 rw [List.getElem?_map, Option.map_eq_some_iff] at h2
 obtain ⟨p, h2, rfl⟩ := h2
 exact (h.2 j v p h1 h2).toVRel
theorem DG {B : wg} {P : Program} {H : Type} {enc : TypeId × Value → H} {w : World} {base b0 : Nat} {spare : Nat → Bool} {held : Bool} {r : Reach} {t : TypeId} {v : Value} {d : DataW H} {ps : List MemPlace} {α : Type} {cells : α → List PV} {wf : α → Prop} {size : α → Nat}
  (h : ∀ N, oX B P N t cells wf size) (hval : Value.okWide P w r b0 t v) (hd : DataW.Trod enc P w base spare held t v d ps) :
  ∃ x, xQ w v.cells.toList (cells x) ∧ wf x ∧ size x ≤ B.f d := by
 obtain ⟨iO, hd⟩ := hd
 exact h _ hd (Nat.le_refl _)
theorem Lc {P : Program} {w : World} {r : Reach} {b0 : Nat} {t : TypeId} {v : Value} {fs : Array Field} (ht : P.underlying t = some (.struct fs)) (hval : Value.okWide P w r b0 t v) : v = .agg v.cells := by
 simp only [Value.okWide, ht] at hval
 obtain ⟨cs, rfl, _⟩ := hval
 rfl
theorem HO {w : World} {v : Value} {ps : List PV} (hv : v = .agg v.cells) (h : xQ w v.cells.toList ps) : bh ⟨fun _ => none, fun _ => False⟩ w [] v (.ag (ps.map .pv)) := by
 have := QG h
 rw [hv]
 simpa [Value.cells] using this
theorem GN {w : World} {v : Value} {p : PV} (h : xQ w v.cells.toList [p]) (hv : ∀ cs, v ≠ .agg cs) : bh ⟨fun _ => none, fun _ => False⟩ w [] v (.one (.pv p)) := by
 have e : v.cells = #[v] := by cases v <;> first | rfl | exact absurd rfl (hv _)
 rw [e] at h
 exact OM h
theorem Jj {P : Program} {w : World} {r : Reach} {b0 : Nat} {t : TypeId} {v : Value} (ht : (match P.underlying t with | some (.int _) => true | some .bool => true | some .string => true | some (.slice _) => true | _ => false) = true) (hval : Value.okWide P w r b0 t v) : ∀ cs, v ≠ .agg cs := by
 rintro cs rfl
 cases hu : P.underlying t with
 | none => simp [hu] at ht
 | some d =>
  cases d <;> simp [hu] at ht <;> simp [Value.okWide, hu, Cell.okWide, Cell.ok] at hval
structure Iz (w w' : World) : Prop where
 os : w'.os = w.os
 output : w'.output = w.output
 size : w.heap.size ≤ w'.heap.size
 blk : ∀ b : Nat, b < w.heap.size → w'.heap[b]? = w.heap[b]?
theorem PC.call {P : Program} {f : Nat} {args : List AV} {r : AV} (h : PC P f args r) {w : World} {vs : List Value} (hl : vs.length = args.length) (hA : ∀ (j : Nat) v a, vs[j]? = some v → args[j]? = some a → bh ⟨fun _ => none, fun _ => False⟩ w [] v a) (hg : ∀ (b : Nat) (l : List Value), Hr b = some l → b < w.heap.size ∧ SE w b l) :
  Calls P f vs.toArray w fun e w' => ∃ v ι', e = .returned v ∧ bh ι' w' [] v r ∧ Iz w w' := by
 refine (h ⟨fun _ => none, fun _ => False⟩ w vs ⟨fun id o h => by simp at h, fun b h => h.elim, fun b h => fun h' => h', fun id id' o o' b h => by simp at h, fun b o h => ⟨fun hm => hm.elim id (fun ⟨_, _, h1, _⟩ => by simp at h1), hg b o h⟩⟩ ⟨hl, hA⟩).mono ?_
 rintro e w' ⟨v, av, st', ι', rfl, ⟨rfl, rfl⟩, hR, hv, k⟩
 refine ⟨v, ι', rfl, hv, k.os, k.output, k.size, fun b hb => (k.blk b hb ?_).1⟩
 rintro ⟨id, o, h1, _⟩
 simp at h1
theorem Iz.keptBut {w w' : World} (k : Iz w w') (may : MemPlace → Prop) : w.keptBut w' may := by
 refine ⟨k.os, k.output, fun i hi => ?_⟩
 rw [k.blk i hi]
 have : w.heap[i]? = some w.heap[i] := Array.getElem?_eq_getElem hi
 rw [this]
 cases w.heap[i] with
 | cells c t fr => exact ⟨rfl, rfl, rfl, fun _ _ => rfl⟩
 | map es clock => exact .inr ⟨rfl, rfl⟩
 | _ => rfl
theorem Iz.frozen {w w' : World} (k : Iz w w') {b off : Nat} (hb : b < w.heap.size) : w'.frozen? ⟨b, off, none⟩ = w.frozen? ⟨b, off, none⟩ := by
 simp [World.frozen?, k.blk b hb]
open Go.ChangeShapes Go.WideElems Go.WideShapes in
theorem E1 {H : Type} {enc : TypeId × Value → H} {P : Program} {W W' : World} (hl : laidOutB P = true) (k : Iz W W') {sp : Nat → Bool} : ∀ {ts : List TypeId} {vs : List Value} {ds : List (DataW H)} {ps : List MemPlace}, (ts.all fun t => P.readableRec t && Nat.ble (t + 1) P.types.size) = true →
  DataW.TrodAll enc P W 0 (fun _ => true) true ts vs ds ps → (∀ p ∈ ps, p.block < W.heap.size) → (∀ p ∈ ps, sp p.block = true) → DataW.TrodAll enc P W' 0 sp true ts vs ds ps
 | [], _, _, _, _, h, _, _ => by
  obtain ⟨rfl, rfl, rfl⟩ := trodAll_nil h
  exact rfl
 | t :: ts, _, _, _, hr, h, hp, hs => by
  obtain ⟨v, vs1, d, ds1, a, b, rfl, rfl, rfl, h1, h2⟩ := trodAll_cons h
  simp only [List.all_cons, Bool.and_eq_true] at hr
  refine ⟨a, b, Trod_stays hl hr.1.1 (Nat.le_of_ble_eq_true hr.1.2) h1 (fun p hpa => ?_) (fun p hpa => hs p (by simp [hpa])), E1 hl k hr.2 h2 (fun p hpa => hp p (by simp [hpa])) (fun p hpa => hs p (by simp [hpa])), rfl⟩
  have := hp p (by simp [hpa])
  cases p with
  | cell b off => exact cell?_same (k.blk b this)
  | map b => exact k.blk b this
open Go.ChangeShapes Go.RowKit Go.WideShapes Go.ChangeAt in
theorem Kd {H : Type} {enc : TypeId × Value → H} {P : Program} {f : Func} {s : ChangeSpec} {apart fresh handsOn again : Bool} {W W' : World} {args : Array Value} {ds gs : List (DataW H)} {before : List MemPlace}
  (hW : DataW.Whole enc P f.params.toList s.vars apart W args.toList ds gs before) (hl : laidOutB P = true) (hr : (f.params.toList.all fun t => P.readableRec t && Nat.ble (t + 1) P.types.size) = true) (k : Iz W W')
  (hvars : s.vars = []) (t : TypeId) (ht : f.resultTypes = #[t]) (hb : P.underlying t = some .bool) (hsp : s.fn H ds = { results := [.lit (.bool true)], args := ds }) :
  s.post enc P f apart fresh handsOn again W args (.bool true) W' := by
 have hW' := hW
 have hlt : ∀ p ∈ before, p.block < W.heap.size := fun p hp => hW.lt p hp
 obtain ⟨p, q, hA, hV, rfl, hz, hn⟩ := hW'
 rw [hvars] at hV
 obtain ⟨rfl, rfl⟩ := trodVars_none hV
 have hres : ∀ (b : Nat) (sp : Nat → Bool) (hd : Bool), DataW.TrodAll enc P W' b sp hd f.resultTypes.toList ((Value.bool true).resultList f.resultTypes.size) [.lit (.bool true)] [] := by
  intro b sp hd
  rw [ht]
  exact trodAll_cons_mk (shut_bool hb _) trodAll_mk0
 simp only [List.append_nil] at *
 have hargs : ∀ sp : Nat → Bool, (∀ x ∈ p, sp x.block = true) → DataW.TrodAll enc P W' 0 sp true f.params.toList args.toList ds p := fun sp hs => E1 hl k hr hA hlt hs
 have hold : ∀ x ∈ p, (fun b => decide (b < W.heap.size)) x.block = true := fun x hx => by simpa using hlt x hx
 refine ⟨ds, [], p, [], p, [], by simpa using hW, ?_, ?_, ?_, k.keptBut _, fun _ => ⟨?_, [.lit (.bool true)] ++ ds, [], p, ⟨p, [], ?_, ?_, by simp, ?_, hn⟩, ?_⟩⟩
 ·simp only [List.append_nil, hsp]; exact hres _ _ _
 ·simp only [List.append_nil, hsp]; exact hargs _ hold
 ·simp only [List.append_nil, hsp, hvars]; rfl
 ·exact ok_one ht rfl (okWide_bool_mk hb _)
 ·have := trodAll_append (hargs (fun _ => true) (fun _ _ => rfl)) (hres 0 (fun _ => true) true)
  simpa using this
 ·rw [hvars]; rfl
 ·intro b off hp
  rw [k.frozen (b := b) (off := off) (hlt _ hp)]
  exact hz b off hp
 ·intro x hx _; exact hx
theorem Ov {ι : IM} {w : World} {v : Value} {b : Bool} (h : bh ι w [] v (.one (.pv (.s (.bool b))))) : v = .bool b := by
 cases h with
 | one _ _ h =>
  cases h with
  | pv _ _ h => cases h with | s => rfl
end Go.SX
namespace Go.SX
open Go
def fieldsOf (P : Program) (t : TypeId) : List Field := match P.underlying t with
 | some (.struct fs) => fs.toList
 | _ => []
def jp (P : Program) (t : TypeId) : Bool := match P.underlying t with
 | some (.struct _) => true
 | _ => false
def fj (P : Program) (t : TypeId) (i : Nat) : Field := (fieldsOf P t)[i]?.getD default
section
variable {B : wg} {P : Program}
theorem oX.structF {N : Nat} {t : TypeId} {L : List Field} {α β : Type} {c : β → List PV} {wf : β → Prop} {s : β → Nat} {cells : α → List PV} {wf' : α → Prop} {size : α → Nat} (hu : jp P t = true) (hL : fieldsOf P t = L) (hsz : P.cellsOf t = 0 + (L.map fun f => P.cellsOf f.type).sum)
  (h : ∀ N', N' < N → zu B P N' 0 L c wf s) (mk : β → α) (h1 : ∀ y, cells (mk y) = c y) (h2 : ∀ y, wf y → wf' (mk y)) (h3 : ∀ y, size (mk y) ≤ s y + 1) : oX B P N t cells wf' size := by
 unfold jp at hu
 unfold fieldsOf at hL
 cases hd : P.underlying t with
 | none => simp [hd] at hu
 | some d =>
  cases d <;> simp [hd] at hu
  rename_i fs
  simp only [hd] at hL
  subst hL
  exact oX.struct hd hsz h mk h1 h2 h3
theorem IK {w : World} {r : Reach} {b0 : Nat} {t : TypeId} {v : Value} (hu : jp P t = true) (hval : Value.okWide P w r b0 t v) : v = .agg v.cells := by
 unfold jp at hu
 cases hd : P.underlying t with
 | none => simp [hd] at hu
 | some d =>
  cases d <;> simp [hd] at hu
  exact Lc hd hval
end
end Go.SX
namespace Go.SX
open Go
theorem Hf {B : wg} {P : Program} (t i : TypeId) (hi : P.underlying i = some (.int .i64)) (hu : jp P t = true) (hL : fieldsOf P t = [fj P t 0, fj P t 1]) (hs : P.cellsOf t = 2) (h1 : P.cellsOf i = 1)
  (ht : (fj P t 0).type = i ∧ (fj P t 1).type = i) (ho : (fj P t 0).offset = 0 ∧ (fj P t 1).offset = 1) (N : Nat) :
  oX B P N t (fun c : cj => [pi c.kind, pi c.param]) (fun _ => True) (fun _ => 1) := by
 obtain ⟨t0, t1⟩ := ht
 obtain ⟨o0, o1⟩ := ho
 have I : ∀ (N : Nat) (f : Field), f.type = i → oX B P N f.type (fun n : Int => [.s (.int .i64 n)]) (fun n => IntKind.min .i64 ≤ n ∧ n ≤ IntKind.max .i64) (fun _ => 1) := fun N f hf => oX.int (by rw [hf]; exact hi)
 have C : ∀ (f : Field), f.type = i → ∀ x : Int, ([PV.s (.int .i64 x)] : List PV).length = P.cellsOf f.type := fun f hf x => by rw [hf, h1]; rfl
 refine oX.structF (α := cj) (cells := fun c : cj => [pi c.kind, pi c.param]) (wf' := fun _ => True) (size := fun _ => 1) hu hL (by simp [t0, t1, h1, hs]) (fun N' _ => zu.cons o0 (C _ t0) (I N' _ t0) (zu.cons (by rw [o1, t0, h1]) (C _ t1) (I N' _ t1) zu.nil))
  (fun y => (⟨y.1, y.2.1⟩ : cj)) (fun y => rfl) (fun _ _ => trivial) (fun y => by simp)
end Go.SX
namespace Go.SX
open Go
theorem GW {B : wg} {P : Program} (tf tt ti : TypeId) (hi : P.underlying ti = some (.int .i64)) (hu : jp P tf = true) (hu' : jp P tt = true) (hL : fieldsOf P tf = [fj P tf 0, fj P tf 1]) (hL' : fieldsOf P tt = [fj P tt 0, fj P tt 1]) (hz : P.cellsOf tf = 3 ∧ P.cellsOf tt = 2 ∧ P.cellsOf ti = 1)
  (ht : (fj P tf 0).type = ti ∧ (fj P tf 1).type = tt ∧ (fj P tt 0).type = ti ∧ (fj P tt 1).type = ti) (ho : (fj P tf 0).offset = 0 ∧ (fj P tf 1).offset = 1 ∧ (fj P tt 0).offset = 0 ∧ (fj P tt 1).offset = 1) (N : Nat) :
  oX B P N tf I4 (fun _ => True) (fun _ => 1) := by
 obtain ⟨t0, t1, t2, t3⟩ := ht
 obtain ⟨o0, o1, o2, o3⟩ := ho
 obtain ⟨z0, z1, z2⟩ := hz
 have I : ∀ (N : Nat) (f : Field), f.type = ti → oX B P N f.type (fun n : Int => [.s (.int .i64 n)]) (fun n => IntKind.min .i64 ≤ n ∧ n ≤ IntKind.max .i64) (fun _ => 1) := fun N f hf => oX.int (by rw [hf]; exact hi)
 have C : ∀ (f : Field), f.type = ti → ∀ x : Int, ([PV.s (.int .i64 x)] : List PV).length = P.cellsOf f.type := fun f hf x => by rw [hf, z2]; rfl
 have T : ∀ N, oX B P N (fj P tf 1).type (fun c : cj => [pi c.kind, pi c.param]) (fun _ => True) (fun _ => 1) := fun N => by
  rw [t1]; exact Hf tt ti hi hu' hL' z1 z2 ⟨t2, t3⟩ ⟨o2, o3⟩ N
 refine oX.structF (α := bm) (cells := I4) (wf' := fun _ => True) (size := fun _ => 1) hu hL (by simp [t0, t1, z0, z1, z2]) (fun N' _ =>
  zu.cons o0 (C _ t0) (I N' _ t0) (zu.cons (c1 := fun c : cj => [pi c.kind, pi c.param]) (by rw [o1, t0, z2]) (fun x => by rw [t1, z1]; rfl) (T N') zu.nil))
  (fun y => (⟨y.1, y.2.1⟩ : bm)) (fun y => rfl) (fun _ _ => trivial) (fun y => by simp)
theorem QI {B : wg} {P : Program} (t tl tf tt ti : TypeId) (hl : P.underlying tl = some (.slice tf)) (h0 : jp P t = true) (hL0 : fieldsOf P t = [fj P t 0]) (hz0 : P.cellsOf t = 1 ∧ P.cellsOf tl = 1) (ht0 : (fj P t 0).type = tl) (ho0 : (fj P t 0).offset = 0)
  (hi : P.underlying ti = some (.int .i64)) (hu : jp P tf = true) (hu' : jp P tt = true) (hL : fieldsOf P tf = [fj P tf 0, fj P tf 1]) (hL' : fieldsOf P tt = [fj P tt 0, fj P tt 1]) (hz : P.cellsOf tf = 3 ∧ P.cellsOf tt = 2 ∧ P.cellsOf ti = 1)
  (ht : (fj P tf 0).type = ti ∧ (fj P tf 1).type = tt ∧ (fj P tt 0).type = ti ∧ (fj P tt 1).type = ti) (ho : (fj P tf 0).offset = 0 ∧ (fj P tf 1).offset = 1 ∧ (fj P tt 0).offset = 0 ∧ (fj P tt 1).offset = 1) (N : Nat) :
  oX B P N t (fun x : dq => [PV.ro (aM.els x.fields)]) (fun _ => True) (fun x => x.fields.length) := by
 have hS : ∀ N, oX B P N (fj P t 0).type (fun xs : List bm => [PV.ro (xs.map I4)]) (fun xs => ∀ x ∈ xs, True) (fun xs => (xs.map fun _ => 1).sum + 1) := fun N => by
  rw [ht0]; exact oX.slice (e := tf) (cells := I4) hl (fun x => by rw [hz.1]; rfl) (by rw [hz.1]; omega) (fun N' _ => GW tf tt ti hi hu hu' hL hL' hz ht ho N')
 refine oX.structF (α := dq) (cells := fun x : dq => [PV.ro (aM.els x.fields)]) (wf' := fun _ => True) (size := fun x => x.fields.length) h0 hL0 (by simp [ht0, hz0]) (fun N' _ =>
  zu.cons (c1 := fun xs : List bm => [PV.ro (xs.map I4)]) ho0 (fun x => by rw [ht0, hz0.2]; rfl) (hS N') zu.nil)
  (fun y => (⟨y.1⟩ : dq)) (fun y => ?_) (fun _ _ => trivial) (fun y => ?_)
 ·show [PV.ro (aM.els y.1)] = [PV.ro (y.1.map I4)] ++ []
  rw [aM.hels]; rfl
 ·show y.1.length ≤ (y.1.map fun _ => 1).sum + 1 + 0 + 1
  have : ∀ l : List bm, (l.map fun _ => 1).sum = l.length := fun l => by induction l with
   | nil => rfl
   | cons a l ih => simp only [List.map_cons, List.sum_cons, List.length_cons, ih]; omega
  rw [this]; omega
end Go.SX
namespace Go.SX
open Go
abbrev yT (n : Int) : Prop := IntKind.min .i64 ≤ n ∧ n ≤ IntKind.max .i64
theorem OQ {B : wg} {P : Program} {wf : ae → Prop} {sz : ae → Nat} (tv ti ts tl : TypeId) (hi : P.underlying ti = some (.int .i64)) (hs : P.underlying ts = some .string) (hl : P.underlying tl = some (.slice tv)) (hu : jp P tv = true)
  (hL : fieldsOf P tv = [fj P tv 0, fj P tv 1, fj P tv 2, fj P tv 3, fj P tv 4]) (hz : P.cellsOf tv = 5 ∧ P.cellsOf ti = 1 ∧ P.cellsOf ts = 1 ∧ P.cellsOf tl = 1)
  (ht : (fj P tv 0).type = ti ∧ (fj P tv 1).type = ti ∧ (fj P tv 2).type = ti ∧ (fj P tv 3).type = ts ∧ (fj P tv 4).type = tl)
  (ho : (fj P tv 0).offset = 0 ∧ (fj P tv 1).offset = 1 ∧ (fj P tv 2).offset = 2 ∧ (fj P tv 3).offset = 3 ∧ (fj P tv 4).offset = 4)
  (hwf : ∀ k n sc s it, yT k → yT n → yT sc → (∀ x ∈ it, wf x) → wf ⟨k, n, sc, s, it⟩) (hsz : ∀ k n sc s it, sz ⟨k, n, sc, s, it⟩ ≤ s.size + (it.map sz).sum + 6) :
  ∀ N, oX B P N tv ae.cells wf sz := by
 obtain ⟨t0, t1, t2, t3, t4⟩ := ht
 obtain ⟨o0, o1, o2, o3, o4⟩ := ho
 obtain ⟨z0, z1, z2, z3⟩ := hz
 intro N
 induction N using Nat.strongRecOn with
 | _ N ih =>
  have I : ∀ (N : Nat) (f : Field), f.type = ti → oX B P N f.type (fun n : Int => [PV.s (.int .i64 n)]) (fun n => IntKind.min .i64 ≤ n ∧ n ≤ IntKind.max .i64) (fun _ => 1) := fun N f hf => oX.int (by rw [hf]; exact hi)
  have C : ∀ (f : Field), f.type = ti → ∀ x : Int, ([PV.s (.int .i64 x)] : List PV).length = P.cellsOf f.type := fun f hf x => by rw [hf, z1]; rfl
  refine oX.structF (α := ae) (cells := ae.cells) (wf' := wf) (size := sz) hu hL (by simp [t0, t1, t2, t3, t4, z0, z1, z2, z3]) (fun N' hN' =>
   zu.cons o0 (C _ t0) (I N' _ t0) (zu.cons (by rw [o1, t0, z1]) (C _ t1) (I N' _ t1) (zu.cons (by rw [o2, t0, t1, z1]) (C _ t2) (I N' _ t2)
    (zu.cons (c1 := fun s : ByteArray => [PV.s (.string s)]) (by rw [o3, t0, t1, t2, z1]) (fun x => by rw [t3, z2]; rfl) (oX.str (by rw [t3]; exact hs))
     (zu.cons (c1 := fun xs : List ae => [PV.ro (xs.map ae.cells)]) (by rw [o4, t0, t1, t2, t3, z1, z2]) (fun x => by rw [t4, z3]; rfl)
      (oX.slice (e := tv) (by rw [t4]; exact hl) (fun x => by rw [z0]; cases x; rfl) (by omega) (fun N'' hN'' => ih N'' (by omega))) zu.nil)))))
   (fun y => (⟨y.1, y.2.1, y.2.2.1, y.2.2.2.1, y.2.2.2.2.1⟩ : ae)) (fun y => ?_) (fun y h => hwf _ _ _ _ _ h.1 h.2.1 h.2.2.1 h.2.2.2.2.1) (fun y => ?_)
  ·simp only [ae.cells, ae.lcells_eq]
   rfl
  ·have := hsz y.1 y.2.1 y.2.2.1 y.2.2.2.1 y.2.2.2.2.1
   exact Nat.le_trans this (by show _ ≤ 1 + (1 + (1 + ((y.2.2.2.1).size + 1 + ((y.2.2.2.2.1.map sz).sum + 1 + 0)))) + 1; omega)
end Go.SX
namespace Go.SX
open Go
theorem Jb {B : wg} {P : Program} {wfT : ap → Prop} {szT : ap → Nat} {wfF : ac → Prop} {szF : ac → Nat} (tt tf ti ts tb : TypeId) (hi : P.underlying ti = some (.int .i64)) (hs : P.underlying ts = some .string) (hb : P.underlying tb = some .bool) (hu : jp P tf = true)
  (hL : fieldsOf P tf = [fj P tf 0, fj P tf 1, fj P tf 2, fj P tf 3]) (hz : P.cellsOf tf = 6 ∧ P.cellsOf tt = 3 ∧ P.cellsOf ti = 1 ∧ P.cellsOf ts = 1 ∧ P.cellsOf tb = 1)
  (ht : (fj P tf 0).type = ti ∧ (fj P tf 1).type = ts ∧ (fj P tf 2).type = tb ∧ (fj P tf 3).type = tt)
  (ho : (fj P tf 0).offset = 0 ∧ (fj P tf 1).offset = 1 ∧ (fj P tf 2).offset = 2 ∧ (fj P tf 3).offset = 3)
  (hwf : ∀ i n q t, yT i → wfT t → wfF ⟨i, n, q, t⟩) (hsz : ∀ i n q t, szF ⟨i, n, q, t⟩ ≤ n.size + szT t + 4) {N : Nat} (ih : ∀ N', N' < N → oX B P N' tt ap.cells wfT szT) :
  oX B P N tf ap.fcell wfF szF := by
 obtain ⟨t0, t1, t2, t3⟩ := ht
 obtain ⟨o0, o1, o2, o3⟩ := ho
 obtain ⟨z0, z1, z2, z3, z4⟩ := hz
 refine oX.structF (α := ac) (cells := ap.fcell) (wf' := wfF) (size := szF) hu hL (by simp [t0, t1, t2, t3, z0, z1, z2, z3, z4]) (fun N' hN' =>
  zu.cons (c1 := fun n : Int => [PV.s (.int .i64 n)]) o0 (fun x => by rw [t0, z2]; rfl) (oX.int (by rw [t0]; exact hi))
   (zu.cons (c1 := fun s : ByteArray => [PV.s (.string s)]) (by rw [o1, t0, z2]) (fun x => by rw [t1, z3]; rfl) (oX.str (by rw [t1]; exact hs))
    (zu.cons (c1 := fun b : Bool => [PV.s (.bool b)]) (by rw [o2, t0, t1, z2, z3]) (fun x => by rw [t2, z4]; rfl) (oX.bool (by rw [t2]; exact hb))
     (zu.cons (c1 := ap.cells) (by rw [o3, t0, t1, t2, z2, z3, z4]) (fun x => by rw [t3, z1]; cases x; rfl) (by rw [t3]; exact ih N' hN') zu.nil))))
  (fun y => (⟨y.1, y.2.1, y.2.2.1, y.2.2.2.1⟩ : ac)) (fun y => ?_) (fun y h => hwf _ _ _ _ h.1 h.2.2.2.1) (fun y => ?_)
 ·simp only [ap.fcell, List.append_nil]
  rfl
 ·have := hsz y.1 y.2.1 y.2.2.1 y.2.2.2.1
  exact Nat.le_trans this (by show _ ≤ 1 + ((y.2.1).size + 1 + (1 + (szT y.2.2.2.1 + 0))) + 1; omega)
theorem Qj {B : wg} {P : Program} {wfT : ap → Prop} {szT : ap → Nat} {wfF : ac → Prop} {szF : ac → Nat} (tt tf ti ts tb tl : TypeId) (hi : P.underlying ti = some (.int .i64)) (hs : P.underlying ts = some .string) (hb : P.underlying tb = some .bool)
  (hl : P.underlying tl = some (.slice tf)) (hu : jp P tf = true) (hu' : jp P tt = true)
  (hL : fieldsOf P tf = [fj P tf 0, fj P tf 1, fj P tf 2, fj P tf 3]) (hL' : fieldsOf P tt = [fj P tt 0, fj P tt 1, fj P tt 2]) (hz : P.cellsOf tf = 6 ∧ P.cellsOf tt = 3 ∧ P.cellsOf ti = 1 ∧ P.cellsOf ts = 1 ∧ P.cellsOf tb = 1) (hzl : P.cellsOf tl = 1)
  (ht : (fj P tf 0).type = ti ∧ (fj P tf 1).type = ts ∧ (fj P tf 2).type = tb ∧ (fj P tf 3).type = tt)
  (ho : (fj P tf 0).offset = 0 ∧ (fj P tf 1).offset = 1 ∧ (fj P tf 2).offset = 2 ∧ (fj P tf 3).offset = 3)
  (ht' : (fj P tt 0).type = ti ∧ (fj P tt 1).type = ti ∧ (fj P tt 2).type = tl)
  (ho' : (fj P tt 0).offset = 0 ∧ (fj P tt 1).offset = 1 ∧ (fj P tt 2).offset = 2)
  (hwf : ∀ i n q t, yT i → wfT t → wfF ⟨i, n, q, t⟩) (hsz : ∀ i n q t, szF ⟨i, n, q, t⟩ ≤ n.size + szT t + 4)
  (hwf' : ∀ k s fs, yT k → yT s → (∀ f ∈ fs, wfF f) → wfT ⟨k, s, fs⟩) (hsz' : ∀ k s fs, szT ⟨k, s, fs⟩ ≤ (fs.map szF).sum + 4) :
  ∀ N, oX B P N tt ap.cells wfT szT := by
 intro N
 induction N using Nat.strongRecOn with
 | _ N ih =>
  have hF : ∀ N', N' ≤ N → oX B P N' tf ap.fcell wfF szF := fun N' h => Jb tt tf ti ts tb hi hs hb hu hL hz ht ho hwf hsz (fun N'' h'' => ih N'' (by omega))
  obtain ⟨t0, t1, t2⟩ := ht'
  obtain ⟨o0, o1, o2⟩ := ho'
  obtain ⟨z0, z1, z2, z3, z4⟩ := hz
  refine oX.structF (α := ap) (cells := ap.cells) (wf' := wfT) (size := szT) hu' hL' (by simp [t0, t1, t2, z1, z2, hzl]) (fun N' hN' =>
   zu.cons (c1 := fun n : Int => [PV.s (.int .i64 n)]) o0 (fun x => by rw [t0, z2]; rfl) (oX.int (by rw [t0]; exact hi))
    (zu.cons (c1 := fun n : Int => [PV.s (.int .i64 n)]) (by rw [o1, t0, z2]) (fun x => by rw [t1, z2]; rfl) (oX.int (by rw [t1]; exact hi))
     (zu.cons (c1 := fun xs : List ac => [PV.ro (xs.map ap.fcell)]) (by rw [o2, t0, t1, z2]) (fun x => by rw [t2, hzl]; rfl)
      (oX.slice (e := tf) (by rw [t2]; exact hl) (fun x => by rw [z0]; obtain ⟨_, _, _, ⟨_, _, _⟩⟩ := x; rfl) (by omega) (fun N'' hN'' => hF N'' (by omega))) zu.nil)))
   (fun y => (⟨y.1, y.2.1, y.2.2.1⟩ : ap)) (fun y => ?_) (fun y h => hwf' _ _ _ h.1 h.2.1 h.2.2.1) (fun y => ?_)
  ·simp only [ap.cells, ap.fcells_eq]
   rfl
  ·have := hsz' y.1 y.2.1 y.2.2.1
   exact Nat.le_trans this (by show _ ≤ 1 + (1 + ((y.2.2.1.map szF).sum + 1 + 0)) + 1; omega)
end Go.SX
namespace Go.SX
open Go
theorem LA {B : wg} {P : Program} {wfT : ap → Prop} {szT : ap → Nat} {wfF : ac → Prop} {szF : ac → Nat} {szL : List ac → Nat} (tt tf ti ts tb tl : TypeId) (hi : P.underlying ti = some (.int .i64)) (hs : P.underlying ts = some .string) (hb : P.underlying tb = some .bool)
  (hl : P.underlying tl = some (.slice tf)) (hu : jp P tf = true) (hu' : jp P tt = true)
  (hL : fieldsOf P tf = [fj P tf 0, fj P tf 1, fj P tf 2, fj P tf 3]) (hL' : fieldsOf P tt = [fj P tt 0, fj P tt 1, fj P tt 2]) (hz : P.cellsOf tf = 6 ∧ P.cellsOf tt = 3 ∧ P.cellsOf ti = 1 ∧ P.cellsOf ts = 1 ∧ P.cellsOf tb = 1) (hzl : P.cellsOf tl = 1)
  (ht : (fj P tf 0).type = ti ∧ (fj P tf 1).type = ts ∧ (fj P tf 2).type = tb ∧ (fj P tf 3).type = tt)
  (ho : (fj P tf 0).offset = 0 ∧ (fj P tf 1).offset = 1 ∧ (fj P tf 2).offset = 2 ∧ (fj P tf 3).offset = 3)
  (ht' : (fj P tt 0).type = ti ∧ (fj P tt 1).type = ti ∧ (fj P tt 2).type = tl)
  (ho' : (fj P tt 0).offset = 0 ∧ (fj P tt 1).offset = 1 ∧ (fj P tt 2).offset = 2)
  (hwf : ∀ i n q t, yT i → wfT t → wfF ⟨i, n, q, t⟩) (hsz : ∀ i n q t, szF ⟨i, n, q, t⟩ ≤ n.size + szT t + 4)
  (hwf' : ∀ k s fs, yT k → yT s → (∀ f ∈ fs, wfF f) → wfT ⟨k, s, fs⟩) (hsz' : ∀ k s fs, szT ⟨k, s, fs⟩ ≤ (fs.map szF).sum + 4) (hszl : ∀ xs, szL xs ≤ (xs.map szF).sum + 1) (N : Nat) :
  oX B P N tl (fun xs : List ac => [PV.ro (af.els xs)]) (fun xs => ∀ x ∈ xs, wfF x) szL := by
 have hT := Qj (B := B) (P := P) tt tf ti ts tb tl hi hs hb hl hu hu' hL hL' hz hzl ht ho ht' ho' hwf hsz hwf' hsz'
 have hF : ∀ N, oX B P N tf ap.fcell wfF szF := fun N => Jb tt tf ti ts tb hi hs hb hu hL hz ht ho hwf hsz (fun N' _ => hT N')
 refine oX.conv (oX.slice (e := tf) (cells := ap.fcell) hl (fun x => by rw [hz.1]; obtain ⟨_, _, _, ⟨_, _, _⟩⟩ := x; rfl) (by rw [hz.1]; omega) (fun N' _ => hF N')) (fun x => ?_) (fun x h => h) hszl
 show [PV.ro (ap.fcells x)] = _
 rw [ap.fcells_eq]
end Go.SX
namespace Go.SX
open Go
theorem Gs : ∀ xs : List Int, (xs.map (fun _ => (1 : Nat))).sum = xs.length
 | [] => rfl
 | x :: l => by rw [List.map_cons, List.sum_cons, Gs l, List.length_cons]; omega
theorem Q4 {B : wg} {P : Program} (tl ti : TypeId) (hl : P.underlying tl = some (.slice ti)) (hi : P.underlying ti = some (.int .i64)) (hz : P.cellsOf ti = 1) (N : Nat) :
  oX B P N tl (fun xs : List Int => [PV.ro (eI.els xs)]) (fun xs => ∀ x ∈ xs, yT x) (fun xs => xs.length) := by
 refine oX.conv (oX.slice (e := ti) (cells := fun n : Int => [PV.s (.int .i64 n)]) hl (fun x => by rw [hz]; rfl) (by rw [hz]; omega) (fun N' _ => oX.int hi)) (fun x => rfl) (fun x h => h) (fun xs => ?_)
 rw [Gs]; omega
end Go.SX
namespace Go.SX
open Go
end Go.SX
