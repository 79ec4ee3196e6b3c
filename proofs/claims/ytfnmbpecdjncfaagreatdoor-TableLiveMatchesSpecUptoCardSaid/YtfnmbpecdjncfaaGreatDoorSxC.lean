/- SX: a machine that runs the program's code over frames up to the next event (a condition, a call, a list's operation); proofs name the events only. SX: the events' rules. SX: the events' rules, second part: objects. SX: the events' rules, third part: lists of our own. SX: the events' rules, fourth part: operations on lists of our own. SX: calls that yield a number and an error, which is only held against nil. SX: maps whose elements are of several cells, by events. Short forms for printed proofs: paths as numbers, joins, ways out. The program's data as Lean's, with their cells. SX: functions whose contract is given over plain worlds; utf8.ValidString by the shelf's contract. SX: functions that the model stands in for, at any arguments; bytes.Compare. SX: the way from a given row to a contract of pure values: reading the arguments, and closing the row. SX: readings of structs by the program's own fields. SX: a struct of two integers, read. SX: a specification, read. SX: readings of values and types. Types out of rows. Lists of fields out of rows. Lists of values, of numbers, of bytes out of rows. Lists of lists of values out of rows. -/
import Derived.Shelf.Unicode.ValidAny
import Derived.Lib.Bytealg
import Derived.OpenShut
import Derived.JoinedCond
import Derived.WideKeyArgs
import Derived.Test.YtfnmbpecdjncfaaGreatDoorSxB
set_option linter.unusedVariables false
set_option linter.unusedSimpArgs false
set_option linter.unnecessarySimpa false
namespace Go.SX
open Go
section force
variable {β : Type}
def fN (n : Nat) (K : Nat → β) : β :=
 bif Nat.beq n 0 then K 0 else bif Nat.beq n 1 then K 1 else bif Nat.beq n 2 then K 2 else bif Nat.beq n 3 then K 3 else
 bif Nat.beq n 4 then K 4 else bif Nat.beq n 5 then K 5 else bif Nat.beq n 6 then K 6 else bif Nat.beq n 7 then K 7 else
 bif Nat.beq n 8 then K 8 else bif Nat.beq n 9 then K 9 else bif Nat.beq n 10 then K 10 else bif Nat.beq n 11 then K 11 else
 bif Nat.beq n 12 then K 12 else bif Nat.beq n 13 then K 13 else K n
theorem Rv (n : Nat) (K : Nat → β) : fN n K = K n := by
 have h : ∀ (m : Nat) (r : β), r = K n → (bif Nat.beq n m then K m else r) = K n := by
  intro m r hr
  cases hb : Nat.beq n m with
  | true => rw [qV hb]; rfl
  | false => exact hr
 unfold fN
 repeat first | exact rfl | apply h
def fV (v : Value) (K : Value → β) : β := match v with
 | .int k n => K (.int k n)
 | .bool b => K (.bool b)
 | .string s => K (.string s)
 | .slice none 0 0 => K (.slice none 0 0)
 | v => K v
theorem Ue (v : Value) (K : Value → β) : fV v K = K v := by unfold fV; split <;> rfl
def VG (p : PV) (K : PV → β) : β := match p with
 | .s v => fV v fun v => K (.s v)
 | .ro els => K (.ro els)
 | .rp els i off => fN off fun off => K (.rp els i off)
 | .fn f caps => K (.fn f caps)
theorem Pl (p : PV) (K : PV → β) : VG p K = K p := by unfold VG; split <;> simp only [Ue, Rv]
def Vw : List PV → (List PV → β) → β
 | [], K => K []
 | p :: l, K => VG p fun p => Vw l fun l => K (p :: l)
theorem OE : ∀ (l : List PV) (K : List PV → β), Vw l K = K l
 | [], K => rfl
 | p :: l, K => by simp only [Vw, Pl, OE l]
def fP (p : PV) (K : PV → β) : β := match p with
 | .fn f caps => Vw caps fun caps => K (.fn f caps)
 | p => VG p K
theorem Rk (p : PV) (K : PV → β) : fP p K = K p := by unfold fP; split <;> simp only [OE, Pl]
def Vx (c : CV) (K : CV → β) : β := match c with
 | .pv p => fP p fun p => K (.pv p)
 | .pt id sz i off => fN id fun id => fN off fun off => K (.pt id sz i off)
 | .sl id sz off len => fN id fun id => K (.sl id sz off len)
 | .fn f caps => K (.fn f caps)
 | .mp id => fN id fun id => K (.mp id)
 | .cl els => K (.cl els)
theorem OF (c : CV) (K : CV → β) : Vx c K = K c := by unfold Vx; split <;> simp only [Rk, Rv]
def TF : List CV → (List CV → β) → β
 | [], K => K []
 | p :: l, K => Vx p fun p => TF l fun l => K (p :: l)
theorem GR : ∀ (l : List CV) (K : List CV → β), TF l K = K l
 | [], K => rfl
 | p :: l, K => by simp only [TF, OF, GR l]
def fC (c : CV) (K : CV → β) : β := match c with
 | .fn f caps => TF caps fun caps => K (.fn f caps)
 | c => Vx c K
theorem Un (c : CV) (K : CV → β) : fC c K = K c := by unfold fC; split <;> simp only [GR, OF]
def VE (a : AV) (K : AV → β) : β := match a with
 | .j => K .j
 | .one c => fC c fun c => K (.one c)
 | .ag cs => TF cs fun cs => K (.ag cs)
 | .tp vs => K (.tp vs)
theorem Nz (a : AV) (K : AV → β) : VE a K = K a := by unfold VE; split <;> simp only [Un, GR]
def VC : List AV → (List AV → β) → β
 | [], K => K []
 | p :: l, K => VE p fun p => VC l fun l => K (p :: l)
theorem Pn : ∀ (l : List AV) (K : List AV → β), VC l K = K l
 | [], K => rfl
 | p :: l, K => by simp only [VC, Nz, Pn l]
def fA (a : AV) (K : AV → β) : β := match a with
 | .tp vs => VC vs fun vs => K (.tp vs)
 | a => VE a K
theorem zT (a : AV) (K : AV → β) : fA a K = K a := by unfold fA; split <;> simp only [Pn, Nz]
def fB (b : cu) (K : cu → β) : β := match b with
 | .box cells => TF cells fun cells => K (.box cells)
 | .dead => K .dead
 | .arr sz els => K (.arr sz els)
 | .rel R ps => K (.rel R ps)
theorem H9 (b : cu) (K : cu → β) : fB b K = K b := by unfold fB; split <;> simp only [GR]
def fS : St → (St → β) → β
 | [], K => K []
 | p :: l, K => fB p fun p => fS l fun l => K (p :: l)
theorem vJ : ∀ (l : St) (K : St → β), fS l K = K l
 | [], K => rfl
 | p :: l, K => by simp only [fS, H9, vJ l]
def fF : Fr → (Fr → β) → β
 | [], K => K []
 | (d, a) :: l, K => fA a fun a => fF l fun l => K ((d, a) :: l)
theorem BH : ∀ (l : Fr) (K : Fr → β), fF l K = K l
 | [], K => rfl
 | (d, a) :: l, K => by simp only [fF, zT, BH l]
def Vt : List PV → (List PV → β) → β
 | [], K => K []
 | p :: l, K => fP p fun p => Vt l fun l => K (p :: l)
theorem Nt : ∀ (l : List PV) (K : List PV → β), Vt l K = K l
 | [], K => rfl
 | p :: l, K => by simp only [Vt, Rk, Nt l]
def TX : List (List PV) → (List (List PV) → β) → β
 | [], K => K []
 | p :: l, K => Vt p fun p => TX l fun l => K (p :: l)
theorem Ka : ∀ (l : List (List PV)) (K : List (List PV) → β), TX l K = K l
 | [], K => rfl
 | p :: l, K => by simp only [TX, Nt, Ka l]
def Ti (a : AV) (K : AV → β) : β := match a with
 | .one (.pv (.ro els)) => TX els fun els => K (.one (.pv (.ro els)))
 | a => fA a K
theorem Qd (a : AV) (K : AV → β) : Ti a K = K a := by unfold Ti; split <;> simp only [Ka, zT]
def Rg : St → (St → β) → β
 | [], K => K []
 | [.arr sz els], K => TX els fun els => K [.arr sz els]
 | p :: l, K => fB p fun p => Rg l fun l => K (p :: l)
theorem E1 : ∀ (l : St) (K : St → β), Rg l K = K l
 | [], K => rfl
 | [.arr sz els], K => by simp only [Rg, Ka]
 | .dead :: l, K => by simp only [Rg, H9, E1 l]
 | .box c :: l, K => by simp only [Rg, H9, E1 l]
 | .rel R c :: l, K => by simp only [Rg, H9, E1 l]
 | .arr sz els :: x :: l, K => by simp only [Rg, H9, E1 (x :: l)]
inductive FM where
 | n
 | a
 | s
def fX (b : FM) (a : AV) (st : St) (K : AV → St → β) : β := match b with
 | .a => Ti a fun a => K a st
 | .s => fA a fun a => Rg st fun st => K a st
 | .n => fA a fun a => fS st fun st => K a st
theorem NU (b : FM) (a : AV) (st : St) (K : AV → St → β) : fX b a st K = K a st := by cases b <;> simp only [fX, zT, vJ, Qd, E1]
end force
section
variable {P : Program} {n : Nat} {an X : List Nat} {ops : Array Oper} {l : List Oper} {fr : Fr} {st : St}
def Pd (ops : Array Oper) (X : List Nat) (tw : List (List Nat × List Nat)) : Bool := Hn ops tw && JJ X tw
def GK (P : Program) (n : Nat) (X : List Nat) (ops : Array Oper) (l : List Oper) (tw : List (List Nat × List Nat)) (R : Fr → St → Prop) (fr : Fr) (st : St) : Prop :=
 ∃ fr' st' tw', GX P n ops X l tw' fr st fr' st' ∧ Pd ops X (tw ++ tw') = true ∧ R fr' st'
theorem GK.nil {tw : List (List Nat × List Nat)} {R : Fr → St → Prop} (h : Pd ops X tw = true) (k : R fr st) : GK P n X ops [] tw R fr st := ⟨fr, st, [], GX.done rfl, by rw [List.append_nil]; exact h, k⟩
theorem GK.of {tw : List (List Nat × List Nat)} {R : Fr → St → Prop} {fr' : Fr} {st' : St} {l' : List Oper} {tw1 : List Nat × List Nat} (h : ∀ {tw2 : List (List Nat × List Nat)} {fr2 : Fr} {st2 : St}, GX P n ops X l' tw2 fr' st' fr2 st2 → GX P n ops X l (tw1 :: tw2) fr st fr2 st2) (k : GK P n X ops l' (tw ++ [tw1]) R fr' st') : GK P n X ops l tw R fr st := by
 obtain ⟨fr2, st2, tw2, h1, h2, h3⟩ := k
 exact ⟨fr2, st2, tw1 :: tw2, h h1, by rw [show tw ++ tw1 :: tw2 = tw ++ [tw1] ++ tw2 by simp]; exact h2, h3⟩
theorem Yd.aside {o : Oper} {f : Fr} {a : AV} (T : List Nat) (h : Yd P n (mb (bm T) 0 st) o f a) : We P n X o f ⟨a, T, [], [], st⟩ st := by
 intro st' ι w act hl hT hX hR hF K Q hK
 have hl : st'.length = st.length := hl
 have hT : ∀ id, bm T id = true → st'[id]? = st[id]? := hT
 rw [← Gw hl hT] at h
 have hRm := hR.mask (bm T)
 have hFm : lu n (SX.aside (bm T) ι st') w (mb (bm T) 0 st') act f :=
  ⟨hF.defers, hF.size, fun t => (hF.slot t).chg (fun b hb => BQ.1 hb) (by rw [gN]; exact gO _) (fun _ => rfl)⟩
 refine h _ w act hRm hFm K Q fun v w' ι2 hv hR2 k => ?_
 obtain ⟨r1, m1, k1⟩ := hR.unmask (T := bm T) (q := fun _ => true) (by rw [gN]; exact gO _) hR2 (k.weaken fun _ _ => trivial) (fun _ _ _ => rfl)
  (fun id o ho _ => gB (q := fun _ => true) (fun _ _ => rfl) o (by cases o <;> first | rfl | exact u9 _))
  (fun id hid hTf => by rw [nT, Nat.zero_add, dh hid, hTf]; rfl)
 have e1 : jJ (bm T) 0 st' (mb (bm T) 0 st') = st' := IV
 have e2 : jJ (bm ([] : List Nat)) 0 st' st = st' := Gs hl
 have hv := hv.chg m1 (by rw [e1, gN]; exact gO _) (fun _ => rfl)
 rw [e1] at r1 k1 hv
 exact hK v w' _ (by rw [e2]; exact hv) (by rw [e2]; exact r1) (by rw [e2]; exact k1.weaken fun _ _ => rfl)
theorem Dl : ∀ fr : Fr, qc (fun id => !bm [] id) fr = fr
 | [] => rfl
 | (d, av) :: fr => by
  have h : ej (fun id => !bm [] id) av = true := so (q := fun _ => true) (fun _ _ => rfl) av (Dx av)
  simp only [qc, h, cond_true, Dl fr]
def H3 (ops : Array Oper) (X : List Nat) (o : Oper) (fr : Fr) (av : AV) : Bool := sR ops X o fr (sE ops X o fr) && ej (fun i => bm (sE ops X o fr) (i + 1000) || !bm X i) av
theorem GK.yd {o : Oper} {tw : List (List Nat × List Nat)} {R : Fr → St → Prop} {fr' : Fr} {av : AV} (hp : (∀ d, o.dst = some d → d < n) ∧ yV o.dst av fr = fr') (hc : H3 ops X o fr av = true)
  (h : (dD ops o (dL ops o fr) = some true ∧ Yd P n (mb (bm (sE ops X o fr)) 0 st) o (dL ops o fr) av) ∨ (dD ops o (dL ops o fr) = some false ∧ av = .tp []))
  (k : GK P n X ops l (tw ++ [(sE ops X o fr, [])]) R fr' st) : GK P n X ops (o :: l) tw R fr st := by
 unfold H3 at hc
 rw [gZ] at hc
 refine GK.of (tw1 := (sE ops X o fr, [])) (fun h2 => GX.cons (s := ⟨av, sE ops X o fr, [], [], st⟩) ⟨hp.1, rfl, fun _ _ => rfl, fun id h => by simp [bm] at h, fun id h => by simp [bm] at h, tI hc.1, hc.2, fun x b h => by simp [bm] at h, ?_⟩ (by
  show GX P n ops X l _ (yV o.dst av (qc (fun id => !bm [] id) fr)) st _ _
  rw [Dl, hp.2]; exact h2)) k
 rcases h with ⟨hg, h⟩ | ⟨hg, rfl⟩
 ·exact .inl ⟨hg, h.aside⟩
 ·exact .inr ⟨hg, rfl, rfl, rfl⟩
def MU : List Nat → St → Option Nat
 | [], _ => none
 | x :: X, st => (match st[x]? with
  | some .dead => some x
  | _ => MU X st)
theorem U3 {W : List Nat} {hs : HS} {fr' : Fr} {T : List Nat} {st' : St} {ob : List Prop} (h : U2 P n ops X W l fr st hs = some (fr', T, st', ob)) (hl : st.length ≤ 1000) : jJ (bm W) 0 st st' = st' := by
 unfold U2 at h
 split at h
 ·rename_i o ho
  split at h
  ·split at h
   ·rename_i out hev
    cases hc : TV n ops X W o fr st ((W ++ KU X (cA ops o fr ++ rx W st))) out with
    | false => rw [hc] at h; cases h
    | true =>
     rw [hc] at h
     simp only [cond_true, de, pI] at h
     obtain ⟨_, _, rfl, _⟩ := h
     unfold TV at hc
     simp only [gZ] at hc
     have hlen := qV hc.1.1.2
     generalize hT : W ++ KU X (cA ops o fr ++ rx W st) = T at *
     have z : (jJ (bm T) 0 st out.st).length = st.length := by rw [eF _ _ _ (by omega)]; exact hlen
     refine tV (by rw [eF _ _ _ (by omega)]) (fun id hid => ?_)
     rw [eF _ _ _ (by omega), z] at hid
     rw [gz _ _ _ _ (by omega), Nat.zero_add]
     by_cases hw : id < st.length ∧ bm W id = false
     ·have hq : bm T id = false := by
       rw [← hT, qy, hw.2, Bool.false_or]
       exact G1 (by omega)
      have y : (jJ (bm T) 0 st out.st)[id]? = if id < st.length ∧ bm T id = false then st[id]? else out.st[id]? := by rw [gz _ _ _ _ (by omega), Nat.zero_add]
      rw [if_pos hw, y, if_pos ⟨hw.1, hq⟩]
     ·rw [if_neg hw]
   ·cases h
  ·cases h
 ·cases h
def gW (P : Program) (n : Nat) (an X : List Nat) (ops : Array Oper) (l : List Oper) (fr : Fr) (st : St) : Option (Fr × List Nat × List Nat × St) :=
 match Jb l with
 | some o => (match o.op with
  | .alloc .. => (match MU X st with
   | some id => (match Uq P n ops X (yn an o) id l fr st [] with
    | some (fr', T, st', []) => bif Ng st T then some (fr', xJ X T, T ++ [id + 1000], st') else none
    | _ => none)
   | none => none)
  | .store _ a _ => (match rv (dL ops o fr) a with
   | .one (.pt id _ _ _) => (match st[id]? with
    | some (.box _) => (match U2 P n ops X [id] l fr st [] with
     | some (fr', T, st', []) => bif Nat.ble st.length 1000 then some (fr', T, [id], st') else none
     | _ => none)
    | _ => none)
   | _ => none)
  | _ => none)
 | none => none
theorem GK.w {fr' : Fr} {T W : List Nat} {st' : St} {tw : List (List Nat × List Nat)} {R : Fr → St → Prop} (h : gW P n an X ops l fr st = some (fr', T, W, st')) (k : GK P n X ops (l.drop 1) (tw ++ [(T, W)]) R fr' st') : GK P n X ops l tw R fr st := by
 refine GK.of (tw1 := (T, W)) (fun h2 => ?_) k
 unfold gW at h
 split at h
 ·rename_i o ho
  split at h
  ·split at h
   ·rename_i id hid
    split at h
    ·rename_i he
     cases hq : Ng st _ with
     | false => rw [hq] at h; cases h
     | true =>
      rw [hq] at h
      simp only [cond_true, de, pI] at h
      obtain ⟨rfl, rfl, rfl, rfl⟩ := h
      exact GX.new _ id [] _ _ _ [] he trivial hq h2
    ·cases h
   ·cases h
  ·split at h
   ·split at h
    ·split at h
     ·rename_i he
      cases hq : Nat.ble st.length 1000 with
      | false => rw [hq] at h; cases h
      | true =>
       rw [hq] at h
       simp only [cond_true, de, pI] at h
       obtain ⟨rfl, rfl, rfl, rfl⟩ := h
       exact GX.sto _ [] _ _ _ [] he trivial (U3 he (wv hq)) h2
     ·cases h
    ·cases h
   ·cases h
  ·cases h
 ·cases h
end
inductive It where
 | c (x : Code)
 | o (ops : Array Oper) (l : List Oper)
 | d (ops : Array Oper) (l : List Oper)
 | b (id : Nat)
 | s
 | r (x : Code) (j : Nat)
 | g (X : List Nat) (ops : Array Oper) (l : List Oper) (tw : List (List Nat × List Nat))
structure SS where
 ks : List It
 fr : Fr
 st : St
 kn : List Nat
section
variable (P : Program) (n n0 : Nat) (lz : List Nat)
def PA (Q : QT) : QT
 | .goto _, _, _ => False
 | e, fr, st => Q e fr st
theorem XW.scope {c x : Code} {Q : QT} {fr : Fr} {st : St} (he : c = .scope x) (h : XW P n n0 lz x (PA Q) fr st) : XW P n n0 lz c Q fr st := by
 subst he
 intro ι w a hR hF
 refine Go.wp_scope_straight (Go.wp_mono (h ι w a hR hF) ?_)
 rintro e a' w' ⟨ι', fr', st', h1, h2⟩
 cases e with
 | goto l => exact h1.elim
 | _ => exact ⟨ι', fr', st', h1, h2⟩
def QK : List It → QT → QT
 | [], Q => Q
 | .s :: ks, Q => PA (QK ks Q)
 | .b id :: ks, Q => zz id (QK ks Q)
 | .c x :: ks, Q => mc (XW P n n0 lz x (QK ks Q)) (QK ks Q)
 | .o ops l :: ks, Q => mc (XO P n n0 lz ops l (QK ks Q)) (QK ks Q)
 | .d ops l :: ks, Q => mc (fun fr st => ∃ fr', DX P n st ops l fr fr' ∧ QK ks Q .normal fr' st) (QK ks Q)
 | .r x j :: ks, Q => mc (XR P n n0 lz x (QK ks Q) j) (QK ks Q)
 | .g X ops l tw :: ks, Q => mc (GK P n X ops l tw (QK ks Q .normal)) (QK ks Q)
def XK (Q : QT) (s : SS) : Prop := QK P n n0 lz s.ks Q .normal s.fr s.st
def Em (id : Nat) : List It → Option (List It)
 | [] => none
 | .b i :: ks => bif Nat.beq i id then some ks else Em id ks
 | _ :: ks => Em id ks
variable {P n n0 lz}
theorem Dt {a b : Nat} (h : a ≠ b) : Nat.beq a b = false := by
 cases hq : Nat.beq a b with
 | false => rfl
 | true => exact absurd (qV hq) h
theorem yg {id : Nat} {Q : QT} {fr : Fr} {st : St} : ∀ {ks ks' : List It}, Em id ks = some ks' → QK P n n0 lz ks' Q .normal fr st → QK P n n0 lz ks Q (.exit id) fr st
 | [], _, h, _ => by simp [Em] at h
 | .b i :: ks, ks', h, hq => by
  simp only [Em] at h
  simp only [QK, zz]
  cases hb : Nat.beq i id with
  | true =>
   have := qV hb
   subst this
   simp only [hb, cond_true, de] at h
   subst h
   simpa using hq
  | false =>
   simp only [hb, cond_false] at h
   have : Nat.beq id i = false := Dt (fun e => by subst e; simp at hb)
   simp only [this, cond_false]
   exact yg h hq
 | .s :: ks, ks', h, hq => yg (ks := ks) (by simpa [Em] using h) hq
 | .c x :: ks, ks', h, hq => yg (ks := ks) (by simpa [Em] using h) hq
 | .o ops l :: ks, ks', h, hq => yg (ks := ks) (by simpa [Em] using h) hq
 | .d ops l :: ks, ks', h, hq => yg (ks := ks) (by simpa [Em] using h) hq
 | .r _ _ :: ks, ks', h, hq => yg (ks := ks) (by simpa [Em] using h) hq
 | .g _ _ _ _ :: ks, ks', h, hq => yg (ks := ks) (by simpa [Em] using h) hq
theorem ux {id : Nat} {Q : QT} {fr : Fr} {st : St} : ∀ {ks : List It}, Em id ks = none → Q (.exit id) fr st → QK P n n0 lz ks Q (.exit id) fr st
 | [], h, hq => hq
 | .b i :: ks, h, hq => by
  simp only [Em] at h
  simp only [QK, zz]
  cases hb : Nat.beq i id with
  | true => simp [hb] at h
  | false =>
   simp only [hb, cond_false] at h
   have : Nat.beq id i = false := Dt (fun e => by subst e; simp at hb)
   simp only [this, cond_false]
   exact ux h hq
 | .s :: ks, h, hq => ux (ks := ks) (by simpa [Em] using h) hq
 | .c x :: ks, h, hq => ux (ks := ks) (by simpa [Em] using h) hq
 | .o ops l :: ks, h, hq => ux (ks := ks) (by simpa [Em] using h) hq
 | .d ops l :: ks, h, hq => ux (ks := ks) (by simpa [Em] using h) hq
 | .r _ _ :: ks, h, hq => ux (ks := ks) (by simpa [Em] using h) hq
 | .g _ _ _ _ :: ks, h, hq => ux (ks := ks) (by simpa [Em] using h) hq
theorem yD {Q : QT} {fr : Fr} {st : St} : ∀ {ks : List It}, Q .ret fr st → QK P n n0 lz ks Q .ret fr st
 | [], hq => hq
 | .b i :: ks, hq => yD (ks := ks) hq
 | .s :: ks, hq => yD (ks := ks) hq
 | .c x :: ks, hq => yD (ks := ks) hq
 | .o ops l :: ks, hq => yD (ks := ks) hq
 | .d ops l :: ks, hq => yD (ks := ks) hq
 | .r _ _ :: ks, hq => yD (ks := ks) hq
 | .g _ _ _ _ :: ks, hq => yD (ks := ks) hq
def Jc (kn : List Nat) : Operand → Bool
 | .tmp t => kn.any (Nat.beq t)
 | _ => true
def OW (kn : List Nat) (o : Oper) (fr : Fr) (st : St) : Bool :=
 match o.op with
 | .pick c a b => bif Jc kn c then false else (match rv fr a with
  | .one (.pv (.s (.bool _))) => (match rv fr b with
   | .one (.pv (.s (.bool _))) => false
   | _ => true)
  | _ => true)
 | .call ⟨.builtin .len, args, _⟩ => (match args.toList with
  | [x] => (match rv fr x with
   | .one (.pv (.ro _)) => true
   | _ => false)
  | _ => true)
 | .call ⟨.builtin .max, _, _⟩ => false
 | .call ⟨.builtin .min, _, _⟩ => false
 | .call _ => true
 | .makeSlice .. => true
 | .slice .. => true
 | .convert _ _ x => (match rv fr x with
  | .one (.pv (.s (.int _ _))) => false
  | _ => true)
 | .indexAddr _ x i => (match rv fr x with
  | .one (.pv (.rp ..)) => !(Jc kn i)
  | .one (.pt ..) => !(Jc kn i)
  | _ => true)
 | .index _ x i => (match rv fr x with
  | .ag _ => !(Jc kn i)
  | _ => true)
 | .load _ a => (match rv fr a with
  | .one (.pv (.rp ..)) => false
  | .one (.pt id _ _ _) => (match st[id]? with
   | some (.box _) => false
   | _ => true)
  | _ => true)
 | .store _ a _ => (match rv fr a with
  | .one (.pt id _ _ _) => (match st[id]? with
   | some (.box _) => false
   | _ => true)
  | _ => true)
 | _ => false
def MF (o : Oper) (fr : Fr) : HS :=
 match o.op with
 | .load _ a => (match rv fr a with
  | .one (.pv (.rp [c] _ _)) => [c]
  | _ => [])
 | _ => []
def Df (P : Program) (t : TypeId) : Nat := match P.underlying t with
 | some (.array len _) => len
 | _ => 0
def TJ (P : Program) (kn : List Nat) (o : Oper) (fr : Fr) : Bool :=
 match o.op with
 | .binOp op _ _ y _ => bif Jc kn y then (match rv fr y with
  | .one (.pv (.s (.int _ b))) => (match op with
   | .shl => decide (0 ≤ b)
   | .shr => decide (0 ≤ b)
   | .quo => decide (b ≠ 0)
   | .rem => decide (b ≠ 0)
   | _ => false)
  | _ => false) else false
 | .load _ a => (match rv fr a with
  | .one (.pv (.rp [_] 0 _)) => true
  | _ => false)
 | .indexAddr t x i => (match rv fr x with
  | .one (.pv (.rp ..)) => (match rv fr i with
   | .one (.pv (.s (.int _ n))) => decide (0 ≤ n) && decide (n < Df P t)
   | _ => false)
  | .one (.pt ..) => (match rv fr i with
   | .one (.pv (.s (.int _ n))) => decide (0 ≤ n) && decide (n < Df P t)
   | _ => false)
  | _ => false)
 | .index t x i => (match rv fr x with
  | .ag _ => (match rv fr i with
   | .one (.pv (.s (.int _ n))) => decide (0 ≤ n) && decide (n < Df P t)
   | _ => false)
  | _ => false)
 | _ => false
theorem Tz {op : BinOp} {t : TypeId} {a : Value} {k : IntKind} {b : Int} {v : Value} {ob : List Prop} (hb : (match op with
   | .shl => decide (0 ≤ b)
   | .shr => decide (0 ≤ b)
   | .quo => decide (b ≠ 0)
   | .rem => decide (b ≠ 0)
   | _ => false) = true) (h : I0 P op t a (.int k b) = some (v, ob)) : ii ob := by
 have h : Qi op a (.int k b) = some (v, ob) := by
  cases a <;> first | exact h | cases h
 unfold Qi at h
 cases a <;> simp only at h <;> try (cases h; done)
 rename_i k1 a1 _
 cases op
 case shl => simp only [decide_eq_true_eq] at hb; simp only [de, pI] at h; obtain ⟨_, rfl⟩ := h; exact ⟨hb, trivial⟩
 case shr => simp only [decide_eq_true_eq] at hb; simp only [de, pI] at h; obtain ⟨_, rfl⟩ := h; exact ⟨hb, trivial⟩
 case quo =>
  simp only [decide_eq_true_eq] at hb
  cases hk : decide (k1 = k) <;> simp only [hk, cond_true, cond_false] at h
  ·cases h
  ·simp only [de, pI] at h; obtain ⟨_, rfl⟩ := h; exact ⟨hb, trivial⟩
 case rem =>
  simp only [decide_eq_true_eq] at hb
  cases hk : decide (k1 = k) <;> simp only [hk, cond_true, cond_false] at h
  ·cases h
  ·simp only [de, pI] at h; obtain ⟨_, rfl⟩ := h; exact ⟨hb, trivial⟩
 all_goals (cases hb; done)
theorem NW {kn : List Nat} {o : Oper} {fr : Fr} {st : St} {mu : Bool} {out : AN} (hb : TJ P kn o fr = true) (h : ev P mu o fr st (MF o fr) = some out) : ii out.ob := by
 unfold TJ at hb
 unfold ev at h
 split at hb
 ·rename_i op tt x y _ ho
  simp only [ho] at h
  cases hk : Jc kn y with
  | false => simp [hk] at hb
  | true =>
   simp only [hk, cond_true] at hb
   split at hb
   ·rename_i k b hy
    rw [hy] at h
    split at h
    ·rename_i a b' e1 e2
     simp only [AV.one.injEq, CV.pv.injEq, PV.s.injEq] at e2
     subst e2
     split at h
     ·rename_i v ob hbo
      simp only [de] at h
      subst h
      exact Tz hb hbo
     ·simp only [vo] at h
      obtain ⟨_, _, rfl⟩ := h
      exact trivial
    ·rename_i e2; cases e2
    ·rename_i e2; cases e2
    ·cases h
   ·cases hb
 ·rename_i t a ho
  simp only [ho, MF] at h
  split at hb
  ·rename_i c off hr
   simp only [hr] at h
   unfold Ji at h
   split at h
   ·simp only [vo] at h
    obtain ⟨av, _, rfl⟩ := h
    exact ⟨rfl, trivial⟩
   ·cases h
  ·cases hb
 ·rename_i t x i ho
  simp only [ho] at h
  split at hb
  ·rename_i e1
   split at hb
   ·rename_i e2
    simp only [e1, e2] at h
    simp only [gZ, decide_eq_true_eq] at hb
    unfold MG at h
    unfold Df at hb
    split at h
    ·rename_i q1 q2
     split at q2
     ·rename_i hu
      rw [hu] at hb
      split at q2
      ·simp only [de, pI] at q2
       obtain ⟨rfl, rfl⟩ := q2
       simp only [de] at h
       subst h
       exact ⟨hb, trivial⟩
      ·cases q2
     ·split at q2 <;> simp at q2
     ·cases q2
    ·cases h
   ·cases hb
  ·rename_i e1
   split at hb
   ·rename_i e2
    simp only [e1, e2] at h
    simp only [gZ, decide_eq_true_eq] at hb
    unfold MG at h
    unfold Df at hb
    split at h
    ·rename_i q1 q2
     split at q2
     ·rename_i hu
      rw [hu] at hb
      split at q2
      ·simp only [de, pI] at q2
       obtain ⟨rfl, rfl⟩ := q2
       simp only [de] at h
       subst h
       exact ⟨hb, trivial⟩
      ·cases q2
     ·split at q2 <;> simp at q2
     ·cases q2
    ·cases h
   ·cases hb
  ·cases hb
 ·rename_i t x i ho
  simp only [ho] at h
  split at hb
  ·rename_i e1
   split at hb
   ·rename_i e2
    simp only [e1, e2] at h
    simp only [gZ, decide_eq_true_eq] at hb
    unfold Df at hb
    split at h
    ·rename_i q1 q2 q3; cases q2
    ·rename_i q1 q2 q3
     rw [q1] at hb
     simp only [AV.one.injEq, CV.pv.injEq, PV.s.injEq, Value.int.injEq] at q3
     obtain ⟨_, rfl⟩ := q3
     split at h
     ·simp only [vo] at h
      obtain ⟨av, _, rfl⟩ := h
      exact ⟨hb, trivial⟩
     ·cases h
    ·cases h
   ·cases hb
  ·cases hb
 ·cases hb
def Ui (P : Program) (an kn : List Nat) (o : Oper) (fr : Fr) (st : St) : Option (AV × St) :=
 bif OW kn o fr st then none else
 match ev P (yn an o) o fr st (MF o fr) with
 | some ⟨av, st', ob, _, none⟩ => (match ob with
  | [] => some (av, st')
  | _ => bif TJ P kn o fr then some (av, st') else none)
 | _ => none
theorem Kd {an kn : List Nat} {o : Oper} {fr : Fr} {st : St} {av : AV} {st' : St} (h : Ui P an kn o fr st = some (av, st')) :
  ∃ ob hs', ev P (yn an o) o fr st (MF o fr) = some ⟨av, st', ob, hs', none⟩ ∧ ii ob := by
 unfold Ui at h
 cases hs : OW kn o fr st with
 | true => simp [hs] at h
 | false =>
  simp only [hs, cond_false] at h
  split at h
  ·rename_i av1 st1 ob hs' he
   split at h
   ·simp only [de, pI] at h
    obtain ⟨rfl, rfl⟩ := h
    exact ⟨_, _, he, trivial⟩
   ·cases hb : TJ P kn o fr with
    | false => simp [hb] at h
    | true =>
     simp only [hb, cond_true, de, pI] at h
     obtain ⟨rfl, rfl⟩ := h
     exact ⟨_, _, he, NW hb he⟩
  ·cases h
def PS (ops : Array Oper) (kn : List Nat) (o : Oper) (fr : Fr) : Option Bool :=
 match o.guard with
 | none => some true
 | some (j, want) =>
  match (ops[j]?).bind (·.dst) with
  | some d => (match lk fr d with
   | .one (.pv (.s (.bool b))) => bif kn.any (Nat.beq d) then some (b == want) else none
   | .tp [] => some false
   | _ => none)
  | none => none
theorem vO {ops : Array Oper} {kn : List Nat} {o : Oper} {fr : Fr} {g : Bool} (h : PS ops kn o fr = some g) : dD ops o fr = some g := by
 unfold PS at h
 unfold dD
 cases hg : o.guard with
 | none => simpa [hg] using h
 | some jw =>
  obtain ⟨j, want⟩ := jw
  simp only [hg] at h ⊢
  cases hd : (ops[j]?).bind (·.dst) with
  | none => simp [hd] at h
  | some d =>
   simp only [hd] at h ⊢
   split at h
   ·rename_i b hb
    cases hk : kn.any (Nat.beq d) with
    | false => simp [hk] at h
    | true => simpa [hk, hb] using h
   ·rename_i hb; simpa [hb] using h
   ·cases h
def Az {β : Type} (n : Nat) (dst : Option Nat) (av : AV) (fr : Fr) (K : Fr → β) (E : β) : β := match dst with
 | none => K fr
 | some d => bif Nat.ble (d + 1) n then K ((d, av) :: fr) else E
def F3 (u : Option Nat) (o : Oper) : Bool := match u with
 | none => false
 | some t => (match o.dst with
  | some d => Nat.beq d t
  | none => false)
def Te (an : List Nat) (o : Oper) : FM := match o.op with
 | .buildSlice .. => (match yn an o with
  | true => .s
  | false => .a)
 | _ => .n
def B1 (kn : List Nat) (o : Oper) (fr : Fr) : Bool := match o.op with
 | .move x => Jc kn x
 | .assign x => Jc kn x
 | .pick c a b => bif Jc kn c then (match rv fr c with
  | .one (.pv (.s (.bool t))) => (match t with
   | true => Jc kn a
   | false => Jc kn b)
  | _ => false) else false
 | .binOp _ _ x y _ => Jc kn x && Jc kn y
 | .unOp _ _ x => Jc kn x
 | .convert _ _ x => Jc kn x
 | _ => false
def Qr {β : Type} (d : Nat) : List Nat → (List Nat → β) → β
 | [], K => K []
 | x :: l, K => Qr d l fun l => bif Nat.beq x d then K l else K (x :: l)
def Bx {β : Type} (b : Bool) (dst : Option Nat) (kn : List Nat) (K : List Nat → β) : β := match dst with
 | none => K kn
 | some d => Qr d kn fun l => bif b then K (d :: l) else K l
theorem LG {β : Type} {d : Nat} : ∀ (l : List Nat) (K : List Nat → β), ∃ l', Qr d l K = K l'
 | [], K => ⟨[], rfl⟩
 | x :: l, K => by
  obtain ⟨l', h⟩ := LG (d := d) l (fun l => bif Nat.beq x d then K l else K (x :: l))
  unfold Qr
  rw [h]
  cases Nat.beq x d
  ·exact ⟨_, rfl⟩
  ·exact ⟨_, rfl⟩
theorem qJ {β : Type} (b : Bool) (dst : Option Nat) (kn : List Nat) (K : List Nat → β) : ∃ l, Bx b dst kn K = K l := by
 unfold Bx
 cases dst with
 | none => exact ⟨_, rfl⟩
 | some d =>
  obtain ⟨l', h⟩ := LG (d := d) kn (fun l => bif b then K (d :: l) else K l)
  simp only [h]
  cases b
  ·exact ⟨_, rfl⟩
  ·exact ⟨_, rfl⟩
def Hv {β : Type} (P : Program) (n : Nat) (an : List Nat) (u : Option Nat) (s : SS) (K E : SS → β) : β :=
 match s with
 | ⟨ks, fr, st, kn⟩ => match ks with
  | [] => E s
  | .b _ :: k => K ⟨k, fr, st, kn⟩
  | .s :: k => K ⟨k, fr, st, kn⟩
  | .c x :: k => (match x with
   | .scope a => K ⟨.c a :: .s :: k, fr, st, kn⟩
   | .skip => K ⟨k, fr, st, kn⟩
   | .seq a b => K ⟨.c a :: .c b :: k, fr, st, kn⟩
   | .block id a => K ⟨.c a :: .b id :: k, fr, st, kn⟩
   | .region _ ops false => K ⟨.o ops ops.toList :: k, fr, st, kn⟩
   | .cond o a b => (match Jc kn o with
    | true => (match rv fr o with
     | .one (.pv (.s (.bool t))) => (match t with
      | true => K ⟨.c a :: k, fr, st, kn⟩
      | false => K ⟨.c b :: k, fr, st, kn⟩)
     | _ => E s)
    | false => E s)
   | .exit id => (match Em id k with
    | some k' => K ⟨k', fr, st, kn⟩
    | none => E s)
   | _ => E s)
  | .r x j :: k => (match j with
   | j + 1 => K ⟨.c x :: .r x j :: k, fr, st, kn⟩
   | 0 => E s)
  | .o ops l :: k => (match l with
   | [] => K ⟨k, fr, st, kn⟩
   | o :: l' => bif F3 u o then E s else (match PS ops kn o fr with
    | some true => (match Ui P an kn o fr st with
     | some (av, st') => fX (Te an o) av st' fun av st' => Az n o.dst av fr (fun fr' => Bx (B1 kn o fr) o.dst kn fun kn' => K ⟨.o ops l' :: k, fr', st', kn'⟩) (E s)
     | none => E s)
    | some false => Az n o.dst (.tp []) fr (fun fr' => Bx false o.dst kn fun kn' => K ⟨.o ops l' :: k, fr', st, kn'⟩) (E s)
    | none => E s))
  | .d ops l :: k => (match l with
   | [] => K ⟨k, fr, st, kn⟩
   | o :: l' => bif F3 u o then E s else (match PS ops kn o (dL ops o fr) with
    | some true => bif lL o.op then (match Ui P [] kn o (dL ops o fr) st with
     | some (av, _) => fX (Te [] o) av [] fun av _ => Az n o.dst av fr (fun fr' => Bx (B1 kn o fr) o.dst kn fun kn' => K ⟨.d ops l' :: k, fr', st, kn'⟩) (E s)
     | none => E s) else E s
    | some false => Az n o.dst (.tp []) fr (fun fr' => Bx false o.dst kn fun kn' => K ⟨.d ops l' :: k, fr', st, kn'⟩) (E s)
    | none => E s))
  | .g X ops l tw :: k => (match l with
   | [] => bif Pd ops X tw then K ⟨k, fr, st, kn⟩ else E s
   | o :: l' => bif F3 u o then E s else (match PS ops kn o (dL ops o fr) with
    | some true => bif lL o.op && !yn an o then (match Ui P [] kn o (dL ops o fr) (mb (bm (sE ops X o fr)) 0 st) with
     | some (av, _) => fX (Te [] o) av [] fun av _ => bif H3 ops X o fr av then Az n o.dst av fr (fun fr' => Bx (B1 kn o fr) o.dst kn fun kn' => K ⟨.g X ops l' (tw ++ [(sE ops X o fr, [])]) :: k, fr', st, kn'⟩) (E s) else E s
     | none => E s) else (match gW P n an X ops (o :: l') fr st with
      | some (fr', T, W, st') => fF fr' fun fr' => fS st' fun st' => Bx false o.dst kn fun kn' => K ⟨.g X ops l' (tw ++ [(T, W)]) :: k, fr', st', kn'⟩
      | none => E s)
    | some false => bif H3 ops X o fr (.tp []) then Az n o.dst (.tp []) fr (fun fr' => Bx false o.dst kn fun kn' => K ⟨.g X ops l' (tw ++ [(sE ops X o fr, [])]) :: k, fr', st, kn'⟩) (E s) else E s
    | none => E s))
theorem oh {β : Type} (dst : Option Nat) (av : AV) (fr : Fr) (K : Fr → β) (E : β) : (∃ fr', xB n dst av fr = some fr' ∧ Az n dst av fr K E = K fr') ∨ Az n dst av fr K E = E := by
 cases dst with
 | none => exact .inl ⟨fr, rfl, rfl⟩
 | some d =>
  unfold Az xB
  cases h : Nat.ble (d + 1) n with
  | true => exact .inl ⟨(d, av) :: fr, by simp [h], by simp [h]⟩
  | false => exact .inr (by simp [h])
theorem xS {dst : Option Nat} {av : AV} {fr fr' : Fr} (h : xB n dst av fr = some fr') : (∀ d, dst = some d → d < n) ∧ yV dst av fr = fr' := by
 cases dst with
 | none => simp only [xB, de] at h; exact ⟨(fun d hd => nomatch hd), h⟩
 | some d =>
  simp only [xB] at h
  cases hb : Nat.ble (d + 1) n with
  | false => simp [hb] at h
  | true =>
   simp only [hb, cond_true, de] at h
   exact ⟨(fun d' hd => Option.some.inj hd ▸ wv hb), h⟩
theorem DX.cons {ops : Array Oper} {o : Oper} {l : List Oper} {fr fr' fr2 : Fr} {st : St} {a : AV} (hp : xB n o.dst a fr = some fr')
  (h : (dD ops o (dL ops o fr) = some true ∧ Yd P n st o (dL ops o fr) a) ∨ (dD ops o (dL ops o fr) = some false ∧ a = .tp []))
  (k : DX P n st ops l fr' fr2) : DX P n st ops (o :: l) fr fr2 := by
 obtain ⟨h1, h2⟩ := xS hp
 subst h2
 obtain ⟨asv, k1, k2⟩ := k
 exact ⟨a :: asv, ⟨⟨h1, h⟩, k1⟩, k2⟩
theorem Mf {an : List Nat} {ops : Array Oper} {o : Oper} {fr fr' : Fr} {st st' : St} {hs hs' : HS} {av : AV} {ob : List Prop} (hg : dD ops o fr = some true)
  (h : ev P (yn an o) o fr st hs = some ⟨av, st', ob, hs', none⟩) (hp : xB n o.dst av fr = some fr') : rN P n n0 lz an ops [o] fr st hs = some ⟨.normal, fr', st', hs', ob ++ []⟩ := by
 simp only [rN, hg, h, Fv, OD, hp, cond_true]
theorem XO.op {an : List Nat} {ops : Array Oper} {o : Oper} {l : List Oper} {fr fr' : Fr} {st st' : St} {hs hs' : HS} {av : AV} {ob : List Prop} {Q : QT} (hg : dD ops o fr = some true)
  (h : ev P (yn an o) o fr st hs = some ⟨av, st', ob, hs', none⟩) (hob : ii ob) (hp : xB n o.dst av fr = some fr') (k : XO P n n0 lz ops l Q fr' st') : XO P n n0 lz ops (o :: l) Q fr st :=
 XO.run (l := [o]) (Mf hg h hp) (by rw [List.append_nil]; exact hob) k
theorem XO.opN {ops : Array Oper} {o : Oper} {l : List Oper} {fr fr' : Fr} {st : St} {Q : QT} (hg : dD ops o fr = some false)
  (hp : xB n o.dst (.tp []) fr = some fr') (k : XO P n n0 lz ops l Q fr' st) : XO P n n0 lz ops (o :: l) Q fr st := by
 have : rN P n n0 lz [] ops [o] fr st [] = some ⟨.normal, fr', st, [], []⟩ := by simp only [rN, hg, hp]
 exact XO.run (l := [o]) this trivial k
theorem Mt {an : List Nat} {u : Option Nat} {Q : QT} {β : Type} (s : SS) (K E : SS → β) : ∃ s', (Hv P n an u s K E = K s' ∨ Hv P n an u s K E = E s') ∧ (XK P n n0 lz Q s' → XK P n n0 lz Q s) := by
 obtain ⟨ks, fr, st, kn⟩ := s
 have stay : ∃ s', (E ⟨ks, fr, st, kn⟩ = K s' ∨ E ⟨ks, fr, st, kn⟩ = E s') ∧ (XK P n n0 lz Q s' → XK P n n0 lz Q ⟨ks, fr, st, kn⟩) := ⟨_, .inr rfl, id⟩
 have go : ∀ s', (XK P n n0 lz Q s' → XK P n n0 lz Q ⟨ks, fr, st, kn⟩) → ∃ s2, (K s' = K s2 ∨ K s' = E s2) ∧ (XK P n n0 lz Q s2 → XK P n n0 lz Q ⟨ks, fr, st, kn⟩) := fun s' h => ⟨s', .inl rfl, h⟩
 unfold Hv
 match ks, stay, go with
 | [], stay, go => exact stay
 | .b id :: k, stay, go => exact go _ (fun h => h)
 | .s :: k, stay, go => exact go _ (fun h => h)
 | .r x j :: k, stay, go =>
  cases j with
  | zero => exact stay
  | succ j => exact go _ (fun h => h)
 | .c x :: k, stay, go =>
  cases x with
  | skip => exact go _ (fun h => XW.skip rfl h)
  | seq a b =>
   refine go _ (fun h => XW.seq (x := a) (y := b) rfl fun K hK => ?_)
   refine XW.mono (show XW P n n0 lz a (mc (XW P n n0 lz b (QK P n n0 lz k Q)) (QK P n n0 lz k Q)) fr st from h) ?_
   intro e f s hq
   cases e with
   | normal => exact hK _ _ hq
   | _ => exact hq
  | block id a => exact go _ (fun h => XW.block rfl h)
  | scope a => exact go _ (fun h => XW.scope _ _ _ _ rfl h)
  | region id ops d =>
   cases d with
   | true => exact stay
   | false => exact go _ (fun h => XO.region rfl h)
  | cond o a b =>
   simp only
   split
   ·split
    ·rename_i t hx
     cases t with
     | true => exact go _ (fun h => XW.cond (n := n) rfl hx (fun _ => h) (fun h => nomatch h))
     | false => exact go _ (fun h => XW.cond (n := n) rfl hx (fun h => nomatch h) (fun _ => h))
    ·exact stay
   ·exact stay
  | exit id =>
   simp only
   split
   ·rename_i k' hk
    exact go _ (fun h => XW.exit rfl (yg hk h))
   ·exact stay
  | _ => exact stay
 | .o ops l :: k, stay, go =>
  cases l with
  | nil => exact go _ (fun h => XO.nil h)
  | cons o l' =>
   simp only
   cases hu : F3 u o with
   | true => exact stay
   | false =>
    simp only [cond_false]
    split
    ·rename_i hg
     have hg := vO hg
     split
     ·rename_i av st' hq
      obtain ⟨ob, hs', he, hob⟩ := Kd hq
      rw [NU]
      rcases oh (n := n) o.dst av fr (fun fr' => Bx (B1 kn o fr) o.dst kn fun kn' => K ⟨.o ops l' :: k, fr', st', kn'⟩) (E ⟨.o ops (o :: l') :: k, fr, st, kn⟩) with ⟨fr', hp, e⟩ | e
      ·rw [e]
       obtain ⟨kn', ek⟩ := qJ (B1 kn o fr) o.dst kn fun kn' => K ⟨.o ops l' :: k, fr', st', kn'⟩
       rw [ek]; exact go _ (fun h => XO.op hg he hob hp h)
      ·rw [e]; exact stay
     ·exact stay
    ·rename_i hg
     have hg := vO hg
     rcases oh (n := n) o.dst (.tp []) fr (fun fr' => Bx false o.dst kn fun kn' => K ⟨.o ops l' :: k, fr', st, kn'⟩) (E ⟨.o ops (o :: l') :: k, fr, st, kn⟩) with ⟨fr', hp, e⟩ | e
     ·rw [e]
      obtain ⟨kn', ek⟩ := qJ false o.dst kn fun kn' => K ⟨.o ops l' :: k, fr', st, kn'⟩
      rw [ek]; exact go _ (fun h => XO.opN hg hp h)
     ·rw [e]; exact stay
    ·exact stay
 | .d ops l :: k, stay, go =>
  cases l with
  | nil => exact go _ (fun h => ⟨fr, DX.done rfl, h⟩)
  | cons o l' =>
   simp only
   cases hu : F3 u o with
   | true => exact stay
   | false =>
    simp only [cond_false]
    split
    ·rename_i hg
     have hg := vO hg
     cases hqq : lL o.op with
     | false => exact stay
     | true =>
      simp only [cond_true]
      split
      ·rename_i av st' hq
       obtain ⟨ob, hs', he, hob⟩ := Kd hq
       have hmu : yn [] o = false := by unfold yn; split <;> rfl
       rw [hmu] at he
       rw [NU]
       rcases oh (n := n) o.dst av fr (fun fr' => Bx (B1 kn o fr) o.dst kn fun kn' => K ⟨.d ops l' :: k, fr', st, kn'⟩) (E ⟨.d ops (o :: l') :: k, fr, st, kn⟩) with ⟨fr', hp, e⟩ | e
       ·rw [e]
        obtain ⟨kn', ek⟩ := qJ (B1 kn o fr) o.dst kn fun kn' => K ⟨.d ops l' :: k, fr', st, kn'⟩
        rw [ek]
        exact go _ (fun ⟨fr2, h1, h2⟩ => ⟨fr2, DX.cons hp (.inl ⟨hg, Yd.ev hqq he hob⟩) h1, h2⟩)
       ·rw [e]; exact stay
      ·exact stay
    ·rename_i hg
     have hg := vO hg
     rcases oh (n := n) o.dst (.tp []) fr (fun fr' => Bx false o.dst kn fun kn' => K ⟨.d ops l' :: k, fr', st, kn'⟩) (E ⟨.d ops (o :: l') :: k, fr, st, kn⟩) with ⟨fr', hp, e⟩ | e
     ·rw [e]
      obtain ⟨kn', ek⟩ := qJ false o.dst kn fun kn' => K ⟨.d ops l' :: k, fr', st, kn'⟩
      rw [ek]
      exact go _ (fun ⟨fr2, h1, h2⟩ => ⟨fr2, DX.cons hp (.inr ⟨hg, rfl⟩) h1, h2⟩)
     ·rw [e]; exact stay
    ·exact stay
 | .g X ops l tw :: k, stay, go =>
  cases l with
  | nil =>
   simp only
   cases ht : Pd ops X tw with
   | false => exact stay
   | true => exact go _ (fun h => GK.nil ht h)
  | cons o l' =>
   simp only
   cases hu : F3 u o with
   | true => exact stay
   | false =>
    simp only [cond_false]
    split
    ·rename_i hg
     have hg := vO hg
     cases hqq : (lL o.op && !yn an o) with
     | false =>
      simp only [cond_false]
      split
      ·rename_i fr' T W st' hw
       simp only [BH, vJ]
       obtain ⟨kn', ek⟩ := qJ false o.dst kn fun kn' => K ⟨.g X ops l' (tw ++ [(T, W)]) :: k, fr', st', kn'⟩
       rw [ek]
       exact go _ (fun h => GK.w hw h)
      ·exact stay
     | true =>
      simp only [cond_true]
      rw [gZ] at hqq
      split
      ·rename_i av st' hq
       obtain ⟨ob, hs', he, hob⟩ := Kd hq
       have hmu : yn [] o = false := by unfold yn; split <;> rfl
       rw [hmu] at he
       rw [NU]
       cases hc : H3 ops X o fr av with
       | false => exact stay
       | true =>
        simp only [cond_true]
        rcases oh (n := n) o.dst av fr (fun fr' => Bx (B1 kn o fr) o.dst kn fun kn' => K ⟨.g X ops l' (tw ++ [(sE ops X o fr, [])]) :: k, fr', st, kn'⟩) (E ⟨.g X ops (o :: l') tw :: k, fr, st, kn⟩) with ⟨fr', hp, e⟩ | e
        ·rw [e]
         obtain ⟨kn', ek⟩ := qJ (B1 kn o fr) o.dst kn fun kn' => K ⟨.g X ops l' (tw ++ [(sE ops X o fr, [])]) :: k, fr', st, kn'⟩
         rw [ek]
         exact go _ (fun h => GK.yd (xS hp) hc (.inl ⟨hg, Yd.ev hqq.1 he hob⟩) h)
        ·rw [e]; exact stay
      ·exact stay
    ·rename_i hg
     have hg := vO hg
     cases hc : H3 ops X o fr (.tp []) with
     | false => exact stay
     | true =>
      simp only [cond_true]
      rcases oh (n := n) o.dst (.tp []) fr (fun fr' => Bx false o.dst kn fun kn' => K ⟨.g X ops l' (tw ++ [(sE ops X o fr, [])]) :: k, fr', st, kn'⟩) (E ⟨.g X ops (o :: l') tw :: k, fr, st, kn⟩) with ⟨fr', hp, e⟩ | e
      ·rw [e]
       obtain ⟨kn', ek⟩ := qJ false o.dst kn fun kn' => K ⟨.g X ops l' (tw ++ [(sE ops X o fr, [])]) :: k, fr', st, kn'⟩
       rw [ek]
       exact go _ (fun h => GK.yd (xS hp) hc (.inr ⟨hg, rfl⟩) h)
      ·rw [e]; exact stay
    ·exact stay
def Mp {β : Type} (P : Program) (n : Nat) (an : List Nat) (u : Option Nat) : Nat → SS → (SS → β) → β
 | 0, s, E => E s
 | f + 1, s, E => Hv P n an u s (fun s' => Mp P n an u f s' E) E
theorem Bi {an : List Nat} {u : Option Nat} {Q : QT} {β : Type} : ∀ (f : Nat) (s : SS) (E : SS → β), ∃ s', Mp P n an u f s E = E s' ∧ (XK P n n0 lz Q s' → XK P n n0 lz Q s)
 | 0, s, E => ⟨s, rfl, id⟩
 | f + 1, s, E => by
  simp only [Mp]
  obtain ⟨s', h1, h2⟩ := Mt (n0 := n0) (lz := lz) (Q := Q) (P := P) (n := n) (an := an) (u := u) s (fun s' => Mp P n an u f s' E) E
  rcases h1 with h1 | h1
  ·obtain ⟨s2, k1, k2⟩ := Bi f s' E
   exact ⟨s2, h1.trans k1, fun h => h2 (k2 h)⟩
  ·exact ⟨s', h1, h2⟩
def run (P : Program) (n : Nat) (an : List Nat) (s : SS) : SS := Mp P n an none 4000 s id
def Ft (P : Program) (n : Nat) (an : List Nat) (d : Nat) (s : SS) : SS := Mp P n an (some d) 4000 s id
theorem cH {an : List Nat} {Q : QT} {s : SS} (h : XK P n n0 lz Q (run P n an s)) : XK P n n0 lz Q s := by
 obtain ⟨s', h1, h2⟩ := Bi (n0 := n0) (lz := lz) (Q := Q) (P := P) (n := n) (an := an) (u := none) 4000 s id
 unfold run at h
 rw [h1] at h
 exact h2 h
theorem yH {an : List Nat} {d : Nat} {Q : QT} {s : SS} (h : XK P n n0 lz Q (Ft P n an d s)) : XK P n n0 lz Q s := by
 obtain ⟨s', h1, h2⟩ := Bi (n0 := n0) (lz := lz) (Q := Q) (P := P) (n := n) (an := an) (u := some d) 4000 s id
 unfold Ft at h
 rw [h1] at h
 exact h2 h
end
theorem gS.at1 {μ : Nat → Prop} {w : World} {v : Value} {els : List (List PV)} {i off : Nat} {c : List PV} (h : gS μ w v (.rp els i off)) (hc : els[i]? = some c) : gS μ w v (.rp [c] 0 off) := by
 cases h with
 | rp a sz _ _ _ vf hsz hb hcell hv =>
  have hm := List.mem_of_getElem? hc
  have hne : els ≠ [] := fun e => by subst e; simp at hc
  have e1 : a.add (i * sz + off) = (a.add (i * sz)).add (0 * sz + off) := by rw [yK]; simp
  rw [e1]
  refine .rp (a.add (i * sz)) sz [c] 0 off (fun _ j => vf i j) (fun e he => by simp at he; subst he; exact hsz _ hm) (fun _ => by rw [xr]; exact hb hne) ?_ ?_
  ·intro i' e j p h1 h2
   cases i' with
   | zero =>
    simp at h1; subst h1
    rw [yK]
    have := hcell i c j p hc h2
    rw [show i * sz + (0 * sz + j) = i * sz + j by simp]
    exact this
   | succ i' => simp at h1
  ·intro i' e j p h1 h2
   cases i' with
   | zero => simp at h1; subst h1; exact hv i c j p hc h2
   | succ i' => simp at h1
section
variable {P : Program} {n n0 : Nat} {lz an : List Nat} {Q Q1 : QT} {α β : Type} {T x y : Option β} {r : β} {s : SS}
structure GG (P : Program) (n n0 : Nat) (lz an : List Nat) {β : Type} (r : β) (Q : QT) (T : Option β) (s : SS) : Prop where
 go : T = some r → XK P n n0 lz Q s
instance : CoeFun (GG P n n0 lz an r Q T s) (fun _ => T = some r → XK P n n0 lz Q s) := ⟨GG.go⟩
theorem Yd.le {st : St} {o : Oper} {f : Fr} {av av' : AV} (h : Yd P n st o f av) (hl : ∀ ι w v, a8 ι w st v av → a8 ι w st v av') : Yd P n st o f av' :=
 fun ι w a hR hF K Q hK => h ι w a hR hF K Q fun v w' ι' h1 h2 h3 => hK v w' ι' (hl _ _ _ h1) h2 h3
def Au (s : SS) : Option (Oper × Fr) :=
 match s.ks with
 | .o ops (o :: _) :: _ => (match PS ops s.kn o s.fr with
  | some true => some (o, s.fr)
  | _ => none)
 | .d ops (o :: _) :: _ => (match PS ops s.kn o (dL ops o s.fr) with
  | some true => some (o, dL ops o s.fr)
  | _ => none)
 | .g _ ops (o :: _) _ :: _ => (match PS ops s.kn o (dL ops o s.fr) with
  | some true => some (o, dL ops o s.fr)
  | _ => none)
 | _ => none
def Fe (s : SS) : St := match s.ks with
 | .g X ops (o :: _) _ :: _ => mb (bm (sE ops X o s.fr)) 0 s.st
 | _ => s.st
def DM (n : Nat) (av : AV) (s : SS) : SS :=
 match s with
 | ⟨.o ops (o :: l) :: k, fr, st, kn⟩ => fA av fun av => Az n o.dst av fr (fun fr' => Bx false o.dst kn fun kn' => ⟨.o ops l :: k, fr', st, kn'⟩) s
 | ⟨.d ops (o :: l) :: k, fr, st, kn⟩ => fA av fun av => Az n o.dst av fr (fun fr' => Bx false o.dst kn fun kn' => ⟨.d ops l :: k, fr', st, kn'⟩) s
 | ⟨.g X ops (o :: l) tw :: k, fr, st, kn⟩ => fA av fun av => bif H3 ops X o fr av then Az n o.dst av fr (fun fr' => Bx false o.dst kn fun kn' => ⟨.g X ops l (tw ++ [(sE ops X o fr, [])]) :: k, fr', st, kn'⟩) s else s
 | s => s
theorem XO.yd {ops : Array Oper} {o : Oper} {l : List Oper} {fr fr' : Fr} {st : St} {av : AV} (hg : dD ops o fr = some true) (h : Yd P n st o fr av) (hp : xB n o.dst av fr = some fr')
  (k : XO P n n0 lz ops l Q fr' st) : XO P n n0 lz ops (o :: l) Q fr st := by
 intro ι w a hR hF
 have hw := dJ hg hF
 refine wpList_step fun K hK => ?_
 rw [if_pos hw]
 refine h ι w a hR hF K _ fun v w' ι' hv hR' kk => ?_
 exact hK _ _ (gc (fun e a w h => h.trans (kk.weaken (fun _ _ => trivial))) (k ι' w' _ hR' (nD hp (hF.mono' kk) hv)))
theorem pM {o : Oper} {f : Fr} {av : AV} (he : Au s = some (o, f)) (h : Yd P n (Fe s) o f av) (k : XK P n n0 lz Q (DM n av s)) : XK P n n0 lz Q s := by
 obtain ⟨ks, fr, st, kn⟩ := s
 match ks, he with
 | .o ops (o' :: l) :: ks, he =>
  simp only [Au] at he
  split at he
  ·rename_i hg
   have hg := vO hg
   simp only [de, pI] at he
   obtain ⟨rfl, rfl⟩ := he
   simp only [DM, zT] at k
   rcases oh (n := n) o'.dst av fr (fun fr' => Bx false o'.dst kn fun kn' => (⟨.o ops l :: ks, fr', st, kn'⟩ : SS)) ⟨.o ops (o' :: l) :: ks, fr, st, kn⟩ with ⟨fr', hp, e⟩ | e
   ·obtain ⟨kn', ek⟩ := qJ false o'.dst kn fun kn' => (⟨.o ops l :: ks, fr', st, kn'⟩ : SS)
    rw [e, ek] at k; exact XO.yd hg h hp k
   ·rw [e] at k; exact k
  ·cases he
 | .d ops (o' :: l) :: ks, he =>
  simp only [Au] at he
  split at he
  ·rename_i hg
   have hg := vO hg
   simp only [de, pI] at he
   obtain ⟨rfl, rfl⟩ := he
   simp only [DM, zT] at k
   rcases oh (n := n) o'.dst av fr (fun fr' => Bx false o'.dst kn fun kn' => (⟨.d ops l :: ks, fr', st, kn'⟩ : SS)) ⟨.d ops (o' :: l) :: ks, fr, st, kn⟩ with ⟨fr', hp, e⟩ | e
   ·obtain ⟨kn', ek⟩ := qJ false o'.dst kn fun kn' => (⟨.d ops l :: ks, fr', st, kn'⟩ : SS)
    rw [e, ek] at k
    obtain ⟨fr2, k1, k2⟩ := k
    exact ⟨fr2, DX.cons hp (.inl ⟨hg, h⟩) k1, k2⟩
   ·rw [e] at k; exact k
  ·cases he
 | .g X ops (o' :: l) tw :: ks, he =>
  simp only [Au] at he
  split at he
  ·rename_i hg
   have hg := vO hg
   simp only [de, pI] at he
   obtain ⟨rfl, rfl⟩ := he
   simp only [DM, zT] at k
   cases hc : H3 ops X o' fr av with
   | false => simp only [hc, cond_false] at k; exact k
   | true =>
    simp only [hc, cond_true] at k
    rcases oh (n := n) o'.dst av fr (fun fr' => Bx false o'.dst kn fun kn' => (⟨.g X ops l (tw ++ [(sE ops X o' fr, [])]) :: ks, fr', st, kn'⟩ : SS)) ⟨.g X ops (o' :: l) tw :: ks, fr, st, kn⟩ with ⟨fr', hp, e⟩ | e
    ·obtain ⟨kn', ek⟩ := qJ false o'.dst kn fun kn' => (⟨.g X ops l (tw ++ [(sE ops X o' fr, [])]) :: ks, fr', st, kn'⟩ : SS)
     rw [e, ek] at k
     exact GK.yd (xS hp) hc (.inl ⟨hg, h⟩) k
    ·rw [e] at k; exact k
  ·cases he
def xU : List It → Bool
 | .c _ :: _ => true
 | .o _ _ :: _ => true
 | .b _ :: k => xU k
 | .s :: k => xU k
 | _ => false
theorem QK.sub {fr' : Fr} {st' : St} : ∀ {ks : List It} {fr : Fr} {st : St}, xU ks = true → sW n n0 lz fr st fr' st' → QK P n n0 lz ks Q .normal fr' st' → QK P n n0 lz ks Q .normal fr st
 | .c _ :: _, _, _, _, hs, h => XW.sub hs h
 | .o _ _ :: _, _, _, _, hs, h => XO.sub hs h
 | .b _ :: k, _, _, ht, hs, h => QK.sub (ks := k) (by simpa [xU] using ht) hs h
 | .s :: k, _, _, ht, hs, h => QK.sub (ks := k) (by simpa [xU] using ht) hs h
theorem XK.sub {fr' fr : Fr} {st' st : St} {ks : List It} {kn kn' : List Nat} (ht : xU ks = true) (hs : sW n n0 lz fr st fr' st') (h : XK P n n0 lz Q ⟨ks, fr', st', kn'⟩) : XK P n n0 lz Q ⟨ks, fr, st, kn⟩ := QK.sub ht hs h
def Kj (d : Nat) (av : AV) : Fr → Fr
 | [] => []
 | (t, a) :: f => bif Nat.beq t d then (t, av) :: f else (t, a) :: Kj d av f
theorem KL (d : Nat) : ∀ f : Fr, Kj d (lk f d) f = f
 | [] => rfl
 | (t, a) :: f => by
  simp only [Kj, lk]
  cases hb : Nat.beq t d with
  | true => rfl
  | false => simp only [cond_false]; rw [KL d f]
def LT {β : Type} (d : Nat) (av : AV) : Fr → (Fr → β) → β
 | [], K => K []
 | (t, a) :: f, K => bif Nat.beq t d then K ((t, av) :: f) else LT d av f fun f => K ((t, a) :: f)
theorem Cf {β : Type} (d : Nat) (av : AV) : ∀ (f : Fr) (K : Fr → β), LT d av f K = K (Kj d av f)
 | [], K => rfl
 | (t, a) :: f, K => by
  simp only [LT, Kj]
  cases Nat.beq t d with
  | true => rfl
  | false => simp only [cond_false]; exact Cf d av f _
def UZ (kn : List Nat) (o : Oper) : Option Nat := match o.op with
 | .pick (.tmp c) _ _ => bif kn.any (Nat.beq c) then none else some c
 | _ => none
def Wt (ops : Array Oper) (kn : List Nat) (o : Oper) : Option Nat := match o.guard with
 | some (j, _) => (match (ops[j]?).bind (·.dst) with
  | some d => bif kn.any (Nat.beq d) then UZ kn o else some d
  | none => none)
 | none => UZ kn o
def Ri (s : SS) : Option Nat := match s.ks with
 | .o ops (o :: _) :: _ => Wt ops s.kn o
 | .d ops (o :: _) :: _ => Wt ops s.kn o
 | .g _ ops (o :: _) _ :: _ => Wt ops s.kn o
 | _ => none
def bool? (a : AV) : Option Bool := match a with
 | .one (.pv (.s (.bool t))) => some t
 | _ => none
theorem bool?_eq {a : AV} {t : Bool} (h : bool? a = some t) : a = vb t := by
 unfold bool? at h
 split at h
 ·simp only [de] at h; subst h; rfl
 ·cases h
def Jh (s : SS) : Option Bool :=
 match s.ks with
 | .c (.cond o _ _) :: _ => bool? (rv s.fr o)
 | _ => (match Ri s with
  | some d => bool? (lk s.fr d)
  | none => none)
def Na (t : Bool) (s : SS) : SS :=
 match s with
 | ⟨ks, fr, st, kn⟩ => match ks with
  | .c (.cond o a b) :: k => (match t with
   | true => ⟨.c a :: k, fr, st, kn⟩
   | false => ⟨.c b :: k, fr, st, kn⟩)
  | ks => (match Ri ⟨ks, fr, st, kn⟩ with
   | some d => LT d (vb t) fr fun fr => ⟨ks, fr, st, d :: kn⟩
   | none => ⟨ks, fr, st, kn⟩)
theorem Uv {ks : List It} {fr : Fr} {st : St} {kn : List Nat} {d : Nat} {t : Bool} (hd : Ri ⟨ks, fr, st, kn⟩ = some d) : Na t ⟨ks, fr, st, kn⟩ = ⟨ks, Kj d (vb t) fr, st, d :: kn⟩ := by
 cases ks with
 | nil => simp [Ri] at hd
 | cons x k =>
  cases x with
  | c x => simp [Ri] at hd
  | b => simp [Ri] at hd
  | s => simp [Ri] at hd
  | r => simp [Ri] at hd
  | o ops l => simp only [Na, hd, Cf]
  | d ops l => simp only [Na, hd, Cf]
  | g X ops l tw => simp only [Na, hd, Cf]
theorem vI {t : Bool} (he : Jh s = some t) (k : XK P n n0 lz Q (Na t s)) : XK P n n0 lz Q s := by
 obtain ⟨ks, fr, st, kn⟩ := s
 unfold Jh at he
 split at he
 ·rename_i o a b ks' hk
  simp only at hk
  subst hk
  have hx := bool?_eq he
  simp only [Na] at k
  refine XW.cond (n := n) rfl hx (fun h => ?_) (fun h => ?_)
  ·subst h; exact k
  ·subst h; exact k
 ·rename_i hk
  split at he
  ·rename_i d hd
   have hx := bool?_eq he
   rw [Uv hd, ← hx] at k
   have k : QK P n n0 lz ks Q .normal (Kj d (lk fr d) fr) st := k
   rw [KL] at k
   exact k
  ·cases he
theorem uC {t : Bool} (ht : GG P n n0 lz an r Q x (Na true (run P n an s))) (hf : GG P n n0 lz an r Q y (Na false (run P n an s)))
  (he : Jh (run P n an s) = some t := by kernel_rfl) : GG P n n0 lz an r Q (ak t x y) s := by
 refine ⟨fun h => ?_⟩
 refine cH (an := an) ?_
 cases t with
 | true => exact vI he (ht h)
 | false => exact vI he (hf h)
theorem Uh {t : Bool} (ht : t = true → GG P n n0 lz an r Q x (Na true (run P n an s))) (hf : t = false → GG P n n0 lz an r Q y (Na false (run P n an s)))
  (he : Jh (run P n an s) = some t := by kernel_rfl) : GG P n n0 lz an r Q (ak t x y) s := by
 refine ⟨fun h => ?_⟩
 refine cH (an := an) ?_
 cases t with
 | true => exact vI he (ht rfl h)
 | false => exact vI he (hf rfl h)
theorem uT (k : GG P n n0 lz an r Q T (Na true (run P n an s))) (he : Jh (run P n an s) = some true := by kernel_rfl) : GG P n n0 lz an r Q T s :=
 ⟨fun h => cH (an := an) (vI he (k h))⟩
theorem uF (k : GG P n n0 lz an r Q T (Na false (run P n an s))) (he : Jh (run P n an s) = some false := by kernel_rfl) : GG P n n0 lz an r Q T s :=
 ⟨fun h => cH (an := an) (vI he (k h))⟩
theorem uH {B b : Bool} (hb : B = b) (k : GG P n n0 lz an r Q T (Na b (run P n an s))) (he : Jh (run P n an s) = some B := by kernel_rfl) : GG P n n0 lz an r Q T s :=
 ⟨fun h => cH (an := an) (vI (hb ▸ he) (k h))⟩
theorem gh {o : Option β} {p : Prop} (e : o = none) (h : o = some r) : p := by rw [e] at h; cases h
theorem TK : GG P n n0 lz an r Q (none : Option β) s := ⟨fun h =>
 nomatch h⟩
def V6 (s : SS) : Option Nat := match Au s with
 | some (o, _) => (match o.op with
  | .indexAddr _ _ (.tmp t) => some t
  | .index _ _ (.tmp t) => some t
  | _ => none)
 | none => none
def Xm (s : SS) : Option (IntKind × Int) := match V6 s with
 | some t => (match lk s.fr t with
  | .one (.pv (.s (.int k m))) => some (k, m)
  | _ => none)
 | none => none
def Ki (P : Program) (s : SS) : Option (AV × List Prop) :=
 match Au s with
 | some (o, f) => bif lL o.op then (match ev P false o f (Fe s) (MF o f) with
  | some out => some (out.av, out.ob)
  | none => none) else none
 | none => none
theorem KA {av : AV} {ob : List Prop} (he : Ki P s = some (av, ob)) (hob : ii ob) : ∃ o f, Au s = some (o, f) ∧ Yd P n (Fe s) o f av := by
 unfold Ki at he
 split at he
 ·rename_i o f hd
  cases hq : lL o.op with
  | false => simp [hq] at he
  | true =>
   simp only [hq, cond_true] at he
   split at he
   ·rename_i out hev
    simp only [de, pI] at he
    obtain ⟨rfl, rfl⟩ := he
    exact ⟨o, f, hd, Yd.ev hq hev hob⟩
   ·cases he
 ·cases he
theorem uV (av av' : AV) {ob : List Prop} (hob : ii ob) (hav : av = av') (k : GG P n n0 lz an r Q T (DM n av' (run P n an s))) (he : Ki P (run P n an s) = some (av, ob)) : GG P n n0 lz an r Q T s := by
 refine ⟨fun h => ?_⟩
 obtain ⟨o, f, h1, h2⟩ := KA (n := n) he hob
 subst hav
 exact cH (an := an) (pM h1 h2 (k h))
def Wm (P : Program) (s : SS) : AV := match Ki P s with
 | some (av, _) => av
 | none => .j
def VP (P : Program) (s : SS) : Option (List Prop) := match Ki P s with
 | some (_, ob) => some ob
 | none => none
theorem VV {ob : List Prop} (h : VP P s = some ob) : Ki P s = some (Wm P s, ob) := by
 unfold VP at h
 unfold Wm
 split at h
 ·rename_i av ob' he
  simp only [de] at h
  subst h
  rw [he]
 ·cases h
def WB (P : Program) (s : SS) : Option AV :=
 match Au s with
 | some (o, f) => bif lL o.op then (match ev P false o f (Fe s) (MF o f) with
  | some out => (match out.ob with
   | [] => some out.av
   | _ => bif TJ P s.kn o f then some out.av else none)
  | none => none) else none
 | none => none
theorem SW {av : AV} (he : WB P s = some av) : ∃ o f, Au s = some (o, f) ∧ Yd P n (Fe s) o f av := by
 unfold WB at he
 split at he
 ·rename_i o f hd
  cases hq : lL o.op with
  | false => simp [hq] at he
  | true =>
   simp only [hq, cond_true] at he
   split at he
   ·rename_i out hev
    have hob : ii out.ob ∧ out.av = av := by
     split at he
     ·rename_i hob
      rw [hob]
      exact ⟨trivial, Option.some.inj he⟩
     ·cases hb : TJ P s.kn o f with
      | false => simp [hb] at he
      | true => rw [hb] at he; exact ⟨NW hb hev, Option.some.inj he⟩
    rw [← hob.2]
    exact ⟨o, f, hd, Yd.ev hq hev hob.1⟩
   ·cases he
 ·cases he
theorem uY (d : Nat) {e : α} (m : α → AV) {f : α → Option β} (k : ∀ y, GG P n n0 lz an r Q (f y) (DM n (m y) (Ft P n an d s)))
  (he : WB P (Ft P n an d s) = some (m e) := by kernel_rfl) : GG P n n0 lz an r Q (au (some e) f) s := by
 refine ⟨fun h => ?_⟩
 obtain ⟨o, g, h1, h2⟩ := SW (n := n) he
 exact yH (pM h1 h2 (k e h))
theorem Vv (d : Nat) {e : α} {p : Prop} [Decidable p] (m : α → AV) {f : α → Option β} (k : ∀ y, GG P n n0 lz an r Q (f y) (DM n (m y) (Ft P n an d s)))
  (he : Ki P (Ft P n an d s) = some (m e, [p]) := by kernel_rfl) : GG P n n0 lz an r Q (pn p (au (some e) f)) s := by
 refine ⟨fun h => ?_⟩
 obtain ⟨hp, h⟩ := rq h
 obtain ⟨o, g, h1, h2⟩ := KA (n := n) he ⟨hp, trivial⟩
 exact yH (pM h1 h2 (k e h))
theorem uG {p : Prop} [Decidable p] (k : GG P n n0 lz an r Q x (DM n (Wm P (run P n an s)) (run P n an s))) (he : VP P (run P n an s) = some [p] := by kernel_rfl) : GG P n n0 lz an r Q (pn p x) s := by
 refine ⟨fun h => ?_⟩
 obtain ⟨hp, h⟩ := rq h
 exact uV _ _ (ob := [p]) ⟨hp, trivial⟩ rfl k (VV he) h
def OX (P : Program) (s : SS) : Option (List (List PV) × Int × Nat) :=
 match Au s with
 | some (o, f) => (match o.op with
  | .indexAddr t x i => (match P.underlying t, rv f x, rv f i with
   | some (.slice e), .one (.pv (.ro els)), .one (.pv (.s (.int _ m))) => (match CL P e with
    | some es => some (els, m, es)
    | none => none)
   | _, _, _ => none)
  | _ => none)
 | none => none
theorem Rr {els : List (List PV)} {i : Int} {es : Nat} {c : List PV} (he : OX P s = some (els, i, es)) (h : 0 ≤ i ∧ i < (els.length : Int) ∧ jY es els) (hc : els[i.toNat]? = some c) :
  ∃ o f, Au s = some (o, f) ∧ Yd P n (Fe s) o f (.one (.pv (.rp [c] 0 0))) := by
 unfold OX at he
 split at he
 ·rename_i o f hd
  refine ⟨o, f, hd, ?_⟩
  split at he
  ·rename_i t x i' ho
   split at he
   ·rename_i e els' k m hu hx hi
    split at he
    ·rename_i es' hes
     simp only [de, pI] at he
     obtain ⟨rfl, rfl, rfl⟩ := he
     have hev : ev P false o f (Fe s) [] = some ⟨.one (.pv (.rp els' m.toNat 0)), Fe s, [0 ≤ m ∧ m < (els'.length : Int) ∧ jY es' els'], [], none⟩ := by
      unfold ev
      simp only [ho, hx, hi, MG, hu, hes]
     refine (Yd.ev (by rw [ho]; rfl) hev ⟨h, trivial⟩).le ?_
     intro ι w v hv
     cases ow hv with
     | pv _ _ hp => exact .one _ _ (.pv _ _ (hp.at1 hc))
    ·cases he
   ·cases he
  ·cases he
 ·cases he
theorem uL (E : rS α) {xs : List α} {i : Int} {f : α → Option β} (k : ∀ e, at? xs i = some e → GG P n n0 lz an r Q (f e) (DM n (.one (.pv (.rp [E.cells e] 0 0))) (run P n an s)))
  (he : OX P (run P n an s) = some (E.els xs, i, E.sz) := by kernel_rfl) : GG P n n0 lz an r Q (au (at? xs i) f) s := by
 refine ⟨fun h => ?_⟩
 obtain ⟨e, ha, h⟩ := xR h
 obtain ⟨o, g, h1, h2⟩ := Rr (n := n) he (E.inb ha) (E.get ha)
 exact cH (an := an) (pM h1 h2 (k e ha h))
theorem uM (E : rS α) {xs : List α} {i : Int} {e : α} (ha : at? xs i = some e) (k : GG P n n0 lz an r Q T (DM n (.one (.pv (.rp [E.cells e] 0 0))) (run P n an s)))
  (he : OX P (run P n an s) = some (E.els xs, i, E.sz) := by kernel_rfl) : GG P n n0 lz an r Q T s := by
 refine ⟨fun h => ?_⟩
 obtain ⟨o, g, h1, h2⟩ := Rr (n := n) he (E.inb ha) (E.get ha)
 exact cH (an := an) (pM h1 h2 (k h))
theorem uA (av : AV) (k : GG P n n0 lz an r Q T (DM n av (run P n an s))) (he : Ki P (run P n an s) = some (av, []) := by kernel_rfl) : GG P n n0 lz an r Q T s :=
 uV av av (ob := []) trivial rfl k he
theorem uN (E : rS α) (xs : List α) (k : GG P n n0 lz an r Q T (DM n (vi (xs.length : Int)) (run P n an s)))
  (he : Ki P (run P n an s) = some (vi ((E.els xs).length : Int), []) := by kernel_rfl) : GG P n n0 lz an r Q T s :=
 uV _ _ (ob := []) trivial (by rw [E.len]) k he
theorem uX (E : rS α) {xs : List α} {a b : Int} (k : GG P n n0 lz an r Q x (DM n (vl E ((xs.drop a.toNat).take (b.toNat - a.toNat))) (run P n an s)))
  (he : Ki P (run P n an s) = some (.one (.pv (.ro (((E.els xs).drop a.toNat).take (b.toNat - a.toNat)))), [(0 ≤ a ∧ a ≤ b ∧ b ≤ ((E.els xs).length : Int)) ∧ jY E.sz (E.els xs)]) := by kernel_rfl) :
  GG P n n0 lz an r Q (pn (0 ≤ a ∧ a ≤ b ∧ b ≤ (xs.length : Int)) x) s := by
 refine ⟨fun h => ?_⟩
 obtain ⟨hp, h⟩ := rq h
 exact uV _ _ (ob := [_]) ⟨E.cutOk hp, trivial⟩ (by rw [E.cut]) k he h
theorem Wg (E : rS α) {xs : List α} {a b m : Int} (k : GG P n n0 lz an r Q x (DM n (vl E ((xs.drop a.toNat).take (b.toNat - a.toNat))) (run P n an s)))
  (he : Ki P (run P n an s) = some (.one (.pv (.ro (((E.els xs).drop a.toNat).take (b.toNat - a.toNat)))), [(0 ≤ a ∧ a ≤ b ∧ b ≤ m ∧ m ≤ ((E.els xs).length : Int)) ∧ jY E.sz (E.els xs)]) := by kernel_rfl) :
  GG P n n0 lz an r Q (pn (0 ≤ a ∧ a ≤ b ∧ b ≤ m ∧ m ≤ (xs.length : Int)) x) s := by
 refine ⟨fun h => ?_⟩
 obtain ⟨hp, h⟩ := rq h
 exact uV _ _ (ob := [_]) ⟨E.cutMOk hp, trivial⟩ (by rw [E.cut]) k he h
def Vq (P : Program) (s : SS) : Option (Nat × List AV) :=
 match Au s with
 | some (o, f) => C0 P o f
 | none => none
theorem Rw {g : Nat} {avs : List AV} {v : AV} (he : Vq P s = some (g, avs)) (h : PC P g avs v) (hp : sM avs = true) (hr : wM v = true) : ∃ o f, Au s = some (o, f) ∧ Yd P n (Fe s) o f v := by
 unfold Vq at he
 split at he
 ·rename_i o f hd
  exact ⟨o, f, hd, Yd.call he h hp hr⟩
 ·cases he
def CT (P : Program) (f : Nat) (args : List AV) {β : Type} (T : Option β) (rv : β → AV) : Prop := ∀ r, T = some r → PC P f args (rv r)
theorem TM {α : Type} {o : Option α} {f : α → Option β} {g : Nat} {avs : List AV} {rv : α → AV} (c : CT P g avs o rv)
  (k : ∀ v, o = some v → GG P n n0 lz an r Q (f v) (DM n (rv v) (run P n an s)))
  (he : Vq P (run P n an s) = some (g, avs) := by kernel_rfl) (hp : sM avs = true := by kernel_rfl) (hr : ∀ v, wM (rv v) = true := by intro v; kernel_rfl) : GG P n n0 lz an r Q (au o f) s := by
 refine ⟨fun h => ?_⟩
 obtain ⟨v, ho, h⟩ := xR h
 obtain ⟨o', f', h1, h2⟩ := Rw (n := n) he (c v ho) hp (hr v)
 exact cH (an := an) (pM h1 h2 (k v ho h))
def Vi : CV → CV
 | .pv (.s (.slice none 0 0)) => .pv (.ro [])
 | .cl els => .pv (.ro els)
 | c => c
def TR : AV → AV
 | .one c => .one (Vi c)
 | .ag cs => .ag (cs.map Vi)
 | a => a
theorem Pj (c : CV) : OK c (Vi c) := by
 unfold Vi
 split
 ·exact .nl
 ·exact .cl _
 ·exact .rfl _
theorem Np (a : AV) : Mg a (TR a) := by
 unfold TR
 split
 ·exact .one (Pj _)
 ·refine .ag (by simp) (fun i c c' h1 h2 => ?_)
  rw [List.getElem?_map, h1] at h2
  simp only [Option.map_some, de] at h2
  subst h2
  exact Pj c
 ·exact .rfl _
theorem C4.refl : ∀ l : List AV, C4 l l
 | [] => trivial
 | a :: l => ⟨.rfl _, C4.refl l⟩
theorem IB (l : List AV) : C4 l (l.map TR) := by
 induction l with
 | nil => trivial
 | cons a l ih => exact ⟨Np a, ih⟩
def VQ (P : Program) (s : SS) : Option (Nat × List AV) := match Vq P s with
 | some (g, l) => bif sM l then some (g, l.map TR) else none
 | none => none
theorem uP {α : Type} {o : Option α} {f : α → Option β} {g : Nat} {avs : List AV} {rv : α → AV} (c : CT P g avs o rv)
  (k : ∀ v, o = some v → GG P n n0 lz an r Q (f v) (DM n (rv v) (run P n an s)))
  (he : VQ P (run P n an s) = some (g, avs) := by kernel_rfl) (hr : ∀ v, wM (rv v) = true := by intro v; kernel_rfl) : GG P n n0 lz an r Q (au o f) s := by
 refine ⟨fun h => ?_⟩
 obtain ⟨v, ho, h⟩ := xR h
 unfold VQ at he
 split at he
 ·rename_i g' l hq
  cases hp : sM l with
  | false => simp [hp] at he
  | true =>
   simp only [hp, cond_true, de, pI] at he
   obtain ⟨rfl, rfl⟩ := he
   obtain ⟨o', f', h1, h2⟩ := Rw (n := n) hq ((c v ho).le (IB l)) hp (hr v)
   exact cH (an := an) (pM h1 h2 (k v ho h))
 ·cases he
structure KP (n n0 : Nat) (lz : List Nat) where
 p : Fr → St → Prop
 cl : ∀ {fr st fr' st'}, sW n n0 lz fr st fr' st' → p fr' st' → p fr st
theorem ze (Q : QT) : ∀ l1 l2 : List It, QK P n n0 lz (l1 ++ l2) Q = QK P n n0 lz l1 (QK P n n0 lz l2 Q)
 | [], l2 => rfl
 | .b _ :: l, l2 => by simp only [List.cons_append, QK, ze Q l l2]
 | .s :: l, l2 => by simp only [List.cons_append, QK, ze Q l l2]
 | .c _ :: l, l2 => by simp only [List.cons_append, QK, ze Q l l2]
 | .o _ _ :: l, l2 => by simp only [List.cons_append, QK, ze Q l l2]
 | .d _ _ :: l, l2 => by simp only [List.cons_append, QK, ze Q l l2]
 | .g _ _ _ _ :: l, l2 => by simp only [List.cons_append, QK, ze Q l l2]
 | .r _ _ :: l, l2 => by simp only [List.cons_append, QK, ze Q l l2]
theorem JQ (Q : QT) : mc (Q .normal) Q = Q := by funext e f s; cases e <;> rfl
def RN {α β : Type} : Nat → List α → (List α → β) → β
 | d + 1, x :: l, K => RN d l fun l => K (x :: l)
 | _, _, K => K []
def LD {α β : Type} : List α → List β → Bool
 | [], [] => true
 | _ :: l, _ :: m => LD l m
 | _, _ => false
def VF {β : Type} (l2 : List It) : List It → (List It → β) → β
 | [], K => K []
 | x :: l, K => bif LD l2 (x :: l) then K [] else VF l2 l fun l => K (x :: l)
def Ip (l2 : List It) : List It → List It
 | [] => []
 | x :: l => bif LD l2 (x :: l) then x :: l else Ip l2 l
theorem KG {β : Type} (l2 : List It) : ∀ (l : List It) (K : List It → β), ∃ l1, VF l2 l K = K l1 ∧ l = l1 ++ Ip l2 l
 | [], K => ⟨[], rfl, rfl⟩
 | x :: l, K => by
  obtain ⟨l1, h1, h2⟩ := KG l2 l (fun l => K (x :: l))
  unfold VF Ip
  cases hb : LD l2 (x :: l) with
  | true => exact ⟨[], rfl, rfl⟩
  | false => exact ⟨x :: l1, by simp only [cond_false, h1], by simp only [cond_false, List.cons_append]; rw [← h2]⟩
def TH (l2 : List It) (s : SS) : SS := match s with
 | ⟨ks, fr, st, kn⟩ => VF l2 ks fun ks => ⟨ks, fr, st, kn⟩
def Rl : List Nat → Code → List It → List It
 | [], _, acc => acc
 | i :: p, c, acc => match c with
  | .seq a b => bif Nat.beq i 0 then Rl p a (.c b :: acc) else Rl p b acc
  | .block id a => Rl p a (.b id :: acc)
  | .scope a => Rl p a (.s :: acc)
  | .cond _ a b => bif Nat.beq i 0 then Rl p a acc else Rl p b acc
  | .loop x => Rl p x []
  | _ => acc
def kS (fn : Func) (p : List Nat) (m : Nat) : List It := RN m (Rl p (cd fn []) []) id
theorem LN {l2 : List It} {s' : SS} (h : ∀ K : KP n n0 lz, (∀ {γ : Type} {T1 : Option γ} {r1 : γ} {f : Fr} {st : St}, T1 = some r1 → GG P n n0 lz an r1 Q T1 ⟨l2, f, st, []⟩ → K.p f st) → GG P n n0 lz an r (mc K.p (QK P n n0 lz l2 Q)) T (TH l2 s'))
  (he : Ip l2 s'.ks = l2) (ht : xU l2 = true) (hT : T = some r) : XK P n n0 lz Q s' := by
 have := h ⟨fun f st => XK P n n0 lz Q ⟨l2, f, st, []⟩, fun hs h => XK.sub ht hs h⟩ (fun hT g => g hT) hT
 obtain ⟨ks, fr, st, kn⟩ := s'
 obtain ⟨l1, e1, e3⟩ := KG l2 ks fun ks => (⟨ks, fr, st, kn⟩ : SS)
 have e : XK P n n0 lz Q ⟨ks, fr, st, kn⟩ = QK P n n0 lz (l1 ++ l2) Q .normal fr st := by
  simp only at he
  rw [he] at e3
  unfold XK
  rw [e3]
 rw [e, ze]
 have e2 : mc (fun f st => XK P n n0 lz Q ⟨l2, f, st, []⟩) (QK P n n0 lz l2 Q) = QK P n n0 lz l2 Q := JQ (QK P n n0 lz l2 Q)
 unfold TH at this
 simp only at this
 rw [e1] at this
 have t2 : QK P n n0 lz l1 (mc (fun f st => XK P n n0 lz Q ⟨l2, f, st, []⟩) (QK P n n0 lz l2 Q)) .normal fr st := this
 rw [e2] at t2
 exact t2
theorem uQ (l2 : List It) (h : ∀ K : KP n n0 lz, (∀ {γ : Type} {T1 : Option γ} {r1 : γ} {f : Fr} {st : St}, T1 = some r1 → GG P n n0 lz an r1 Q T1 ⟨l2, f, st, []⟩ → K.p f st) → GG P n n0 lz an r (mc K.p (QK P n n0 lz l2 Q)) T (TH l2 (run P n an s)))
 (he : Ip l2 (run P n an s).ks = l2 := by kernel_rfl) (ht : xU l2 = true := by kernel_rfl) : GG P n n0 lz an r Q T s := ⟨fun hT => cH (LN h he ht hT)⟩
theorem WO (d : Nat) (l2 : List It) (h : ∀ K : KP n n0 lz, (∀ {γ : Type} {T1 : Option γ} {r1 : γ} {f : Fr} {st : St}, T1 = some r1 → GG P n n0 lz an r1 Q T1 ⟨l2, f, st, []⟩ → K.p f st) → GG P n n0 lz an r (mc K.p (QK P n n0 lz l2 Q)) T (TH l2 (Ft P n an d s)))
 (he : Ip l2 (Ft P n an d s).ks = l2 := by kernel_rfl) (ht : xU l2 = true := by kernel_rfl) : GG P n n0 lz an r Q T s := ⟨fun hT => yH (LN h he ht hT)⟩
def R9 : CV → CV → CV
 | .pv (.s (.slice none 0 0)), .pv (.ro _) => .pv (.ro [])
 | c, _ => c
def Mv : List CV → List CV → List CV
 | c :: l, e :: m => R9 c e :: Mv l m
 | l, _ => l
def I4 : AV → AV → AV
 | .one c, .one e => .one (R9 c e)
 | .ag l, .ag m => .ag (Mv l m)
 | a, _ => a
def Jn : List AV → List AV → List AV
 | a :: l, e :: m => I4 a e :: Jn l m
 | l, _ => l
def QE : AV → AV → AV
 | .tp l, .tp m => .tp (Jn l m)
 | a, e => I4 a e
theorem NN (c e : CV) : OK c (R9 c e) := by
 unfold R9
 split
 ·exact .nl
 ·exact .rfl _
theorem LJ : ∀ (l m : List CV), l.length = (Mv l m).length ∧ ∀ (i : Nat) c c', l[i]? = some c → (Mv l m)[i]? = some c' → OK c c'
 | [], m => by cases m <;> exact ⟨rfl, fun i c c' h => by simp at h⟩
 | c :: l, [] => ⟨rfl, fun i a b h1 h2 => by simp only [Mv] at h2; rw [h1] at h2; cases h2; exact .rfl _⟩
 | c :: l, e :: m => by
  obtain ⟨h1, h2⟩ := LJ l m
  refine ⟨by simp only [Mv, List.length_cons]; omega, fun i a b q1 q2 => ?_⟩
  cases i with
  | zero => simp only [Mv, List.getElem?_cons_zero, de] at q1 q2; subst q1; subst q2; exact NN _ _
  | succ i => exact h2 i a b (by simpa using q1) (by simpa [Mv] using q2)
theorem QG (a e : AV) : Mg a (I4 a e) := by
 unfold I4
 split
 ·exact .one (NN _ _)
 ·obtain ⟨h1, h2⟩ := LJ _ _
  exact .ag h1 h2
 ·exact .rfl _
def N0 (fr : Fr) : Fr → Fr
 | [] => []
 | (t, e) :: l => (t, I4 (lk fr t) e) :: N0 fr l
theorem Io (fr : Fr) : ∀ fr0, ON fr (N0 fr fr0)
 | [] => trivial
 | (t, e) :: l => ⟨QG _ _, Io fr l⟩
def zp : Nat → St → List Nat
 | _, [] => []
 | i, .dead :: l => zp (i + 1) l
 | i, _ :: l => i :: zp (i + 1) l
def Vk (n0 : Nat) (fr0 : Fr) (st0 : St) (fr : Fr) (st : St) : Option (Fr × St) :=
 bif ((List.range n0).all (bm (zp 0 st0)) && (zp 0 st0).all (fun x => Nat.ble (x + 1) st0.length)) && fh (bm (zp 0 st0)) st0 then some (N0 (qc (bm (zp 0 st0)) fr) fr0, yM (zp 0 st0) 0 (st.take st0.length)) else none
theorem KS {fr0 fr : Fr} {st0 st : St} (he : Vk n0 fr0 st0 fr st = some (fr0, st0)) : sW n n0 lz fr st fr0 st0 := by
 unfold Vk at he
 cases hb : ((List.range n0).all (bm (zp 0 st0)) && (zp 0 st0).all (fun x => Nat.ble (x + 1) st0.length)) && fh (bm (zp 0 st0)) st0 with
 | false => simp [hb] at he
 | true =>
  simp only [hb, cond_true, de, pI] at he
  rw [gZ] at hb
  refine sW.trans (sW.only (zp 0 st0) st0.length hb.1 rfl he.2 hb.2) ?_
  rw [← he.1]
  exact sW.frame (Io _ _)
def WD (n0 : Nat) (fr0 : Fr) (st0 : St) (s : SS) : Option (Fr × St) := match s.ks with
 | [] => Vk n0 fr0 st0 s.fr s.st
 | _ => none
theorem uJ {K : KP n n0 lz} {fr0 : Fr} {st0 : St} (j : T = some r → K.p fr0 st0) (he : WD n0 fr0 st0 (run P n an s) = some (fr0, st0) := by kernel_rfl) : GG P n n0 lz an r (mc K.p Q1) T s := by
 refine ⟨fun hT => ?_⟩
 refine cH (an := an) ?_
 unfold WD at he
 split at he
 ·rename_i hk
  unfold XK
  rw [hk]
  exact K.cl (KS he) (j hT)
 ·cases he
def Wr (s : SS) : Option (Code × List It) := match s.ks with
 | .c (.loop x) :: k => some (x, k)
 | _ => none
theorem uO (x' : Code) (k : List It) (h : ∀ (R : Nat → KP n n0 lz), (∀ {γ : Type} {T1 : Option γ} {r1 : γ} {j : Nat} {f : Fr} {st : St}, T1 = some r1 → GG P n n0 lz an r1 (mc (R j).p (QK P n n0 lz k Q)) T1 ⟨[.c x'], f, st, []⟩ → (R (j + 1)).p f st) →
   T = some r → (R aQ).p (run P n an s).fr (run P n an s).st)
  (he : Wr (run P n an s) = some (x', k) := by kernel_rfl) : GG P n n0 lz an r Q T s := by
 refine ⟨fun hT => ?_⟩
 refine cH (an := an) ?_
 have h1 := h (fun j => ⟨fun f st => XR P n n0 lz x' (QK P n n0 lz k Q) j f st, fun hs h => XR.sub hs h⟩) (fun h g => g h) hT
 generalize run P n an s = s' at *
 obtain ⟨ks, fr, st, kn⟩ := s'
 unfold Wr at he
 split at he
 ·rename_i y k' hk
  simp only [de, pI] at he
  obtain ⟨rfl, rfl⟩ := he
  subst hk
  exact XW.rounds aQ rfl h1
 ·cases he
def WW (j : Nat) (s : SS) : SS := match s with
 | ⟨ks, fr, st, kn⟩ => match ks with
  | .c (.loop x) :: k => ⟨.c x :: .r x j :: k, fr, st, kn⟩
  | ks => ⟨ks, fr, st, kn⟩
theorem Nj (j : Nat) (g : GG P n n0 lz an r Q T (WW j (run P n an s))) : GG P n n0 lz an r Q T s := by
 refine ⟨fun hT => ?_⟩
 refine cH (an := an) ?_
 have h1 := g hT
 generalize run P n an s = s' at *
 obtain ⟨ks, fr, st, kn⟩ := s'
 unfold WW at h1
 simp only at h1
 split at h1
 ·exact XW.rounds (j + 1) rfl h1
 ·exact h1
theorem uE {K : KP n n0 lz} {fr0 fr : Fr} {st0 st : St} (j : T = some r → K.p fr0 st0) (he : Vk n0 fr0 st0 fr st = some (fr0, st0) := by kernel_rfl) : T = some r → K.p fr st :=
 fun hT => K.cl (KS he) (j hT)
theorem uU {T' : Option β} (hu : T' = T) (g : GG P n n0 lz an r Q T s) : GG P n n0 lz an r Q T' s := hu ▸ g
def Vn (s : SS) : Option Exit := match s.ks with
 | .c (.exit id) :: k => bif (Em id k).isNone then some (.exit id) else none
 | .c .ret :: _ => some .ret
 | _ => none
structure RE (P : Program) (n n0 : Nat) (lz an : List Nat) {β : Type} (r : β) (e : Exit) (Q : QT) (T : Option β) (s : SS) : Prop where
 go : T = some r → Q e s.fr s.st
instance {e : Exit} : CoeFun (RE P n n0 lz an r e Q T s) (fun _ => T = some r → Q e s.fr s.st) := ⟨RE.go⟩
theorem uR (e : Exit) (g : RE P n n0 lz an r e Q T (run P n an s)) (he : Vn (run P n an s) = some e := by kernel_rfl) : GG P n n0 lz an r Q T s := by
 refine ⟨fun hT => ?_⟩
 have g := g hT
 refine cH (an := an) ?_
 generalize run P n an s = s' at *
 obtain ⟨ks, fr, st, kn⟩ := s'
 unfold Vn at he
 split at he
 ·rename_i id k0 hk
  simp only at hk
  subst hk
  cases hu : Em id k0 with
  | some k' => simp [hu] at he
  | none =>
   simp only [hu, Option.isNone_none, cond_true, de] at he
   subst he
   exact XW.exit rfl (ux hu g)
 ·rename_i k0 hk
  simp only at hk
  subst hk
  simp only [de] at he
  subst he
  exact XW.ret rfl (yD g)
 ·cases he
def OJ (e : Exit) (k : List It) : Option (List It) := match e with
 | .exit id => Em id k
 | _ => none
def VR : Exit → Bool
 | .ret => true
 | .exit _ => true
 | _ => false
theorem xM {e : Exit} {R : Fr → St → Prop} {k : List It} (g : GG P n n0 lz an r Q T ⟨(OJ e k).getD [], s.fr, s.st, []⟩) (he : (OJ e k).isSome = true := by kernel_rfl) : RE P n n0 lz an r e (mc R (QK P n n0 lz k Q)) T s := by
 refine ⟨fun hT => ?_⟩
 have g := g hT
 cases e <;> simp only [OJ] at he g <;> try (cases he; done)
 rename_i id
 obtain ⟨k', hk⟩ := Option.isSome_iff_exists.1 he
 rw [hk] at g
 exact yg hk g
theorem xN {e : Exit} {R : Fr → St → Prop} {k : List It} (g : RE P n n0 lz an r e Q T s) (he : ((OJ e k).isNone && VR e) = true := by kernel_rfl) : RE P n n0 lz an r e (mc R (QK P n n0 lz k Q)) T s := by
 refine ⟨fun hT => ?_⟩
 have g := g hT
 cases e with
 | exit id => exact ux (Option.isNone_iff_eq_none.1 (by simpa [OJ, VR] using he)) g
 | ret => exact yD g
 | _ => simp [VR] at he
theorem OP {st : St} {q : Nat → Bool} {c e : CV} (h : qR q (R9 c e) = true) : CF st q c (R9 c e) := by
 unfold R9 at *
 split
 ·exact .nl
 ·exact .rfl _ (by simpa using h)
theorem LF.same {st : St} {q : Nat → Bool} : ∀ {l : List CV}, AB q l = true → LF st q l l
 | [], _ => .nil
 | c :: l, h => by
  simp only [AB, gZ] at h
  exact .cons (.rfl _ h.1) (LF.same h.2)
theorem O9 {st : St} {q : Nat → Bool} : ∀ {l m : List CV}, AB q (Mv l m) = true → LF st q l (Mv l m)
 | c :: l, e :: m, h => by
  simp only [Mv, AB, gZ] at h
  exact .cons (OP h.1) (O9 h.2)
 | [], _, _ => by simp only [Mv]; exact .nil
 | c :: l, [], h => by simp only [Mv] at h ⊢; exact LF.same h
theorem AF.same {st : St} {q : Nat → Bool} : ∀ {a : AV}, ej q a = true → AF st q a a
 | .j, _ => .j _
 | .one c, h => .one (.rfl _ h)
 | .ag l, h => .ag (LF.same h)
 | .tp [], _ => .tp0
 | .tp (a :: l), h => by
  simp only [ej, ej.go, gZ] at h
  exact .tpc (AF.same h.1) (AF.same (a := .tp l) (by simpa [ej] using h.2))
theorem Ld {st : St} {q : Nat → Bool} {a e : AV} (h : ej q (I4 a e) = true) : AF st q a (I4 a e) := by
 unfold I4 at *
 split
 ·exact .one (OP (by simpa [ej] using h))
 ·exact .ag (O9 (by simpa [ej] using h))
 ·exact AF.same (by simpa using h)
theorem Lq {st : St} {q : Nat → Bool} : ∀ {l m : List AV}, ej.go q (Jn l m) = true → AF st q (.tp l) (.tp (Jn l m))
 | c :: l, e :: m, h => by
  simp only [Jn, ej.go, gZ] at h
  exact .tpc (Ld h.1) (Lq h.2)
 | [], _, _ => by simp only [Jn]; exact .tp0
 | c :: l, [], h => by simp only [Jn] at h ⊢; exact AF.same (a := .tp (c :: l)) (by simpa [ej] using h)
theorem OA {st : St} {q : Nat → Bool} {a e : AV} (h : ej q (QE a e) = true) : AF st q a (QE a e) := by
 unfold QE at *
 split
 ·exact Lq (by simpa [ej] using h)
 ·exact Ld (by simpa using h)
def US (P : Program) (fn : Func) (s : SS) (e : AV) : Option AV := match tT P s.fr s.st fn.results.toList [] with
 | some (avs, []) => bif ej (fun _ => false) (QE (yP avs) e) then some (QE (yP avs) e) else none
 | _ => none
theorem Sg {fn : Func} {e : Exit} {R : AV} (he : e = .normal ∨ e = .ret) (h : US P fn s R = some R) : Ho P fn R e s.fr s.st := by
 unfold US at h
 split at h
 ·rename_i avs hr
  cases hi : ej (fun _ => false) (QE (yP avs) R) with
  | false => simp [hi] at h
  | true =>
   simp only [hi, cond_true, de] at h
   have := OA (st := s.st) hi
   rw [h] at this
   exact ⟨he, [], avs, [], hr, trivial, this⟩
 ·cases h
def JA (P : Program) (fn : Func) {β : Type} (rv : β → AV) (r : β) : QT := Ho P fn (rv r)
theorem xF {fn : Func} {rv : β → AV} {v : β} (he : US P fn s (rv v) = some (rv v) := by kernel_rfl) : RE P n n0 lz an r .ret (JA P fn rv r) (some v) s := by
 refine ⟨fun h => ?_⟩
 simp only [de] at h
 subst h
 show Ho P fn (rv v) _ _ _
 exact Sg (.inr rfl) he
def TI (args : List AV) : Fr := fF (oU args 0) id
theorem dw {f : Nat} {args : List AV} {rv : β → AV} (n : Nat) (an : List Nat) (fn : Func) (g : ∀ r, GG P n 0 [] an r (JA P fn rv r) T ⟨[.c (cd fn [])], TI args, [], []⟩)
  (hf : P.funcs[f]? = some fn := by kernel_rfl) (hb : fn.body = some (cd fn []) := by kernel_rfl) (hn : fn.ntmps = n := by kernel_rfl) (hl : Nat.ble args.length n = true := by rfl) : CT P f args T rv := by
 intro r hT
 refine PC.of hf hb hn (wv hl) ?_
 have := g r hT
 unfold TI at this
 rw [BH] at this
 refine XW.mono (show XW P n 0 [] (cd fn []) (QK P n 0 [] [] (JA P fn rv r)) (oU args 0) [] from ?_) (fun e f s h => h)
 have e : mc (XW P n 0 [] (cd fn []) (JA P fn rv r)) (JA P fn rv r) .normal (oU args 0) [] := this
 exact e
theorem FE {f : Nat} {args : List AV} {rv : β → AV} (e : T = none) : CT P f args T rv := fun r h => gh e h
def WR (P : Program) (m : Nat) (s : SS) : Bool := match s.ks with
 | .c (.region _ ops true) :: _ => (yC ops && DP ops m) && P.follows .mixedOrders
 | _ => false
def Xe (m : Nat) (s : SS) : SS := match s with
 | ⟨.c (.region _ ops true) :: k, fr, st, kn⟩ => ⟨.d ops (ops.toList.take m) :: .o ops (ops.toList.drop m) :: k, fr, st, kn⟩
 | s => s
theorem nI (m : Nat) (k : GG P n n0 lz an r Q T (Xe m (run P n an s))) (he : WR P m (run P n an s) = true := by kernel_rfl) : GG P n n0 lz an r Q T s := by
 refine ⟨fun hT => ?_⟩
 have k := k hT
 refine cH (an := an) ?_
 generalize run P n an s = s' at *
 obtain ⟨ks, fr, st, kn⟩ := s'
 unfold WR at he
 split at he
 ·rename_i id ops k0 hk
  simp only at hk
  subst hk
  obtain ⟨fr', h1, h2⟩ := k
  exact XW.drwS (c := .region id ops true) m fr' rfl he h1 h2
 ·cases he
def W0 (P : Program) (n0 : Nat) (lz : List Nat) (m K : Nat) (X : List Nat) (s : SS) : Bool := match s.ks with
 | .c (.region _ ops true) :: _ => ((yC ops && DP ops m) && P.follows .mixedOrders) && (fh (fun i => !bm X i) s.st && GM n0 lz X)
 | _ => false
def W3 (m K : Nat) (X : List Nat) (s : SS) : SS := match s with
 | ⟨.c (.region _ ops true) :: k, fr, st, kn⟩ => fS (st ++ List.replicate K .dead) fun st => ⟨.g X ops (ops.toList.take m) [] :: .o ops (ops.toList.drop m) :: k, fr, st, kn⟩
 | s => s
theorem Gc {q : Nat → Bool} : ∀ {a b : St}, fh q a = true → fh q b = true → fh q (a ++ b) = true
 | [], b, _, h => h
 | x :: a, b, h, h2 => by
  simp only [List.cons_append, fh, gZ] at h ⊢
  exact ⟨h.1, Gc h.2 h2⟩
theorem ER {q : Nat → Bool} : ∀ K : Nat, fh q (List.replicate K .dead) = true
 | 0 => rfl
 | K + 1 => by rw [List.replicate_succ]; simp only [fh, gZ]; exact ⟨rfl, ER K⟩
theorem Hp (m K : Nat) (X : List Nat) (k : GG P n n0 lz an r Q T (W3 m K X (run P n an s))) (he : W0 P n0 lz m K X (run P n an s) = true := by kernel_rfl) : GG P n n0 lz an r Q T s := by
 refine ⟨fun hT => ?_⟩
 have k := k hT
 refine cH (an := an) ?_
 generalize run P n an s = s' at *
 obtain ⟨ks, fr, st, kn⟩ := s'
 unfold W0 at he
 split at he
 ·rename_i id ops k0 hk
  simp only at hk
  subst hk
  simp only [W3, vJ] at k
  obtain ⟨fr2, st2, tw2, h1, h2, h3⟩ := k
  simp only [gZ] at he
  obtain ⟨he, he1, he2⟩ := he
  rw [List.nil_append] at h2
  unfold Pd at h2
  rw [gZ] at h2
  have h4 : fh (fun i => !bm X i) (st ++ List.replicate K .dead) = true := Gc he1 (ER K)
  exact XW.sub (sW.dead K) (XW.drwG (c := .region id ops true) m X tw2 fr2 st2 rfl (by simp only [gZ]; exact ⟨he, ⟨h2, h4⟩, he2⟩) h1 h3)
 ·cases he
end
section
variable {P : Program} {n n0 : Nat} {lz an : List Nat} {Q Q1 : QT} {α β : Type} {T x y : Option β} {r : β} {s : SS} {fr : Fr} {st : St} {ops : Array Oper} {l : List Oper}
def Jd (b : Bool) (a : AV) : AV := match b with
 | true => TR a
 | false => a
theorem R7 (b : Bool) (l : List AV) : C4 l (l.map (Jd b)) := by
 cases b with
 | true => exact IB l
 | false => rw [show l.map (Jd false) = l from List.map_id l]; exact C4.refl l
theorem yW.soft {ι : IM} {w : World} {vs : List Value} {asv : List AV} (b : Bool) (h : yW ι w st vs asv) : yW ι w st vs (asv.map (Jd b)) := by
 obtain ⟨e1, e2⟩ := (R7 b asv).get
 refine ⟨h.1.trans e1, fun j v a h1 h2 => ?_⟩
 have hlt : j < asv.length := by rw [e1]; exact (nC.1 h2).1
 exact (h.2 j v _ h1 (dh hlt)).le (e2 j _ a (dh hlt) h2)
def CM (P : Program) (f : Nat) (args : List AV) (sc : St) {β : Type} (T : Option β) (rv : β → AV) (nb : β → St) : Prop := ∀ r, T = some r → MC P f args sc (rv r) (nb r)
def Cw (P : Program) (fn : Func) (k : Nat) {β : Type} (rv : β → AV) (nb : β → St) (r : β) : QT := ML P fn (rv r) k (nb r)
def Vh (st : St) : St := fS st id
theorem pw {f : Nat} {args : List AV} {sc : St} {rv : β → AV} {nb : β → St} (k n : Nat) (an : List Nat) (fn : Func) (g : ∀ r, GG P n k [] an r (Cw P fn k rv nb r) T ⟨[.c (cd fn [])], TI args, Vh sc, []⟩)
  (hf : P.funcs[f]? = some fn := by kernel_rfl) (hb : fn.body = some (cd fn []) := by kernel_rfl) (hn : fn.ntmps = n := by kernel_rfl) (hl : Nat.ble args.length n = true := by rfl) (hk : sc.length = k := by rfl) : CM P f args sc T rv nb := by
 intro r hT
 refine MC.of k hf hb hn (wv hl) hk ?_
 have := g r hT
 unfold TI Vh at this
 rw [BH, vJ] at this
 refine XW.mono (show XW P n k [] (cd fn []) (QK P n k [] [] (Cw P fn k rv nb r)) (oU args 0) sc from ?_) (fun e f s h => h)
 have e : mc (XW P n k [] (cd fn []) (Cw P fn k rv nb r)) (Cw P fn k rv nb r) .normal (oU args 0) sc := this
 exact e
theorem Ry {f : Nat} {args : List AV} {sc : St} {rv : β → AV} {nb : β → St} (e : T = none) : CM P f args sc T rv nb := fun r h => gh e h
def V2 (P : Program) (fn : Func) (k : Nat) (s : SS) (e : AV) : Option (AV × St) := match tT P s.fr s.st fn.results.toList [] with
 | some (avs, []) => bif ej (fun id => Nat.ble (id + 1) k) (QE (yP avs) e) && fh (fun id => Nat.ble (id + 1) k) (s.st.take k) then some (QE (yP avs) e, s.st.take k) else none
 | _ => none
theorem Qu {fn : Func} {k : Nat} {e : Exit} {R : AV} {sc : St} (he : e = .normal ∨ e = .ret) (h : V2 P fn k s R = some (R, sc)) : ML P fn R k sc e s.fr s.st := by
 unfold V2 at h
 split at h
 ·rename_i avs hr
  cases hi : ej (fun id => Nat.ble (id + 1) k) (QE (yP avs) R) with
  | false => simp [hi] at h
  | true =>
   cases hs : fh (fun id => Nat.ble (id + 1) k) (s.st.take k) with
   | false => simp [hs] at h
   | true =>
    simp only [hi, hs, Bool.and_self, cond_true, de, pI] at h
    have := OA (st := s.st) hi
    rw [h.1] at this
    exact ⟨he, [], avs, [], hr, trivial, h.2, by rw [← h.2]; exact hs, this⟩
 ·cases h
theorem qD {fn : Func} {k : Nat} {rv : β → AV} {nb : β → St} {v : β} (he : V2 P fn k s (rv v) = some (rv v, nb v) := by kernel_rfl) : RE P n n0 lz an r .ret (Cw P fn k rv nb r) (some v) s := by
 refine ⟨fun h => ?_⟩
 simp only [de] at h
 subst h
 exact Qu (.inr rfl) he
def cQ (b : Bool) (P : Program) (n : Nat) (s : SS) : Option (Nat × List AV) := match s.ks with
 | .o ops l :: _ => (match rl P n ops l s.fr with
  | some (g, avs) => some (g, avs.map (Jd b))
  | none => none)
 | _ => none
def Tr (n : Nat) (av : AV) (st' : St) (s : SS) : SS := match s with
 | ⟨.o ops (o :: l) :: k, fr, _, kn⟩ => fA av fun av => fS st' fun st' => Az n o.dst av fr (fun fr' => Bx false o.dst kn fun kn' => ⟨.o ops l :: k, fr', st', kn'⟩) s
 | s => s
theorem GB {av : AV} {st' : St} {o : Oper} {k : List It} {kn : List Nat} : (∃ fr' kn', xB n o.dst av fr = some fr' ∧ Tr n av st' ⟨.o ops (o :: l) :: k, fr, st, kn⟩ = ⟨.o ops l :: k, fr', st', kn'⟩) ∨ Tr n av st' ⟨.o ops (o :: l) :: k, fr, st, kn⟩ = ⟨.o ops (o :: l) :: k, fr, st, kn⟩ := by
 simp only [Tr, zT, vJ]
 rcases oh (n := n) o.dst av fr (fun fr' => Bx false o.dst kn fun kn' => (⟨.o ops l :: k, fr', st', kn'⟩ : SS)) ⟨.o ops (o :: l) :: k, fr, st, kn⟩ with ⟨fr', hp, e⟩ | e
 ·obtain ⟨kn', ek⟩ := qJ false o.dst kn fun kn' => (⟨.o ops l :: k, fr', st', kn'⟩ : SS)
  exact .inl ⟨fr', kn', hp, by rw [e, ek]⟩
 ·exact .inr e
theorem XO.calmS (g : Nat) (avs avs0 : List AV) (sc sc' : St) (r : AV) (rs : List Nat) (fr' : Fr) (st' : St) (hc : rl P n ops l fr = some (g, avs0)) (b : Bool) (hs : avs0.map (Jd b) = avs.map (yX (ou rs st.length))) (h : MC P g avs sc r sc') (hb : LY st.length rs sc sc' avs = true)
  (hst : rs.map (fun x => st[x]?) = sc.map (fun o => some (th (ou rs st.length) o))) (hst' : fL st rs (sc'.map (th (ou rs st.length))) = st') (hput : A0 n l (yX (ou rs st.length) r) fr = some fr')
  (hk : XO P n n0 lz ops (l.drop 1) Q fr' st') : XO P n n0 lz ops l Q fr st := by
 cases l with
 | nil => simp [rl] at hc
 | cons o rest =>
  simp only [rl] at hc
  split at hc
  ·rename_i hg
   intro ι w a hR hF
   obtain ⟨vs, hrun, hA⟩ := yy hc hF
   have hA := hA.soft b
   rw [hs] at hA
   have hw := dJ hg hF
   refine wpList_step fun K hK => ?_
   rw [if_pos hw]
   simp only [Oper.wp, hrun, Oper.upon]
   refine (h.use' rs (MO hb) hst hR hA).mono ?_
   rintro e w' ⟨v, ι', rfl, hR', hv, k⟩
   rw [hst'] at hR' hv k
   exact hK _ _ (gc (fun e a w h => h.trans (k.weaken (fun _ _ => trivial))) (hk ι' w' _ hR' (nD hput (hF.mono' k) hv)))
  ·simp at hc
theorem yF (b : Bool) (rs : List Nat) {o : Option α} {f : α → Option β} {g : Nat} {avs : List AV} {sc : St} {rv : α → AV} {nb : α → St} (c : CM P g avs sc o rv nb)
  (k : ∀ v, o = some v → GG P n n0 lz an r Q (f v) (Tr n (yX (ou rs (run P n an s).st.length) (rv v)) (fL (run P n an s).st rs ((nb v).map (th (ou rs (run P n an s).st.length)))) (run P n an s)))
  (h1 : cQ b P n (run P n an s) = some (g, avs.map (yX (ou rs (run P n an s).st.length))) := by kernel_rfl) (h2 : ∀ v, LY (run P n an s).st.length rs sc (nb v) avs = true := by intro v; kernel_rfl)
  (h3 : rs.map (fun x => (run P n an s).st[x]?) = sc.map (fun o => some (th (ou rs (run P n an s).st.length) o)) := by kernel_rfl) : GG P n n0 lz an r Q (au o f) s := by
 refine ⟨fun h => ?_⟩
 obtain ⟨v, ho, h⟩ := xR h
 refine cH (an := an) ?_
 have k := k v ho h
 have h2 := h2 v
 generalize run P n an s = s' at *
 obtain ⟨ks, fr, st, kn⟩ := s'
 unfold cQ at h1
 split at h1
 ·rename_i ops l k' hk
  simp only at hk
  subst hk
  split at h1
  ·rename_i g' avs' hc
   simp only [de, pI] at h1
   obtain ⟨rfl, h1⟩ := h1
   cases l with
   | nil => simp [rl] at hc
   | cons o' l =>
    rcases GB (n := n) (av := yX (ou rs st.length) (rv v)) (st' := fL st rs ((nb v).map (th (ou rs st.length)))) (o := o') (ops := ops) (l := l) (fr := fr) (st := st) (k := k') (kn := kn) with ⟨fr', kn', hp, e⟩ | e
    ·rw [e] at k
     exact XO.calmS _ _ _ _ _ _ _ fr' _ hc b h1 (c v ho) h2 h3 rfl hp k
    ·rw [e] at k; exact k
  ·cases h1
 ·cases h1
def WQ (P : Program) (s : SS) : Option ByteArray := match s.ks with
 | .o ops l :: _ => H7 P ops l s.fr
 | _ => none
theorem Vy (t : ByteArray) (k : GG P n n0 lz an r Q T (Tr n (.one (.pt (run P n an s).st.length 0 0 0)) ((run P n an s).st ++ [.raw (.stringIter t 0)]) (run P n an s))) (he : WQ P (run P n an s) = some t := by kernel_rfl) : GG P n n0 lz an r Q T s := by
 refine ⟨fun h => cH (an := an) ?_⟩
 have k := k h
 generalize run P n an s = s' at *
 obtain ⟨ks, fr, st, kn⟩ := s'
 unfold WQ at he
 split at he
 ·rename_i ops l k' hk
  simp only at hk
  subst hk
  cases l with
  | nil => simp [H7] at he
  | cons o' l =>
   rcases GB (n := n) (av := .one (.pt st.length 0 0 0)) (st' := st ++ [.raw (.stringIter t 0)]) (o := o') (ops := ops) (l := l) (fr := fr) (st := st) (k := k') (kn := kn) with ⟨fr', kn', hp, e⟩ | e
   ·rw [e] at k
    exact XO.rng t fr' _ he hp rfl k
   ·rw [e] at k; exact k
 ·cases he
def V1 (s : SS) : Option Nat := match s.ks with
 | .o ops l :: _ => BD ops l s.fr
 | _ => none
theorem Vf (id : Nat) {t : ByteArray} {pos : Nat}
  (k1 : decide (pos < t.size) = true → GG P n n0 lz an r Q x (Tr n (.tp [.one (.pv (.s (.bool true))), .one (.pv (.s (.int .i64 (Int.ofNat pos)))), .one (.pv (.s (.int .i32 (Int.ofNat (Utf8.decode t pos).1))))]) ((run P n an s).st.set id (.raw (.stringIter t (pos + (Utf8.decode t pos).2)))) (run P n an s)))
  (k2 : decide (pos < t.size) = false → GG P n n0 lz an r Q y (Tr n (.tp [.one (.pv (.s (.bool false)))]) (run P n an s).st (run P n an s)))
  (he : V1 (run P n an s) = some id := by kernel_rfl) (ho : (run P n an s).st[id]? = some (.raw (.stringIter t pos)) := by kernel_rfl) : GG P n n0 lz an r Q (ak (decide (pos < t.size)) x y) s := by
 refine ⟨fun h => cH (an := an) ?_⟩
 cases hp0 : decide (pos < t.size) with
 | true =>
  rw [hp0] at h
  have k := k1 hp0 h
  generalize run P n an s = s' at *
  obtain ⟨ks, fr, st, kn⟩ := s'
  unfold V1 at he
  split at he
  ·rename_i ops l k' hk
   simp only at hk
   subst hk
   cases l with
   | nil => simp [BD] at he
   | cons o' l =>
    rcases GB (n := n) (av := .tp [.one (.pv (.s (.bool true))), .one (.pv (.s (.int .i64 (Int.ofNat pos)))), .one (.pv (.s (.int .i32 (Int.ofNat (Utf8.decode t pos).1))))]) (st' := st.set id (.raw (.stringIter t (pos + (Utf8.decode t pos).2)))) (o := o') (ops := ops) (l := l) (fr := fr) (st := st) (k := k') (kn := kn) with ⟨fr', kn', hp, e⟩ | e
    ·rw [e] at k
     exact XO.nxt id t pos fr' _ he ho hp rfl hp0 k
    ·rw [e] at k; exact k
  ·cases he
 | false =>
  rw [hp0] at h
  have k := k2 hp0 h
  generalize run P n an s = s' at *
  obtain ⟨ks, fr, st, kn⟩ := s'
  unfold V1 at he
  split at he
  ·rename_i ops l k' hk
   simp only at hk
   subst hk
   cases l with
   | nil => simp [BD] at he
   | cons o' l =>
    rcases GB (n := n) (av := .tp [.one (.pv (.s (.bool false)))]) (st' := st) (o := o') (ops := ops) (l := l) (fr := fr) (st := st) (k := k') (kn := kn) with ⟨fr', kn', hp, e⟩ | e
    ·rw [e] at k
     exact XO.nxtE id t pos fr' he ho hp hp0 k
    ·rw [e] at k; exact k
  ·cases he
end
section
variable {P : Program} {n n0 : Nat} {lz an : List Nat} {Q Q1 : QT} {α β : Type} {T x y : Option β} {r : β} {s : SS} {fr : Fr} {st : St} {ops : Array Oper} {l : List Oper}
inductive BF (st : St) (q : Nat → Bool) : cu → cu → Prop where
 | same (o : cu) (h : lR q o = true) : BF st q o o
 | box {cells cells' : List CV} (h : LF st q cells cells') : BF st q (.box cells) (.box cells')
structure GJ (q : Nat → Bool) (st st' : St) : Prop where
 old : ∀ (id : Nat) o', st'[id]? = some o' → o' = .dead ∨ (q id = true ∧ ∃ o, st[id]? = some o ∧ BF st q o o')
 keep : ∀ id, q id = true → id < st.length → id < st'.length
theorem BF.alive {q : Nat → Bool} {o o' : cu} (h : BF st q o o') (ha : o'.alive) : o.alive := by
 cases h with
 | same => exact ha
 | box => simp [cu.alive]
theorem GJ.own {q : Nat → Bool} {st' : St} (h : GJ q st st') {ι : IM} {b : Nat} (ho : wx ι st' b) : ∃ id o, q id = true ∧ st[id]? = some o ∧ o.alive ∧ ι id = some b := by
 obtain ⟨id, o, h1, h2, h3⟩ := ho
 rcases h.old id o h1 with rfl | ⟨h4, o0, h5, h6⟩
 ·exact absurd rfl h2
 ·exact ⟨id, o0, h4, h5, h6.alive h2, h3⟩
theorem GJ.keeps {q : Nat → Bool} {st' : St} (h : GJ q st st') {ι : IM} {w : World} : bY (fun id => q id = true) ι w st ι w st' :=
 ⟨rfl, rfl, rfl, gO _, rfl, fun b _ hm => ⟨rfl, fun ho => by
  obtain ⟨id, o, _, h2, h3, h4⟩ := h.own ho
  exact hm ⟨id, o, h2, h3, h4⟩⟩, fun id hq hid => ⟨h.keep id hq hid, rfl⟩, fun _ c _ _ h => ⟨c, h, rfl⟩⟩
theorem dj.fzF {q : Nat → Bool} {st' : St} {ι : IM} {w : World} (r : hI ι w st) (hs : GJ q st st') {v : Value} {c c' : CV} (h : dj ι w st v c) (hf : CF st q c c') : dj ι w st' v c' := by
 have k := hs.keeps (ι := ι) (w := w)
 cases hf with
 | rfl _ hc => exact h.mono k (q := q) (fun _ h _ => h) hc
 | nl =>
  have := bU (a8.one _ _ h)
  subst this
  exact .pv _ _ .nl
 | pt hid hq => exact h.boxed r (fun b => hs.own) (fun _ _ => k.pure) hid hq
 | fnp hid hq => exact h.boxfn r (fun b => hs.own) (fun _ _ => k.pure) hid hq
 | @sl id sz off len els els' ho hq hl he =>
  subst he
  have hlen : ((els.drop off).take len).length = len := by simp; omega
  cases h with
  | sn _ _ hid hb =>
   have : (els.drop 0).take 0 = [] := by simp
   rw [this]
   exact .pv _ _ .nl
  | sl _ _ _ _ b cap hid hb hcap hc =>
   rcases r.obj id _ ho with ⟨e1, _⟩ | ⟨b', c, ty, e1, e2, hcs, hsz, hcell⟩
   ·rw [hb] at e1; cases e1
   ·rw [hb] at e1; cases e1
    have hown : wx ι st b := ⟨id, _, ho, by simp [cu.alive], hb⟩
    have := gS.ro (μ := lI ι st') (w := w) ⟨b, off * sz, none⟩ cap sz ((els.drop off).take len) (fun i j => c.getD ((off + i) * sz + j) undef) (by rw [hlen]; exact hcap)
     (fun e he => hsz e (List.mem_of_mem_drop (List.mem_of_mem_take he)))
     (fun _ => ⟨dT e2, fun hm => by
      rcases hm with hm | hm
      ·exact r.dis b hown hm
      ·obtain ⟨id', o', hq', h5, h6, h7⟩ := hs.own hm
       have := r.inj id id' _ o' b ho h5 (by simp [cu.alive]) h6 hb h7
       subst this
       rw [hq] at hq'; cases hq'⟩)
     (fun i e j p h1 h2 => by
      rw [List.getElem?_take] at h1
      split at h1
      ·rw [List.getElem?_drop] at h1
       obtain ⟨u, a1, a2⟩ := hcell _ e j p h1 h2
       rw [add_lit, qW e2]
       rw [show off * sz + (i * sz + j) = (off + i) * sz + j by rw [Nat.add_mul]; omega, a1]
       simp [a1]
      ·cases h1)
     (fun i e j p h1 h2 => by
      rw [List.getElem?_take] at h1
      split at h1
      ·rw [List.getElem?_drop] at h1
       obtain ⟨u, a1, a2⟩ := hcell _ e j p h1 h2
       have : c.getD ((off + i) * sz + j) undef = u := by simp [a1]
       rw [this]
       exact k.pure a2
      ·cases h1)
    rw [hlen] at this
    exact .pv _ _ this
theorem fq.fzF {q : Nat → Bool} {st' : St} {ι : IM} {w : World} (r : hI ι w st) (hs : GJ q st st') {cs cs' : List CV} (hf : LF st q cs cs') : ∀ {vs : List Value}, fq ι w st vs cs → fq ι w st' vs cs' := by
 induction hf with
 | nil => exact fun h => ⟨h.1, fun j v c h1 h2 => by simp at h2⟩
 | @cons c c' l l' hc hk ih =>
  intro vs hL
  match vs, hL with
  | [], hL => have := hL.1; simp at this
  | u :: us, hL =>
   have h0 := hL.2 0 u c rfl rfl
   have ht := ih (vs := us) ⟨by have := hL.1; simpa using this, fun j v c h1 h2 => hL.2 (j + 1) v c (by simpa using h1) (by simpa using h2)⟩
   refine ⟨by simp [ht.1], fun j v c h1 h2 => ?_⟩
   cases j with
   | zero => simp at h1 h2; subst h1; subst h2; exact h0.fzF r hs hc
   | succ j => exact ht.2 j v c (by simpa using h1) (by simpa using h2)
theorem a8.fzF {q : Nat → Bool} {st' : St} {ι : IM} {w : World} (r : hI ι w st) (hs : GJ q st st') {v : Value} {a a' : AV} (h : a8 ι w st v a) (hf : AF st q a a') : a8 ι w st' v a' := by
 induction hf generalizing v with
 | j a => exact .j _
 | one hc => exact .one _ _ ((ow h).fzF r hs hc)
 | @ag cs cs' hl =>
  obtain ⟨vs, rfl, hL⟩ := HQ h
  exact .ag _ _ (hL.fzF r hs hl)
 | tp0 =>
  cases h with
  | tp vs _ hl h => exact .tp _ _ hl (fun j v a h1 h2 => by simp at h2)
 | @tpc a a' l l' ha hk ih1 ih2 =>
  cases h with
  | tp vs _ hl h =>
   match vs, hl with
   | [], hl => simp at hl
   | u :: us, hl =>
    have h0 := ih1 (h 0 u a rfl rfl)
    have ht := ih2 (.tp us l (by simpa using hl) (fun j v c h1 h2 => h (j + 1) v c (by simpa using h1) (by simpa using h2)))
    generalize hx : Value.tuple us.toArray = xv at ht
    generalize hy : AV.tp l' = ya at ht
    cases ht with
    | tp vs2 as2 hl2 h2 =>
     cases hy
     have : us = vs2 := by
      have := congrArg (fun v : Value => match v with | .tuple a => a.toList | _ => []) hx
      simpa using this
     subst this
     refine .tp _ _ (by simp [hl2]) (fun j v c h1 h3 => ?_)
     cases j with
     | zero => simp at h1 h3; subst h1; subst h3; exact h0
     | succ j => exact h2 j v c (by simpa using h1) (by simpa using h3)
    | _ => cases hy
theorem hI.frz {q : Nat → Bool} {st' : St} {ι : IM} {w : World} (r : hI ι w st) (h : GJ q st st') : hI ι w st' := by
 have k := h.keeps (ι := ι) (w := w)
 refine ⟨fun id o ho => ?_, r.amb, fun b ho => ?_, fun id id' o o' b h1 h2 a1 a2 e1 e2 => ?_, r.glk k⟩
 ·rcases h.old id o ho with rfl | ⟨hq, o0, ho', hbf⟩
  ·trivial
  ·have := r.obj id o0 ho'
   cases hbf with
   | box hl =>
    obtain ⟨b', vs, ty, e', hb', hL⟩ := this
    exact ⟨b', vs, ty, e', hb', hL.fzF r h hl⟩
   | same _ hb =>
    cases o with
    | dead => trivial
    | box cells =>
     obtain ⟨b', vs, ty, e', hb', hl⟩ := this
     exact ⟨b', vs, ty, e', hb', hl.mono k (q := q) (fun _ h _ => h) hb⟩
    | rel Rm ps =>
     obtain ⟨b', ob, vs0, e', hb', hr0, hl0⟩ := this
     exact ⟨b', ob, vs0, e', hb', hr0, hl0.map fun _ _ h0 => k.pure h0⟩
    | arr sz els =>
     rcases this with ⟨e', he⟩ | ⟨b', c, ty, e', hb', h1, h2, h3⟩
     ·exact .inl ⟨e', he⟩
     ·refine .inr ⟨b', c, ty, e', hb', h1, h2, fun i e' j cv a1 a2 => ?_⟩
      obtain ⟨v, hv, hr⟩ := h3 i e' j cv a1 a2
      exact ⟨v, hv, k.pure hr⟩
 ·obtain ⟨id, o, _, h2, h3, h4⟩ := h.own ho
  exact r.dis b ⟨id, o, h2, h3, h4⟩
 ·rcases h.old id o h1 with rfl | ⟨_, o0, h5, q1⟩
  ·exact absurd rfl a1
  rcases h.old id' o' h2 with rfl | ⟨_, o1, h6, q2⟩
  ·exact absurd rfl a2
  exact r.inj id id' o0 o1 b h5 h6 (q1.alive a1) (q2.alive a2) e1 e2
theorem sW.frz {q : Nat → Bool} {fr' : Fr} {st' : St} (h : GJ q st st') (hf : ∀ t, AF st q (lk fr t) (lk fr' t)) (hq : ∀ id, ut n0 lz id = true → q id = true) : sW n n0 lz fr st fr' st' :=
 fun ι w a hR hF => ⟨ι, hR.frz h, ⟨hF.defers, hF.size, fun t => (hF.slot t).fzF hR h (hf t)⟩, h.keeps.weaken hq⟩
def Uj (id : Nat) (els : List (List PV)) : CV → CV
 | .sl i sz off len => bif Nat.beq i id then .pv (.ro els) else .sl i sz off len
 | c => c
def VD (id : Nat) (els : List (List PV)) : List CV → List CV
 | [] => []
 | c :: l => Uj id els c :: VD id els l
def WL (id : Nat) (els : List (List PV)) : AV → AV
 | .one c => .one (Uj id els c)
 | .ag l => .ag (VD id els l)
 | a => a
def Vg (id : Nat) : CV → List (Nat × Nat × Nat)
 | .sl i sz off len => bif Nat.beq i id then [(sz, off, len)] else []
 | _ => []
def TG (id : Nat) : List CV → List (Nat × Nat × Nat)
 | [] => []
 | c :: l => Vg id c ++ TG id l
def WT (id : Nat) : AV → List (Nat × Nat × Nat)
 | .one c => Vg id c
 | .ag l => TG id l
 | _ => []
def WS (id : Nat) (els : List (List PV)) : cu → cu
 | .box l => .box (VD id els l)
 | b => b
def WV (id : Nat) : cu → List (Nat × Nat × Nat)
 | .box l => TG id l
 | _ => []
def JO (id : Nat) (els : List (List PV)) : Nat → St → St
 | _, [] => []
 | i, b :: l => (bif Nat.beq i id then .dead else WS id els b) :: JO id els (i + 1) l
def NG (id : Nat) : St → List (Nat × Nat × Nat)
 | [] => []
 | b :: l => WV id b ++ NG id l
def MI (id : Nat) : Nat → Bool := fun i => !Nat.beq i id
def VK (id : Nat) (c : CV) : Bool := match c with
 | .sl .. => true
 | c => qR (MI id) c
def UE (id : Nat) : List CV → Bool
 | [] => true
 | c :: l => VK id c && UE id l
def WG (id : Nat) : AV → Bool
 | .one c => VK id c
 | .ag l => UE id l
 | a => ej (MI id) a
def WC (id : Nat) : cu → Bool
 | .box l => UE id l
 | _ => true
theorem Lz {E : rS α} {xs : List α} {id : Nat} {L : List (Nat × Nat × Nat)} (h : ∀ p ∈ L, p = (E.sz, 0, xs.length)) {st : St} (hid : st[id]? = some (.arr E.sz (E.els xs))) {c : CV} (hc : ∀ p ∈ Vg id c, p ∈ L) (ho : VK id c = true) : CF st (MI id) c (Uj id (E.els xs) c) := by
 cases c with
 | sl i sz off len =>
  cases hb : Nat.beq i id with
  | true =>
   have := qV hb
   subst this
   have hp := h _ (hc (sz, off, len) (by simp [Vg]))
   simp only [pI] at hp
   obtain ⟨rfl, rfl, rfl⟩ := hp
   simp only [Uj, hb, cond_true]
   exact T2 E xs hid (by simp [MI]) rfl
  | false =>
   simp only [Uj, hb, cond_false]
   exact .rfl _ (by simp [qR, MI, hb])
 | _ => exact .rfl _ ho
theorem Js {E : rS α} {xs : List α} {id : Nat} {L : List (Nat × Nat × Nat)} (h : ∀ p ∈ L, p = (E.sz, 0, xs.length)) {st : St} (hid : st[id]? = some (.arr E.sz (E.els xs))) : ∀ {l : List CV}, (∀ p ∈ TG id l, p ∈ L) → UE id l = true → LF st (MI id) l (VD id (E.els xs) l)
 | [], _, _ => .nil
 | c :: l, hc, ho => by
  simp only [UE, gZ] at ho
  exact .cons (Lz h hid (fun p hp => hc p (by simp [TG, hp])) ho.1) (Js h hid (fun p hp => hc p (by simp [TG, hp])) ho.2)
theorem Tg {E : rS α} {xs : List α} {id : Nat} {L : List (Nat × Nat × Nat)} (h : ∀ p ∈ L, p = (E.sz, 0, xs.length)) {st : St} (hid : st[id]? = some (.arr E.sz (E.els xs))) {a : AV} (hc : ∀ p ∈ WT id a, p ∈ L) (ho : WG id a = true) : AF st (MI id) a (WL id (E.els xs) a) := by
 cases a with
 | one c => exact .one (Lz h hid hc ho)
 | ag l => exact .ag (Js h hid hc ho)
 | _ => exact AF.same ho
theorem E9 (id : Nat) (els : List (List PV)) : ∀ (st : St) (i j : Nat), (JO id els i st)[j]? = (st[j]?).map fun b => bif Nat.beq (i + j) id then cu.dead else WS id els b
 | [], i, j => by simp [JO]
 | b :: l, i, 0 => by simp [JO]
 | b :: l, i, j + 1 => by simp only [JO, List.getElem?_cons_succ]; rw [E9 id els l (i + 1) j, show i + 1 + j = i + (j + 1) by omega]
theorem II {id : Nat} : ∀ {st : St} {j : Nat} {b : cu}, st[j]? = some b → ∀ p ∈ WV id b, p ∈ NG id st
 | [], j, b, h, p, hp => by simp at h
 | x :: l, 0, b, h, p, hp => by simp at h; subst h; simp [NG, hp]
 | x :: l, j + 1, b, h, p, hp => by simp only [NG, List.mem_append]; exact .inr (II (by simpa using h) p hp)
def OV (id : Nat) (els : List (List PV)) (fr : Fr) : List Nat → Fr
 | [] => qc (MI id) fr
 | t :: ts => (t, WL id els (lk fr t)) :: OV id els fr ts
def NE (id : Nat) (fr : Fr) : List Nat → List (Nat × Nat × Nat)
 | [] => []
 | t :: ts => WT id (lk fr t) ++ NE id fr ts
def Pr (id : Nat) (fr : Fr) : List Nat → Bool
 | [] => true
 | t :: ts => WG id (lk fr t) && Pr id fr ts
theorem Ly {E : rS α} {xs : List α} {id : Nat} {L : List (Nat × Nat × Nat)} (h : ∀ p ∈ L, p = (E.sz, 0, xs.length)) {st : St} (hid : st[id]? = some (.arr E.sz (E.els xs))) : ∀ {ts : List Nat}, (∀ p ∈ NE id fr ts, p ∈ L) → Pr id fr ts = true → ∀ t, AF st (MI id) (lk fr t) (lk (OV id (E.els xs) fr ts) t)
 | [], _, _, t => by
  simp only [OV]
  rw [zD]
  cases hi : ej (MI id) (lk fr t) with
  | false => exact .j _
  | true => exact AF.same hi
 | u :: ts, hc, ho, t => by
  simp only [Pr, gZ] at ho
  simp only [OV, lk]
  cases hb : Nat.beq u t with
  | true =>
   have := qV hb
   subst this
   exact Tg h hid (fun p hp => hc p (by simp [NE, hp])) ho.1
  | false => exact Ly h hid (fun p hp => hc p (by simp [NE, hp])) ho.2 t
def KH (n0 id : Nat) (ts : List Nat) (s : SS) : Option (Nat × List (List PV) × List (Nat × Nat × Nat)) :=
 match s.st[id]? with
 | some (.arr sz els) => bif Nat.ble n0 id && (Pr id s.fr ts && s.st.all (WC id)) then some (sz, els, NE id s.fr ts ++ NG id s.st) else none
 | _ => none
def EH (id : Nat) (els : List (List PV)) (ts : List Nat) (s : SS) : SS := match s with
 | ⟨ks, fr, st, kn⟩ => fF (OV id els fr ts) fun fr => fS (JO id els 0 st) fun st => ⟨ks, fr, st, kn⟩
theorem OC {E : rS α} {xs : List α} {id : Nat} {ts : List Nat} {L : List (Nat × Nat × Nat)} (he : KH n0 id ts s = some (E.sz, E.els xs, L)) (hL : ∀ p ∈ L, p = (E.sz, 0, xs.length)) :
  sW n n0 lz s.fr s.st (EH id (E.els xs) ts s).fr (EH id (E.els xs) ts s).st := by
 unfold KH at he
 split at he
 ·rename_i sz els hid
  cases hb : Nat.ble n0 id && (Pr id s.fr ts && s.st.all (WC id)) with
  | false => simp [hb] at he
  | true =>
   simp only [hb, cond_true, de, pI] at he
   obtain ⟨rfl, rfl, rfl⟩ := he
   simp only [gZ] at hb
   obtain ⟨h1, h2, h3⟩ := hb
   obtain ⟨ks, fr, st, kn⟩ := s
   simp only [EH, BH, vJ]
   simp only at hid h2 h3 hL
   refine sW.frz (q := MI id) ⟨fun i o' ho => ?_, fun i hq hi => ?_⟩ (Ly hL hid (fun p hp => by simp [hp]) h2) (fun i hi => ?_)
   ·rw [E9, Nat.zero_add, vo] at ho
    obtain ⟨b, hb, e⟩ := ho
    cases hbi : Nat.beq i id with
    | true => simp only [hbi, cond_true] at e; exact .inl e.symm
    | false =>
     simp only [hbi, cond_false] at e
     refine .inr ⟨by simp [MI, hbi], b, hb, ?_⟩
     subst e
     have hok := List.all_eq_true.1 h3 b (List.mem_of_getElem? hb)
     cases b with
     | box l => exact .box (Js hL hid (fun p hp => by simp only [List.mem_append]; exact .inr (II hb p hp)) hok)
     | _ => exact .same _ rfl
   ·have : (JO id (E.els xs) 0 st)[i]? ≠ none := by
     rw [E9]
     simp [hi]
    simp only [ne_eq, List.getElem?_eq_none_iff] at this
    omega
   ·have h4 := wv h1
    simp only [ut, gZ] at hi
    have h5 := wv hi.1
    have : i ≠ id := by omega
    simp only [MI, Dt this, Bool.not_false]
 ·cases he
theorem PD {id : Nat} {els : List (List PV)} {ts : List Nat} : (EH id els ts s).ks = s.ks := by
 obtain ⟨ks, fr, st, kn⟩ := s
 simp only [EH, BH, vJ]
def Qx {γ : Type} (y : γ) (l : List γ) : List γ := l.map fun _ => y
theorem QC {γ : Type} {y : γ} {l : List γ} (h : l = Qx y l) : ∀ p ∈ l, p = y := by
 intro p hp
 rw [h] at hp
 simp only [Qx, List.mem_map] at hp
 obtain ⟨_, _, e⟩ := hp
 exact e.symm
def Le (n0 id : Nat) (ts : List Nat) (s : SS) : List (Nat × Nat × Nat) := match KH n0 id ts s with
 | some (_, _, L) => L
 | none => []
theorem Qf (E : rS α) (xs : List α) (id : Nat) (ts : List Nat) (k : GG P n n0 lz an r Q T (EH id (E.els xs) ts (run P n an s))) (he : KH n0 id ts (run P n an s) = some (E.sz, E.els xs, Qx (E.sz, 0, xs.length) (Le n0 id ts (run P n an s))) := by kernel_rfl)
  (ht : xU (run P n an s).ks = true := by kernel_rfl) : GG P n n0 lz an r Q T s := by
 refine ⟨fun h => cH (an := an) ?_⟩
 have hL := he
 have e : Le n0 id ts (run P n an s) = Qx (E.sz, 0, xs.length) (Le n0 id ts (run P n an s)) := by
  conv => lhs; unfold Le; rw [he]
 have hs := OC (n := n) (lz := lz) he (by rw [← e]; exact QC e)
 have k := k h
 refine QK.sub ht hs ?_
 have : XK P n n0 lz Q (EH id (E.els xs) ts (run P n an s)) := k
 unfold XK at this
 rw [PD] at this
 exact this
def WH : List CV → List PV
 | .pv p :: l => p :: WH l
 | _ => []
def W8 (id : Nat) (ps : List PV) : CV → CV
 | .pt i sz k off => bif Nat.beq i id then .pv (.rp [ps] k off) else .pt i sz k off
 | .fn f [.pt i sz k off] => bif Nat.beq i id then .fn f [.pv (.rp [ps] k off)] else .fn f [.pt i sz k off]
 | c => c
def Xl (id : Nat) (ps : List PV) : AV → AV
 | .one c => .one (W8 id ps c)
 | a => a
def Xn (id : Nat) (s : SS) : List PV := match s.st[id]? with
 | some (.box cells) => WH cells
 | _ => []
inductive Cv where
 | li (t sz : Nat)
 | sf (t : Nat)
 | lb (bx j sz : Nat)
 | sb (bx j : Nat)
 | stl (bx j : Nat)
 | sw (a b : Nat)
 | dd (k : Nat)
def Q7 (n0 : Nat) (lz : List Nat) (c : Cv) (fr : Fr) (st : St) : Option (Fr × St) := match c with
 | .li t sz => (match lk fr t with
  | .one (.pv (.s (.slice none 0 0))) => some ((t, .one (.sl st.length sz 0 0)) :: fr, st ++ [.arr sz []])
  | _ => none)
 | .sf t => some ((t, TR (lk fr t)) :: fr, st)
 | .lb bx j sz => (match st[bx]? with
  | some (.box cells) => (match cells[j]? with
   | some (.pv (.s (.slice none 0 0))) => some (fr, (st ++ [cu.arr sz []]).set bx (.box (cells.set j (.sl st.length sz 0 0))))
   | _ => none)
  | _ => none)
 | .sb bx j => (match st[bx]? with
  | some (.box cells) => (match cells[j]? with
   | some (.pv (.s (.slice none 0 0))) => some (fr, st.set bx (.box (cells.set j (.pv (.ro [])))))
   | _ => none)
  | _ => none)
 | .stl bx j => (match st[bx]? with
  | some (.box cells) => (match cells[j]? with
   | some (.sl id sz off len) => some (fr, (st ++ [cu.dead]).set bx (.box (cells.set j (.sl st.length sz off len))))
   | _ => none)
  | _ => none)
 | .dd k => some (fr, st ++ List.replicate k .dead)
 | .sw a b => bif (Nat.ble (a + 1) st.length && Nat.ble (b + 1) st.length) && !(ut n0 lz a || ut n0 lz b) then some (LH a b fr, AK a b st) else none
theorem O1 {c : Cv} {fr' : Fr} {st' : St} (h : Q7 n0 lz c fr st = some (fr', st')) : sW n n0 lz fr st fr' st' := by
 unfold Q7 at h
 cases c with
 | li t sz =>
  simp only at h
  split at h
  ·rename_i hl
   simp only [de, pI] at h
   obtain ⟨rfl, rfl⟩ := h
   exact sW.list hl
  ·cases h
 | sf t =>
  simp only [de, pI] at h
  obtain ⟨rfl, rfl⟩ := h
  intro ι w a hR hF
  refine ⟨ι, hR, ⟨hF.defers, hF.size, fun t' => ?_⟩, .refl⟩
  simp only [lk]
  cases hb : Nat.beq t t' with
  | true =>
   have := qV hb
   subst this
   exact (hF.slot t).le (Np _)
  | false => exact hF.slot t'
 | lb bx j sz =>
  simp only at h
  split at h
  ·rename_i cells hb
   split at h
   ·rename_i hj
    simp only [de, pI] at h
    obtain ⟨rfl, rfl⟩ := h
    exact sW.listb bx j sz cells hb hj _ rfl
   ·cases h
  ·cases h
 | sb bx j =>
  simp only at h
  split at h
  ·rename_i cells hb
   split at h
   ·rename_i hj
    simp only [de, pI] at h
    obtain ⟨rfl, rfl⟩ := h
    exact sW.softb bx j cells hb hj _ rfl
   ·cases h
  ·cases h
 | stl bx j =>
  simp only at h
  split at h
  ·rename_i cells hb
   split at h
   ·rename_i id sz off len hj
    simp only [de, pI] at h
    obtain ⟨rfl, rfl⟩ := h
    exact sW.stale bx j id sz off len cells hb hj _ rfl
   ·cases h
  ·cases h
 | dd k =>
  simp only [de, pI] at h
  obtain ⟨rfl, rfl⟩ := h
  exact sW.dead k
 | sw a b =>
  simp only at h
  cases hb : (Nat.ble (a + 1) st.length && Nat.ble (b + 1) st.length) && !(ut n0 lz a || ut n0 lz b) with
  | false => rw [hb] at h; cases h
  | true =>
   rw [hb] at h
   simp only [cond_true, de, pI] at h
   obtain ⟨rfl, rfl⟩ := h
   simp only [gZ, Bool.not_eq_true'] at hb
   exact sW.swap a b _ _ (by simp only [gZ]; exact hb.1) hb.2 rfl rfl
def U6 (n0 : Nat) (lz : List Nat) (c : Cv) (s : SS) : SS := match s with
 | ⟨ks, fr, st, kn⟩ => match Q7 n0 lz c fr st with
  | some (fr', st') => fF fr' fun fr' => fS st' fun st' => ⟨ks, fr', st', kn⟩
  | none => ⟨ks, fr, st, kn⟩
theorem Tf (c : Cv) (s : SS) : (U6 n0 lz c s).ks = s.ks ∧ sW n n0 lz s.fr s.st (U6 n0 lz c s).fr (U6 n0 lz c s).st := by
 obtain ⟨ks, fr, st, kn⟩ := s
 unfold U6
 simp only
 cases hd : Q7 n0 lz c fr st with
 | none => exact ⟨rfl, fun ι w a hR hF => ⟨ι, hR, hF, .refl⟩⟩
 | some p =>
  obtain ⟨fr', st'⟩ := p
  simp only [BH, vJ]
  exact ⟨trivial, O1 hd⟩
theorem Mn (c : Cv) (k : GG P n n0 lz an r Q T (U6 n0 lz c (run P n an s))) (ht : xU (run P n an s).ks = true := by kernel_rfl) : GG P n n0 lz an r Q T s := by
 refine ⟨fun h => cH (an := an) ?_⟩
 have k := k h
 obtain ⟨e, hs⟩ := Tf (n := n) (n0 := n0) (lz := lz) c (run P n an s)
 unfold XK at k
 rw [e] at k
 exact QK.sub ht hs k
end
section
variable {P : Program} {n n0 : Nat} {lz an : List Nat} {Q Q1 : QT} {α β : Type} {T x y : Option β} {r : β} {s : SS} {fr : Fr} {st : St} {ops : Array Oper} {l : List Oper}
def PQ (X : List Nat) (ops : Array Oper) (o : Oper) (fr : Fr) (st : St) (mv : Option Nat) : List Nat × List Nat := match mv with
 | none => (xJ X (cA ops o fr), cA ops o fr ++ [])
 | some id => (match st[id]? with
  | some .dead => (xJ X (id :: cA ops o fr), (id :: cA ops o fr) ++ [id + 1000])
  | _ => (xJ X (cA ops o fr), cA ops o fr ++ [id + 1000]))
def Jl (st : St) (mv : Option Nat) : Bool := match mv with
 | none => true
 | some id => (match st[id]? with
  | some .dead => false
  | _ => true)
def dN (o : Oper) : Nat := match o.dst with
 | some d => d + 1
 | none => 0
def Ss (P : Program) (an X : List Nat) (ops : Array Oper) (o : Oper) (fr : Fr) (st : St) (hs : HS) : Option AN :=
 match ev P (yn an o) o (dL ops o fr) (mb (bm (cA ops o fr)) 0 st) hs with
 | some out => bif Nat.beq out.st.length st.length then
   bif (!yn an o && Rs (dN o) ops X o fr st (cA ops o fr) out) && (Ng st (cA ops o fr) && Jl st out.mv) then some ⟨out.av, jJ (bm (cA ops o fr)) 0 st out.st, out.ob, out.hs, out.mv⟩ else none
  else (match MU X st, out.st.drop st.length with
   | some id, [b] => bif PZ (dN o) ops X id o fr st (cA ops o fr) out b && Ng st (id :: cA ops o fr) then some ⟨yX (E4 st.length id) out.av, (jJ (bm (cA ops o fr)) 0 st (out.st.take st.length)).set id b, out.ob, out.hs, some id⟩ else none
   | _, _ => none)
 | none => none
theorem NJ {o : Oper} (h : ∀ d, o.dst = some d → d < n) : vM n o = true := by
 unfold vM
 cases hd : o.dst with
 | none => rfl
 | some d => exact Nat.ble_eq_true_of_le (h d hd)
theorem UH {X T : List Nat} {o : Oper} {out : AN} (h : Rs (dN o) ops X o fr st T out = true) (hd : vM n o = true) : Rs n ops X o fr st T out = true := by
 unfold Rs at h ⊢
 simp only [gZ] at h ⊢
 exact ⟨⟨⟨hd, h.1.1.2⟩, h.1.2⟩, h.2⟩
theorem Up {X T : List Nat} {id : Nat} {o : Oper} {out : AN} {b : cu} (h : PZ (dN o) ops X id o fr st T out b = true) (hd : vM n o = true) : PZ n ops X id o fr st T out b = true := by
 unfold PZ at h ⊢
 simp only [gZ] at h ⊢
 exact ⟨⟨⟨⟨⟨hd, h.1.1.1.1.2⟩, h.1.1.1.2⟩, h.1.1.2⟩, h.1.2⟩, h.2⟩
theorem KV (m : Nat) : (fun id => !bm [m] id) = m6 (some m) := by funext id; simp [bm, m6]
def TS (P : Program) (an : List Nat) (hs : HS) (s : SS) : Option AN := match s.ks with
 | .g X ops (o :: _) _ :: _ => (match PS ops s.kn o (dL ops o s.fr) with
  | some true => Ss P an X ops o s.fr s.st hs
  | _ => none)
 | .o ops (o :: _) :: _ => (match PS ops s.kn o s.fr with
  | some true => ev P (yn an o) o s.fr s.st hs
  | _ => none)
 | _ => none
def Ge {β : Type} (q : Nat → Bool) : Fr → (Fr → β) → β
 | [], K => K []
 | (d, av) :: fr, K => match ej q av with
  | true => Ge q fr fun fr => K ((d, av) :: fr)
  | false => Ge q fr fun fr => K ((d, .j) :: fr)
theorem EA {β : Type} (q : Nat → Bool) : ∀ (fr : Fr) (K : Fr → β), Ge q fr K = K (qc q fr)
 | [], K => rfl
 | (d, av) :: fr, K => by
  simp only [Ge, qc]
  cases ej q av <;> simp only [EA q fr, cond_true, cond_false]
def VI {β : Type} (mv : Option Nat) (fr : Fr) (K : Fr → β) : β := match mv with
 | none => K fr
 | some m => Ge (m6 (some m)) fr K
theorem Jf {β : Type} (mv : Option Nat) (fr : Fr) (K : Fr → β) : VI mv fr K = K (OD mv fr) := by
 cases mv with
 | none => rfl
 | some m => exact EA _ _ _
def Jj (n : Nat) (av : AV) (st' : St) (mv : Option Nat) (s : SS) : SS := match s with
 | ⟨.o ops (o :: l) :: k, fr, _, kn⟩ => fA av fun av => fS st' fun st' => VI mv fr fun fr => Az n o.dst av fr (fun fr' => Bx false o.dst kn fun kn' => ⟨.o ops l :: k, fr', st', kn'⟩) s
 | ⟨.g X ops (o :: l) tw :: k, fr, st, kn⟩ => fA av fun av => fS st' fun st' => VI mv fr fun fr' => Az n o.dst av fr' (fun fr2 => Bx false o.dst kn fun kn' => ⟨.g X ops l (tw ++ [PQ X ops o fr st mv]) :: k, fr2, st', kn'⟩) s
 | s => s
theorem GK.ev {X : List Nat} {tw : List (List Nat × List Nat)} {R : Fr → St → Prop} {o : Oper} {hs : HS} {out : AN} {fr2 : Fr} (hg : dD ops o (dL ops o fr) = some true) (he : Ss P an X ops o fr st hs = some out) (hob : ii out.ob) (hp : xB n o.dst out.av (OD out.mv fr) = some fr2)
  (k : GK P n X ops l (tw ++ [PQ X ops o fr st out.mv]) R fr2 out.st) : GK P n X ops (o :: l) tw R fr st := by
 obtain ⟨p1, p2⟩ := xS hp
 have hd := NJ (n := n) p1
 unfold Ss at he
 split at he
 ·rename_i out0 hev
  cases hb : Nat.beq out0.st.length st.length with
  | true =>
   simp only [hb, cond_true] at he
   cases hc : (!yn an o && Rs (dN o) ops X o fr st (cA ops o fr) out0) && (Ng st (cA ops o fr) && Jl st out0.mv) with
   | false => rw [hc] at he; cases he
   | true =>
    rw [hc] at he
    simp only [cond_true, de] at he
    subst he
    simp only [gZ, Bool.not_eq_true'] at hc
    obtain ⟨⟨c1, c2⟩, c3, c4⟩ := hc
    rw [c1] at hev
    have hw := UH c2 hd
    have hE : U0 P n ops X (o :: l) fr st hs = some (ug o ⟨out0.av, cA ops o fr, cA ops o fr, out0.mv.toList, jJ (bm (cA ops o fr)) 0 st out0.st⟩ fr, cA ops o fr, out0.mv.toList, jJ (bm (cA ops o fr)) 0 st out0.st, out0.ob) := by
     unfold U0
     simp only [Jb, hg, hev, hw, cond_true]
    have hn : ug o ⟨out0.av, cA ops o fr, cA ops o fr, out0.mv.toList, jJ (bm (cA ops o fr)) 0 st out0.st⟩ fr = fr2 := by
     unfold ug
     cases hm : out0.mv with
     | none => rw [hm] at p2; simp only [Option.toList, OD] at p2 ⊢; rw [Dl]; exact p2
     | some m => rw [hm] at p2; simp only [Option.toList, OD] at p2 ⊢; rw [KV]; exact p2
    rw [hn] at hE
    have ht : PQ X ops o fr st out0.mv = (xJ X (cA ops o fr), cA ops o fr ++ out0.mv.toList.map (· + 1000)) := by
     unfold PQ
     unfold Jl at c4
     cases hm : out0.mv with
     | none => rfl
     | some m =>
      rw [hm] at c4
      simp only at c4 ⊢
      split
      ·rename_i hd'; rw [hd'] at c4; cases c4
      ·rfl
    refine GK.of (tw1 := PQ X ops o fr st out0.mv) (fun h2 => ?_) k
    rw [ht]
    exact GX.wr hs fr2 _ _ _ _ hE hob c3 h2
  | false =>
   simp only [hb, cond_false] at he
   split at he
   ·rename_i id b hf hd2
    cases hc : PZ (dN o) ops X id o fr st (cA ops o fr) out0 b && Ng st (id :: cA ops o fr) with
    | false => rw [hc] at he; cases he
    | true =>
     rw [hc] at he
     simp only [cond_true, de] at he
     subst he
     rw [gZ] at hc
     have hw := Up hc.1 hd
     have hdd : st[id]? = some .dead := by
      have h := hc.1
      unfold PZ at h
      simp only [gZ] at h
      exact Fa h.1.2.1.1.1.1
     have hE : Uq P n ops X (yn an o) id (o :: l) fr st hs = some (ug o ⟨yX (E4 st.length id) out0.av, id :: cA ops o fr, id :: cA ops o fr, [id], (jJ (bm (cA ops o fr)) 0 st (out0.st.take st.length)).set id b⟩ fr, id :: cA ops o fr, (jJ (bm (cA ops o fr)) 0 st (out0.st.take st.length)).set id b, out0.ob) := by
      unfold Uq
      simp only [Jb, hg, hev, hd2, hw, cond_true]
     have hn : ug o ⟨yX (E4 st.length id) out0.av, id :: cA ops o fr, id :: cA ops o fr, [id], (jJ (bm (cA ops o fr)) 0 st (out0.st.take st.length)).set id b⟩ fr = fr2 := by
      unfold ug
      simp only [OD] at p2
      rw [← p2]
      simp only
      rw [KV]
     rw [hn] at hE
     have ht : PQ X ops o fr st (some id) = (xJ X (id :: cA ops o fr), (id :: cA ops o fr) ++ [id + 1000]) := by
      unfold PQ
      simp only [hdd]
     refine GK.of (tw1 := PQ X ops o fr st (some id)) (fun h2 => ?_) k
     rw [ht]
     exact GX.new _ id hs fr2 _ _ _ hE hob hc.2 h2
   ·cases he
 ·cases he
theorem Ow {out : AN} {hs : HS} (he : TS P an hs s = some out) (hob : ii out.ob) (hm : Fv n0 lz out.mv = true) (k : XK P n n0 lz Q (Jj n out.av out.st out.mv s)) : XK P n n0 lz Q s := by
 obtain ⟨ks, fr, st, kn⟩ := s
 unfold TS at he
 split at he
 ·rename_i X ops o l tw k' hk
  simp only at hk
  subst hk
  split at he
  ·rename_i hg
   have hg := vO hg
   simp only [Jj, zT, vJ, Jf] at k
   rcases oh (n := n) o.dst out.av (OD out.mv fr) (fun fr' => Bx false o.dst kn fun kn' => (⟨.g X ops l (tw ++ [PQ X ops o fr st out.mv]) :: k', fr', out.st, kn'⟩ : SS)) ⟨.g X ops (o :: l) tw :: k', fr, st, kn⟩ with ⟨fr', hp, e⟩ | e
   ·obtain ⟨kn', ek⟩ := qJ false o.dst kn fun kn' => (⟨.g X ops l (tw ++ [PQ X ops o fr st out.mv]) :: k', fr', out.st, kn'⟩ : SS)
    rw [e, ek] at k
    exact GK.ev hg he hob hp k
   ·rw [e] at k; exact k
  ·cases he
 ·rename_i ops o l k' hk
  simp only at hk
  subst hk
  split at he
  ·rename_i hg
   have hg := vO hg
   simp only [Jj, zT, vJ, Jf] at k
   rcases oh (n := n) o.dst out.av (OD out.mv fr) (fun fr' => Bx false o.dst kn fun kn' => (⟨.o ops l :: k', fr', out.st, kn'⟩ : SS)) ⟨.o ops (o :: l) :: k', fr, st, kn⟩ with ⟨fr', hp, e⟩ | e
   ·obtain ⟨kn', ek⟩ := qJ false o.dst kn fun kn' => (⟨.o ops l :: k', fr', out.st, kn'⟩ : SS)
    rw [e, ek] at k
    have he : ev P (yn an o) o fr st hs = some out := he
    have hg : dD ops o fr = some true := hg
    have h0 : rN P n n0 lz an ops [o] fr st hs = some ⟨.normal, fr', out.st, out.hs, out.ob ++ []⟩ := by simp only [rN, hg, he, hm, cond_true, hp]
    exact XO.run (l := [o]) (rest := l) h0 (by rw [List.append_nil]; exact hob) k
   ·rw [e] at k; exact k
  ·cases he
 ·cases he
theorem Wv {hs hs' : HS} {av av' : AV} {st1 st' : St} {ob : List Prop} {mv : Option Nat} (he : TS P an hs (run P n an s) = some ⟨av, st1, ob, hs', mv⟩) (hob : ii ob) (hm : Fv n0 lz mv = true) (e1 : av = av') (e2 : st1 = st')
  (k : GG P n n0 lz an r Q T (Jj n av' st' mv (run P n an s))) : GG P n n0 lz an r Q T s := by
 subst e1; subst e2
 exact ⟨fun h => cH (an := an) (Ow he hob hm (k h))⟩
def WF (s : SS) : Nat := match s.ks with
 | .g X _ _ _ :: _ => (MU X s.st).getD 0
 | _ => s.st.length
def WU (s : SS) (b : cu) : St := match s.ks with
 | .g X _ _ _ :: _ => s.st.set ((MU X s.st).getD 0) b
 | _ => s.st ++ [b]
def Wk (s : SS) : Option Nat := match s.ks with
 | .g X _ _ _ :: _ => some ((MU X s.st).getD 0)
 | _ => none
theorem QR (E : rS α) (id : Nat) (xs : List α) {ys : List α} {N L : Nat} (k : GG P n n0 lz an r Q x (Jj n (.one (.sl id E.sz 0 (ys ++ xs).length)) ((run P n an s).st.set id (.arr E.sz (E.els (ys ++ xs)))) (some id) (run P n an s))) (hL : L = ys.length := by rfl) (hN : N = xs.length := by rfl)
  (he : TS P an [] (run P n an s) = some ⟨.one (.sl id E.sz 0 (L + (E.els xs).length)), (run P n an s).st.set id (.arr E.sz (E.els ys ++ E.els xs)), [jY E.sz (E.els xs), L = (E.els ys).length, L + (E.els xs).length ≤ 4294967296], [], some id⟩ := by kernel_rfl)
  (hm : Fv n0 lz (some id) = true := by kernel_rfl) : GG P n n0 lz an r Q (pn (ys.length + N ≤ 4294967296) x) s := by
 subst hL; subst hN
 refine ⟨fun h => ?_⟩
 obtain ⟨hp, h⟩ := rq h
 exact Wv he ⟨E.ok _, (E.len _).symm, by rw [E.len]; exact hp, trivial⟩ hm (by rw [E.len, List.length_append]) (by rw [E.app2]) k h
theorem VA (E : rS α) (id : Nat) {ys : List α} {i : Int} {L : Nat} {f : α → Option β} (k : ∀ e, at? ys i = some e → GG P n n0 lz an r Q (f e) (DM n (.one (.pt id E.sz (0 + i.toNat) 0)) (run P n an s))) (hL : L = ys.length := by rfl)
  (he : Ki P (run P n an s) = some (.one (.pt id E.sz (0 + i.toNat) 0), [0 ≤ i ∧ i < ((L : Nat) : Int)]) := by kernel_rfl) : GG P n n0 lz an r Q (au (at? ys i) f) s := by
 subst hL
 refine ⟨fun h => ?_⟩
 obtain ⟨e, ha, h⟩ := xR h
 exact uV _ _ (ob := [_]) ⟨rS.inb' ha, trivial⟩ rfl (k e ha) he h
theorem Xb (E : rS α) (id : Nat) {ys : List α} {i : Int} {e : α} {L : Nat} (ha : at? ys i = some e) (k : GG P n n0 lz an r Q T (DM n (.one (.pt id E.sz (0 + i.toNat) 0)) (run P n an s))) (hL : L = ys.length := by rfl)
  (he : Ki P (run P n an s) = some (.one (.pt id E.sz (0 + i.toNat) 0), [0 ≤ i ∧ i < ((L : Nat) : Int)]) := by kernel_rfl) : GG P n n0 lz an r Q T s := by
 subst hL
 exact uV _ _ (ob := [_]) ⟨rS.inb' ha, trivial⟩ rfl k he
def NF (P : Program) (hs : HS) (s : SS) : Option (AV × List Prop) :=
 match Au s with
 | some (o, f) => bif lL o.op then (match ev P false o f (Fe s) hs with
  | some out => some (out.av, out.ob)
  | none => none) else none
 | none => none
theorem Ql {hs : HS} {av : AV} {ob : List Prop} (he : NF P hs s = some (av, ob)) (hob : ii ob) : ∃ o f, Au s = some (o, f) ∧ Yd P n (Fe s) o f av := by
 unfold NF at he
 split at he
 ·rename_i o f hd
  cases hq : lL o.op with
  | false => simp [hq] at he
  | true =>
   simp only [hq, cond_true] at he
   split at he
   ·rename_i out hev
    simp only [de, pI] at he
    obtain ⟨rfl, rfl⟩ := he
    exact ⟨o, f, hd, Yd.ev hq hev hob⟩
   ·cases he
 ·cases he
def UA (o : Option (AV × List Prop)) : AV := match o with
 | some (av, _) => av
 | none => .j
theorem Vz (E : rS α) {ys : List α} {i : Int} {e : α} (ha : at? ys i = some e) (k : GG P n n0 lz an r Q T (DM n (UA (NF P [E.cells e] (run P n an s))) (run P n an s)))
  (he : NF P [E.cells e] (run P n an s) = some (UA (NF P [E.cells e] (run P n an s)), [(E.els ys)[0 + i.toNat]? = some (E.cells e)]) := by kernel_rfl) : GG P n n0 lz an r Q T s := by
 refine ⟨fun h => ?_⟩
 obtain ⟨o, g, h1, h2⟩ := Ql (n := n) he ⟨E.get0 ha, trivial⟩
 exact cH (an := an) (pM h1 h2 (k h))
theorem W5 (id sz L : Nat) (k : GG P n n0 lz an r Q T (DM n (.one (.sl id sz 0 L)) (run P n an s)))
  (he : Ki P (run P n an s) = some (.one (.sl id sz (0 + (0 : Int).toNat) (((L : Nat) : Int).toNat - (0 : Int).toNat)), [((0 : Int) ≤ 0 ∧ (0 : Int) ≤ ((L : Nat) : Int) ∧ (((L : Nat) : Int) ≤ ((L : Nat) : Int) ∧ ((L : Nat) : Int) ≤ ((L : Nat) : Int))) ∧ ((0 : Int).toNat = 0 ∨ (((0 : Int).toNat : Nat) : Int) < ((L : Nat) : Int))]) := by kernel_rfl) : GG P n n0 lz an r Q T s := by
 have e2 : ((L : Nat) : Int).toNat - (0 : Int).toNat = L := by simp
 rw [e2] at he
 exact uV _ _ (ob := [_]) ⟨⟨⟨by omega, by omega, by omega, by omega⟩, .inl rfl⟩, trivial⟩ rfl k he
theorem W7 (E : rS α) (id : Nat) {ys : List α} {i : Int} {e : α} (ha : at? ys i = some e) (v : α) (k : GG P n n0 lz an r Q T (Jj n .j ((run P n an s).st.set id (.arr E.sz (E.els (ys.set i.toNat v)))) none (run P n an s)))
  (he : TS P an [E.cells e] (run P n an s) = some ⟨.j, (run P n an s).st.set id (.arr E.sz ((E.els ys).set (0 + i.toNat) (E.cells v))), [(E.els ys)[0 + i.toNat]? = some (E.cells e)], [], none⟩ := by kernel_rfl) : GG P n n0 lz an r Q T s :=
 Wv he ⟨E.get0 ha, trivial⟩ rfl rfl (by rw [E.set0]) k
theorem Xj (E : rS α) (v : α) {N M : Int} (k : GG P n n0 lz an r Q x (Jj n (.one (.sl (WF (run P n an s)) E.sz 0 N.toNat)) (WU (run P n an s) (.arr E.sz (E.els (List.replicate N.toNat v)))) (Wk (run P n an s)) (run P n an s)))
  (he : TS P an [] (run P n an s) = some ⟨.one (.sl (WF (run P n an s)) E.sz 0 N.toNat), WU (run P n an s) (.arr E.sz (List.replicate N.toNat (E.cells v))), [0 ≤ N, N ≤ M, M ≤ 4294967296], [], Wk (run P n an s)⟩ := by kernel_rfl) (hm : Fv n0 lz (Wk (run P n an s)) = true := by kernel_rfl) : GG P n n0 lz an r Q (pn (0 ≤ N ∧ N ≤ M ∧ M ≤ 4294967296) x) s := by
 refine ⟨fun h => ?_⟩
 obtain ⟨⟨h1, h2, h3⟩, h⟩ := rq h
 exact Wv he ⟨h1, h2, h3, trivial⟩ hm rfl (by rw [E.rep]) k h
theorem uW (d : Nat) (E : rS α) (xs : List α) (k : GG P n n0 lz an r Q T (DM n (vl E xs) (Ft P n an d s))) (he : Ki P (Ft P n an d s) = some (.one (.pv (.ro (xs.map E.cells))), []) := by kernel_rfl) : GG P n n0 lz an r Q T s := by
 refine ⟨fun h => ?_⟩
 rw [← E.hels] at he
 obtain ⟨o, g, h1, h2⟩ := KA (n := n) he trivial
 exact yH (pM h1 h2 (k h))
def CX (P : Program) (f : Nat) (args : List AV) (sc : St) (lo : List Nat) {β : Type} (T : Option β) (rv : β → AV) (nb : β → St) : Prop := ∀ r, T = some r → MX P f args sc lo (rv r) (nb r)
theorem RZ {f : Nat} {args : List AV} {sc : St} {lo : List Nat} {rv : β → AV} {nb : β → St} (k m n : Nat) (an : List Nat) (fn : Func) (g : ∀ r, GG P n k lo an r (Cw P fn m rv nb r) T ⟨[.c (cd fn [])], TI args, Vh sc, []⟩)
  (hf : P.funcs[f]? = some fn := by kernel_rfl) (hb : fn.body = some (cd fn []) := by kernel_rfl) (hn : fn.ntmps = n := by kernel_rfl) (hl : Nat.ble args.length n = true := by rfl) (hk : sc.length = k := by rfl) (hkm : Nat.ble k m = true := by rfl) : CX P f args sc lo T rv nb := by
 intro r hT
 refine MX.of k m hkm hf hb hn (wv hl) hk ?_
 have := g r hT
 unfold TI Vh at this
 rw [BH, vJ] at this
 refine XW.mono (show XW P n k lo (cd fn []) (QK P n k lo [] (Cw P fn m rv nb r)) (oU args 0) sc from ?_) (fun e f s h => h)
 have e : mc (XW P n k lo (cd fn []) (Cw P fn m rv nb r)) (Cw P fn m rv nb r) .normal (oU args 0) sc := this
 exact e
theorem Xa {f : Nat} {args : List AV} {sc : St} {lo : List Nat} {rv : β → AV} {nb : β → St} (e : T = none) : CX P f args sc lo T rv nb := fun r h => gh e h
theorem XO.calxS (g : Nat) (avs avs0 : List AV) (sc sc' : St) (lo : List Nat) (r : AV) (rs : List Nat) (L : List Nat) (fr' : Fr) (st' : St) (hc : rl P n ops l fr = some (g, avs0)) (b : Bool) (hs : avs0.map (Jd b) = avs.map (yX (ou rs st.length))) (h : MX P g avs sc lo r sc') (hb : KF st.length rs sc sc' avs = true)
  (hL : lo.map (ou rs st.length) = L) (hbx : CD rs L 0 st = true) (hfx : GM n0 lz L = true)
  (hst : rs.map (fun x => st[x]?) = sc.map (fun o => some (th (ou rs st.length) o))) (hst' : fL st rs ((sc'.take sc.length).map (th (ou rs st.length))) ++ (sc'.drop sc.length).map (th (ou rs st.length)) = st') (hput : A0 n l (yX (ou rs st.length) r) (qc (fun id => !bm L id) fr) = some fr')
  (hk : XO P n n0 lz ops (l.drop 1) Q fr' st') : XO P n n0 lz ops l Q fr st := by
 cases l with
 | nil => simp [rl] at hc
 | cons o rest =>
  simp only [rl] at hc
  split at hc
  ·rename_i hg
   intro ι w a hR hF
   obtain ⟨vs, hrun, hA⟩ := yy hc hF
   have hA := hA.soft b
   rw [hs] at hA
   have hw := dJ hg hF
   refine wpList_step fun K hK => ?_
   rw [if_pos hw]
   simp only [Oper.wp, hrun, Oper.upon]
   refine (h.use' rs hb hst (by rw [hL]; exact fun id o ho hn => DI hbx id o ho (by rwa [Nat.zero_add])) hR hA).mono ?_
   rintro e w' ⟨v, ι', rfl, hR', hv, k⟩
   rw [hst', hL] at k
   rw [hst'] at hR' hv
   refine hK _ _ (gc (fun e a w h => h.trans (k.weaken (fun id hf => ?_))) (hk ι' w' _ hR' (nD hput (hF.keep k (q := fun id => !bm L id) (fun id hq _ hm => by rw [gy.2 hm] at hq; cases hq)) hv)))
   intro hm
   have := List.all_eq_true.1 hfx id hm
   have hf' : ut n0 lz id = true := hf
   rw [hf'] at this
   cases this
  ·simp at hc
def WM (n : Nat) (rs lo : List Nat) (len : Nat) (av : AV) (sc' : St) (s : SS) : SS := match s with
 | ⟨.o ops (o :: l) :: k, fr, st, kn⟩ => fA (yX (ou rs st.length) av) fun av => fS (fL st rs ((sc'.take len).map (th (ou rs st.length))) ++ (sc'.drop len).map (th (ou rs st.length))) fun st' => Ge (fun id => !bm (lo.map (ou rs st.length)) id) fr fun fr => Az n o.dst av fr (fun fr' => Bx false o.dst kn fun kn' => ⟨.o ops l :: k, fr', st', kn'⟩) s
 | s => s
theorem Vo (b : Bool) (rs : List Nat) {o : Option α} {f : α → Option β} {g : Nat} {avs : List AV} {sc : St} {lo : List Nat} {rv : α → AV} {nb : α → St} (c : CX P g avs sc lo o rv nb)
  (k : ∀ v, o = some v → GG P n n0 lz an r Q (f v) (WM n rs lo sc.length (rv v) (nb v) (run P n an s)))
  (h1 : cQ b P n (run P n an s) = some (g, avs.map (yX (ou rs (run P n an s).st.length))) := by kernel_rfl) (h2 : ∀ v, KF (run P n an s).st.length rs sc (nb v) avs = true := by intro v; kernel_rfl)
  (h4 : (CD rs (lo.map (ou rs (run P n an s).st.length)) 0 (run P n an s).st && GM n0 lz (lo.map (ou rs (run P n an s).st.length))) = true := by kernel_rfl)
  (h3 : rs.map (fun x => (run P n an s).st[x]?) = sc.map (fun o => some (th (ou rs (run P n an s).st.length) o)) := by kernel_rfl) : GG P n n0 lz an r Q (au o f) s := by
 refine ⟨fun h => ?_⟩
 obtain ⟨v, ho, h⟩ := xR h
 refine cH (an := an) ?_
 have k := k v ho h
 have h2 := h2 v
 generalize run P n an s = s' at *
 obtain ⟨ks, fr, st, kn⟩ := s'
 simp only [gZ] at h4
 unfold cQ at h1
 split at h1
 ·rename_i ops l k' hk
  simp only at hk
  subst hk
  split at h1
  ·rename_i g' avs' hc
   simp only [de, pI] at h1
   obtain ⟨rfl, h1⟩ := h1
   cases l with
   | nil => simp [rl] at hc
   | cons o' l =>
    simp only [WM, zT, vJ, EA] at k
    rcases oh (n := n) o'.dst (yX (ou rs st.length) (rv v)) (qc (fun id => !bm (lo.map (ou rs st.length)) id) fr) (fun fr' => Bx false o'.dst kn fun kn' => (⟨.o ops l :: k', fr', fL st rs (((nb v).take sc.length).map (th (ou rs st.length))) ++ ((nb v).drop sc.length).map (th (ou rs st.length)), kn'⟩ : SS)) ⟨.o ops (o' :: l) :: k', fr, st, kn⟩ with ⟨fr', hp, e⟩ | e
    ·obtain ⟨kn', ek⟩ := qJ false o'.dst kn fun kn' => (⟨.o ops l :: k', fr', fL st rs (((nb v).take sc.length).map (th (ou rs st.length))) ++ ((nb v).drop sc.length).map (th (ou rs st.length)), kn'⟩ : SS)
     rw [e, ek] at k
     exact XO.calxS _ _ _ _ _ _ _ _ _ fr' _ hc b h1 (c v ho) h2 rfl h4.1 h4.2 h3 rfl hp k
    ·rw [e] at k; exact k
  ·cases h1
 ·cases h1
def W1 (id : Nat) (m : Nat) : CV → CV
 | .sl i sz off len => bif Nat.beq i id then .sl i sz off m else .sl i sz off len
 | c => c
def Xd (id m : Nat) : AV → AV
 | .one c => .one (W1 id m c)
 | a => a
def Wc (id m : Nat) : cu → cu
 | .box cs => .box (cs.map (W1 id m))
 | b => b
def VH (id m : Nat) (fr : Fr) : Fr := fr.map fun x => (x.1, Xd id m x.2)
def Wx (id m : Nat) (s : SS) : SS := match s with
 | ⟨ks, fr, st, kn⟩ => fF (VH id m fr) fun fr => fS (st.map (Wc id m)) fun st => ⟨ks, fr, st, kn⟩
theorem WY (id : Nat) {L m : Nat} (h : L = m) (k : GG P n n0 lz an r Q T (Wx id m (run P n an s))) (he : (run P n an s).fr = VH id L (run P n an s).fr := by kernel_rfl) (he' : (run P n an s).st = (run P n an s).st.map (Wc id L) := by kernel_rfl) : GG P n n0 lz an r Q T s := by
 subst h
 refine ⟨fun h => cH (an := an) ?_⟩
 have k := k.go h
 generalize run P n an s = s' at *
 obtain ⟨ks, fr, st, kn⟩ := s'
 simp only [Wx, BH, vJ] at k he he'
 rw [← he, ← he'] at k
 exact k
theorem Xh (id : Nat) {L m : Nat} (k : GG P n n0 lz an r Q x (Wx id m (run P n an s))) (he : (run P n an s).fr = VH id L (run P n an s).fr := by kernel_rfl) (he' : (run P n an s).st = (run P n an s).st.map (Wc id L) := by kernel_rfl) : GG P n n0 lz an r Q (pn (m = L) x) s := by
 refine ⟨fun h => ?_⟩
 obtain ⟨hp, h⟩ := rq h
 exact (WY id hp.symm k he he').go h
theorem Yd.ext {st : St} {o : Oper} {f : Fr} {g : Nat} {vs us : List Value} (hc : Es P o f = some (g, vs)) (h : G4 P g vs (.tuple us.toArray)) (hp : us.all plain = true) : Yd P n st o f (KJ us) := by
 intro ι w a hR hF K Q hK
 have hrun := Ai hc h hF (w := w)
 simp only [Oper.wp, hrun, Oper.upon]
 exact hK _ w ι (Al hp) hR .refl
def Vr (P : Program) (s : SS) : Option (Nat × List Value) := match Au s with
 | some (o, f) => Es P o f
 | none => none
theorem UJ {p : Prop} [Decidable p] {g : Nat} {vs us : List Value} (h : p → G4 P g vs (.tuple us.toArray)) (hp : us.all plain = true) (k : GG P n n0 lz an r Q x (DM n (KJ us) (run P n an s))) (he : Vr P (run P n an s) = some (g, vs)) : GG P n n0 lz an r Q (pn p x) s := by
 refine ⟨fun h' => ?_⟩
 obtain ⟨hp', h'⟩ := rq h'
 unfold Vr at he
 split at he
 ·rename_i o f hd
  exact cH (an := an) (pM hd (Yd.ext he (h hp') hp) (k h'))
 ·cases he
theorem IP {a b c : Int} (g : Nat) (fn : Func) (k : GG P n n0 lz an r Q x (DM n (.tp [.one (.pv (.s (.int .u64 ((a + b + c) % 18446744073709551616)))), .one (.pv (.s (.int .u64 ((a + b + c) / 18446744073709551616))))]) (run P n an s)))
  (he : Vr P (run P n an s) = some (g, [.int .u64 a, .int .u64 b, .int .u64 c]) := by kernel_rfl) (hf : P.funcs[g]? = some fn := by kernel_rfl)
  (hx : ((!(fn.name == "runtime.NumGoroutine") && fn.body.isNone) && (Extern.findNext fn).isNone) = true := by kernel_rfl) (hx' : Extern.find fn = some add64Entry := by kernel_rfl) : GG P n n0 lz an r Q (pn (0 ≤ a ∧ 0 ≤ b ∧ 0 ≤ c ∧ c ≤ 1) x) s := by
 simp only [gZ, Bool.not_eq_true', Option.isNone_iff_eq_none] at hx
 exact UJ (fun h => Mh hf hx.1.1 (by rw [hx.1.2]; rfl) hx.2 hx' h.1 h.2.1 h.2.2.1 h.2.2.2) rfl k he
theorem QJ {a b c : Int} (g : Nat) (fn : Func) (k : GG P n n0 lz an r Q x (DM n (.tp [.one (.pv (.s (.int .u64 ((a - b - c) % 18446744073709551616)))), .one (.pv (.s (.int .u64 (if a < b + c then (1 : Int) else (0 : Int)))))]) (run P n an s)))
  (he : Vr P (run P n an s) = some (g, [.int .u64 a, .int .u64 b, .int .u64 c]) := by kernel_rfl) (hf : P.funcs[g]? = some fn := by kernel_rfl)
  (hx : ((!(fn.name == "runtime.NumGoroutine") && fn.body.isNone) && (Extern.findNext fn).isNone) = true := by kernel_rfl) (hx' : Extern.find fn = some Jy := by kernel_rfl) : GG P n n0 lz an r Q (pn (0 ≤ a ∧ 0 ≤ b ∧ b < 18446744073709551616 ∧ 0 ≤ c ∧ c ≤ 1) x) s := by
 simp only [gZ, Bool.not_eq_true', Option.isNone_iff_eq_none] at hx
 exact UJ (fun h => M1 hf hx.1.1 (by rw [hx.1.2]; rfl) hx.2 hx' h.1 h.2.1 h.2.2.1 h.2.2.2.1 h.2.2.2.2) rfl k he
end
def Rf (b : Bool) (e : Value) : Prop := (b = false ∧ e = .nilIface) ∨ (b = true ∧ ∃ t p, e = .iface t (.pointer p))
theorem Rf.plain {b : Bool} {e : Value} (h : Rf b e) : plain e = true := by
 rcases h with ⟨_, rfl⟩ | ⟨_, t, p, rfl⟩ <;> rfl
section
variable {P : Program} {n n0 : Nat} {lz an : List Nat} {β : Type} {r : β} {Q : QT} {s : SS}
def EM (s : SS) : Bool := match s.ks with
 | .o _ (_ :: _) :: _ => true
 | _ => false
end
def UK : rS PV := .of 1 (fun p => [p]) (fun _ => rfl)
def PU : Uo Value := ⟨fun v => v⟩
theorem Gn (v : Value) : PU.enc v = v := rfl
def By (ag : Bool) (l : List Value) : Value := if ag then .agg l.toArray else l.headD (.bool false)
section
variable {κ α : Type} (K : M3 κ) (E : rS α) (ag : Bool)
def MV (sz : Nat) (ag : Bool) : List κ → List Value → List (κ × Value)
 | [], _ => []
 | k :: ks, vs => (k, By ag (vs.take sz)) :: MV sz ag ks (vs.drop sz)
def fl (m : List (κ × α)) : List PV := (m.map fun x => E.cells x.2).flatten
def pK (m : List (κ × α)) : List κ := m.map (·.1)
def rK (m : List (κ × α)) : cu := .rel (fun o vs => vs.length = (pK m).length * E.sz ∧ o = xl K PU (MV E.sz ag (pK m) vs)) (fl E m)
variable {μ : Nat → Prop} {w : World}
theorem HJ {vs : List Value} {p q : List PV} (h : PL μ w vs (p ++ q)) : PL μ w (vs.take p.length) p ∧ PL μ w (vs.drop p.length) q := by
 obtain ⟨hl, h⟩ := h
 rw [List.length_append] at hl
 refine ⟨⟨by rw [List.length_take]; omega, fun j v c h1 h2 => ?_⟩, ⟨by rw [List.length_drop]; omega, fun j v c h1 h2 => ?_⟩⟩
 ·have hj := (nC.1 h2).1
  rw [List.getElem?_take_of_lt hj] at h1
  exact h j v c h1 (by rw [Ay hj]; exact h2)
 ·rw [List.getElem?_drop] at h1
  exact h (p.length + j) v c h1 (by rw [List.getElem?_append_right (by omega)]; simpa using h2)
theorem La {vs us : List Value} {p q : List PV} (h : PL μ w vs p) (k : PL μ w us q) : PL μ w (vs ++ us) (p ++ q) := by
 refine ⟨by rw [List.length_append, List.length_append, h.1, k.1], fun j v c h1 h2 => ?_⟩
 rcases Nat.lt_or_ge j vs.length with hj | hj
 ·rw [Ay hj] at h1
  rw [Ay (by rw [← h.1]; exact hj)] at h2
  exact h.2 j v c h1 h2
 ·rw [List.getElem?_append_right hj] at h1
  rw [List.getElem?_append_right (by rw [← h.1]; exact hj)] at h2
  rw [← h.1] at h2
  exact k.2 _ v c h1 h2
theorem Gq (k : κ) (a : α) (m : List (κ × α)) : fl E ((k, a) :: m) = E.cells a ++ fl E m := rfl
theorem Tc (m : List (κ × α)) : (fl E m).length = (pK m).length * E.sz := by
 induction m with
 | nil => simp [fl, pK]
 | cons x m ih =>
  obtain ⟨k, a⟩ := x
  rw [Gq, List.length_append, ih, E.hsz]
  simp [pK, Nat.succ_mul, Nat.add_comm]
theorem NK : ∀ (m : List (κ × α)) (vs : List Value) (k : κ), PL μ w vs (fl E m) →
  match iJ K m k with
  | none => iJ K (MV E.sz ag (pK m) vs) k = none
  | some a => ∃ l, iJ K (MV E.sz ag (pK m) vs) k = some (By ag l) ∧ PL μ w l (E.cells a)
 | [], vs, k, h => rfl
 | (k', a) :: m, vs, k, h => by
  rw [Gq] at h
  obtain ⟨h1, h2⟩ := HJ h
  rw [E.hsz] at h1 h2
  have ih := NK m (vs.drop E.sz) k h2
  show match iJ K ((k', a) :: m) k with
   | none => iJ K ((k', By ag (vs.take E.sz)) :: MV E.sz ag (pK m) (vs.drop E.sz)) k = none
   | some a => ∃ l, iJ K ((k', By ag (vs.take E.sz)) :: MV E.sz ag (pK m) (vs.drop E.sz)) k = some (By ag l) ∧ PL μ w l (E.cells a)
  simp only [iJ]
  cases hq : K.eq k k' with
  | true => exact ⟨vs.take E.sz, rfl, h1⟩
  | false => exact ih
theorem Pk : ∀ (m : List (κ × α)) (vs l : List Value) (k : κ) (a : α), PL μ w vs (fl E m) → PL μ w l (E.cells a) →
  ∃ vs', PL μ w vs' (fl E (jQ K m k a)) ∧ MV E.sz ag (pK (jQ K m k a)) vs' = jQ K (MV E.sz ag (pK m) vs) k (By ag l)
 | [], vs, l, k, a, h, hl => by
  refine ⟨l, ?_, ?_⟩
  ·show PL μ w l (E.cells a ++ [])
   rw [List.append_nil]; exact hl
  ·show [(k, By ag (l.take E.sz))] = [(k, By ag l)]
   rw [List.take_of_length_le (by rw [hl.1, E.hsz]; exact gO _)]
 | (k', a') :: m, vs, l, k, a, h, hl => by
  rw [Gq] at h
  obtain ⟨h1, h2⟩ := HJ h
  rw [E.hsz] at h1 h2
  have hll : l.length = E.sz := by rw [hl.1, E.hsz]
  show ∃ vs', PL μ w vs' (fl E (if K.eq k k' then (k, a) :: m else (k', a') :: jQ K m k a)) ∧ MV E.sz ag (pK (if K.eq k k' then (k, a) :: m else (k', a') :: jQ K m k a)) vs' = (if K.eq k k' then (k, By ag l) :: MV E.sz ag (pK m) (vs.drop E.sz) else (k', By ag (vs.take E.sz)) :: jQ K (MV E.sz ag (pK m) (vs.drop E.sz)) k (By ag l))
  cases hq : K.eq k k' with
  | true =>
   refine ⟨l ++ vs.drop E.sz, La hl h2, ?_⟩
   show (k, By ag ((l ++ vs.drop E.sz).take E.sz)) :: MV E.sz ag (pK m) ((l ++ vs.drop E.sz).drop E.sz) = _
   rw [List.take_left' hll, List.drop_left' hll]
   rfl
  | false =>
   obtain ⟨vs', g1, g2⟩ := Pk m (vs.drop E.sz) l k a h2 hl
   have ht : (vs.take E.sz).length = E.sz := by rw [h1.1, E.hsz]
   refine ⟨vs.take E.sz ++ vs', La h1 g1, ?_⟩
   show (k', By ag ((vs.take E.sz ++ vs').take E.sz)) :: MV E.sz ag (pK (jQ K m k a)) ((vs.take E.sz ++ vs').drop E.sz) = _
   rw [List.take_left' ht, List.drop_left' ht, g2]
   rfl
def Rz (a : α) : AV := if ag then .ag ((E.cells a).map .pv) else .one (.pv ((E.cells a).headD (.s (.bool false))))
theorem Po {ι : IM} {st : St} {l : List Value} {a : α} (h1 : ag = true ∨ E.sz = 1) (h : PL (lI ι st) w l (E.cells a)) : a8 ι w st (By ag l) (Rz E ag a) := by
 unfold By Rz
 cases hag : ag with
 | true =>
  simp only [if_true]
  refine .ag _ _ ⟨by rw [h.1, List.length_map], fun j v c h2 h3 => ?_⟩
  rw [List.getElem?_map] at h3
  cases hp : (E.cells a)[j]? with
  | none => rw [hp] at h3; cases h3
  | some p =>
   rw [hp] at h3
   cases h3
   exact .pv _ _ (h.2 j v p h2 hp)
 | false =>
  have hs : E.sz = 1 := by rcases h1 with h' | h'; rw [hag] at h'; cases h'; exact h'
  have hl := E.hsz a
  rw [hs] at hl
  simp only [Bool.false_eq_true, if_false]
  match hc : E.cells a, hl with
  | [p], _ =>
   rw [hc] at h
   match l, h.1 with
   | [v], _ => exact .one _ _ (.pv _ _ (h.2 0 v p rfl rfl))
theorem SI {ι : IM} {st : St} {v : Value} {a : α} (h1 : ag = true ∨ E.sz = 1) (h : a8 ι w st v (Rz E ag a)) : ∃ l, v = By ag l ∧ PL (lI ι st) w l (E.cells a) := by
 unfold Rz at h
 unfold By
 cases hag : ag with
 | true =>
  rw [hag] at h
  simp only [if_true] at h ⊢
  cases h with
  | ag vs cs h =>
   refine ⟨vs, rfl, by rw [h.1, List.length_map], fun j v p h2 h3 => ?_⟩
   have := h.2 j v (.pv p) h2 (by rw [List.getElem?_map, h3]; rfl)
   cases this with
   | pv _ _ h => exact h
 | false =>
  rw [hag] at h
  have hs : E.sz = 1 := by rcases h1 with h' | h'; rw [hag] at h'; cases h'; exact h'
  have hl := E.hsz a
  rw [hs] at hl
  simp only [Bool.false_eq_true, if_false] at h ⊢
  match hc : E.cells a, hl with
  | [p], _ =>
   rw [hc] at h
   cases h with
   | one _ _ h =>
    cases h with
    | pv _ _ h => exact ⟨[v], rfl, rfl, fun j x q h2 h3 => by
     match j with
     | 0 => simp at h2 h3; subst h2; subst h3; exact h
     | j + 1 => simp at h2⟩
end
section
variable {P : Program} {n n0 : Nat} {lz an : List Nat} {β : Type} {r : β} {Q : QT} {s : SS} {T : Option β}
theorem Jp {av : AV} {st' : St} (hs : EM s = true)
  (step : ∀ (ops : Array Oper) (o : Oper) (l : List Oper) (Q' : QT) (fr' : Fr), (∃ ks, s.ks = .o ops (o :: l) :: ks) → xB n o.dst av s.fr = some fr' → XO P n n0 lz ops l Q' fr' st' → XO P n n0 lz ops (o :: l) Q' s.fr s.st)
  (k : XK P n n0 lz Q (Jj n av st' none s)) : XK P n n0 lz Q s := by
 obtain ⟨ks, fr, st, kn⟩ := s
 match ks, hs with
 | .o ops (o :: l) :: ks, hs =>
  simp only [Jj, zT, vJ, Jf] at k
  rcases oh (n := n) o.dst av (OD none fr) (fun fr' => Bx false o.dst kn fun kn' => (⟨.o ops l :: ks, fr', st', kn'⟩ : SS)) ⟨.o ops (o :: l) :: ks, fr, st, kn⟩ with ⟨fr', hp, e⟩ | e
  ·obtain ⟨kn', ek⟩ := qJ false o.dst kn fun kn' => (⟨.o ops l :: ks, fr', st', kn'⟩ : SS)
   rw [e, ek] at k
   exact step ops o l _ fr' ⟨ks, rfl⟩ hp k
  ·rw [e] at k; exact k
def TT (s : SS) : Bool := match s.ks with
 | .o ops (o :: l) :: _ => Hg ops (o :: l) s.fr
 | _ => false
section
variable {κ α : Type} (K : M3 κ) (E : rS α) (ag : Bool)
theorem Nw (hs : EM s = true) (he : TT s = true) (k : XK P n n0 lz Q (Jj n (.one (.mp s.st.length)) (s.st ++ [rK K E ag []]) none s)) : XK P n n0 lz Q s := by
 refine Jp hs (fun ops o l Q' fr' hks hput hk => ?_) k
 obtain ⟨ks, fr, st, kn⟩ := s
 obtain ⟨ks', hks⟩ := hks
 simp only at hks
 subst hks
 have hc : Hg ops (o :: l) fr = true := he
 simp only [Hg] at hc
 split at hc
 ·rename_i hg
  cases hop : o.op <;> simp only [hop] at hc <;> try (cases hc; done)
  rename_i t x
  cases x with
  | some x => simp at hc
  | none =>
   intro ι w a hR hF
   have hw := dJ hg hF
   have hrun : (execOp a.eval o).run P w = .ok (.value (.map (some w.heap.size))) (w.alloc (.map #[] 0)) := by
    simp [execOp, hop, Instr.makeMap]
   have hO : rH (ι.add st.length (some w.heap.size)) (w.alloc (.map #[] 0)) (st ++ [rK K E ag []]) st.length (rK K E ag []) :=
    ⟨w.heap.size, .map #[] 0, [], by simp [IM.add], eH w _, ⟨by simp [pK], rfl⟩, rfl, fun j v p h => by simp at h⟩
   have hR' : hI (ι.add st.length (some w.heap.size)) (w.alloc (.map #[] 0)) (st ++ [rK K E ag []]) :=
    hR.add (rR.alloc w _) (fun x e => by cases e; exact gO _) hO
   have k : bY all ι w st (ι.add st.length (some w.heap.size)) (w.alloc (.map #[] 0)) (st ++ [rK K E ag []]) :=
    vj (rR.alloc w _) _ _ (fun x e => by cases e; exact gO _)
   have hres : a8 (ι.add st.length (some w.heap.size)) (w.alloc (.map #[] 0)) (st ++ [rK K E ag []]) (.map (some w.heap.size)) (.one (.mp st.length)) :=
    .one _ _ (dj.mp st.length w.heap.size (by simp) (by simp [IM.add]))
   refine wpList_step fun K' hK => ?_
   rw [if_pos hw]
   simp only [Oper.wp, hrun, Oper.upon]
   exact hK _ _ (gc (fun e a w h => h.trans (k.weaken (fun _ _ => trivial))) (hk _ _ _ hR' (nD hput (hF.mono' k) hres)))
 ·simp at hc
theorem WN (k : GG P n n0 lz an r Q T (Jj n (.one (.mp (run P n an s).st.length)) ((run P n an s).st ++ [rK K E ag []]) none (run P n an s)))
  (he : TT (run P n an s) = true := by kernel_rfl) (hs : EM (run P n an s) = true := by kernel_rfl) : GG P n n0 lz an r Q T s :=
 ⟨fun h => cH (an := an) (Nw K E ag hs he (k.go h))⟩
def Jo (P : Program) (s : SS) : Option (Nat × Value × TypeId × TypeId × Bool) := match s.ks with
 | .o ops (o :: _) :: _ => (match dD ops o s.fr with
  | some true => (match o.op with
   | .lookup t x i ok => (match P.underlying t with
    | some (.map kt et) => (match rv s.fr x, rv s.fr i with
     | .one (.mp id), .one (.pv (.s v)) => some (id, v, kt, et, ok)
     | _, _ => none)
    | _ => none)
   | _ => none)
  | _ => none)
 | _ => none
def Vs : Value → PV → Bool
 | .int k n, .s (.int k' n') => k == k' && n == n'
 | .bool b, .s (.bool b') => b == b'
 | .string s, .s (.string s') => s.size == 0 && s'.size == 0
 | .slice none 0 0, .ro [] => true
 | _, _ => false
theorem Lt {μ : Nat → Prop} {w : World} {v : Value} {p : PV} (h : Vs v p = true) : gS μ w v p := by
 unfold Vs at h
 split at h
 ·rename_i k n k' n'
  obtain ⟨h1, h2⟩ := Bool.and_eq_true_iff.1 h
  have e1 : k = k' := by simpa using h1
  have e2 : n = n' := by simpa using h2
  subst e1 e2
  exact .s _ rfl
 ·rename_i b b'
  have e1 : b = b' := by simpa using h
  subst e1
  exact .s _ rfl
 ·rename_i s s'
  obtain ⟨h1, h2⟩ := Bool.and_eq_true_iff.1 h
  have e1 : s.size = 0 := by simpa using h1
  have e2 : s'.size = 0 := by simpa using h2
  have e : s = s' := ByteArray.ext (by rw [Array.eq_empty_of_size_eq_zero e1, Array.eq_empty_of_size_eq_zero e2])
  subst e
  exact .s _ rfl
 ·exact .nl
 ·cases h
def Vl (P : Program) (ag : Bool) (et : TypeId) (ps : List PV) : Bool := match (P.info? et).bind (·.zero) with
 | some v => (match ag, v with
  | true, .agg a => a.toList.length == ps.length && (a.toList.zip ps).all fun x => Vs x.1 x.2
  | false, v => (match ps with
   | [p] => Vs v p
   | _ => false)
  | _, _ => false)
 | none => false
theorem TA {ag : Bool} {et : TypeId} {ps : List PV} (h : Vl P ag et ps = true) : ∃ zv, (P.info? et).bind (·.zero) = some zv ∧ ∃ l, zv = By ag l ∧ ∀ (μ : Nat → Prop) (w : World), PL μ w l ps := by
 unfold Vl at h
 split at h
 ·rename_i v hv
  refine ⟨v, hv, ?_⟩
  split at h
  ·rename_i a
   obtain ⟨h1, h2⟩ := Bool.and_eq_true_iff.1 h
   have h1 : a.toList.length = ps.length := by simpa using h1
   refine ⟨a.toList, by simp [By], fun μ w => ⟨h1, fun j v p e1 e2 => ?_⟩⟩
   refine Lt (List.all_eq_true.1 h2 (v, p) ?_)
   refine List.mem_iff_getElem?.2 ⟨j, ?_⟩
   rw [List.getElem?_zip_eq_some]
   exact ⟨e1, e2⟩
  ·split at h
   ·rename_i p
    refine ⟨[v], by simp [By], fun μ w => ⟨rfl, fun j x q e1 e2 => ?_⟩⟩
    match j with
    | 0 => simp at e1 e2; subst e1; subst e2; exact Lt h
    | j + 1 => simp at e1
   ·cases h
  ·cases h
 ·cases h
def WP (ok : Bool) (a : AV) (b : Bool) : AV := match ok with
 | true => .tp [a, .one (.pv (.s (.bool b)))]
 | false => a
theorem Hy (id : Nat) (m : List (κ × α)) (k0 : κ) (z : α) (kt et : TypeId) (ok : Bool) (hag : ag = true ∨ E.sz = 1) (hs : EM s = true) (he : Jo P s = some (id, K.enc k0, kt, et, ok)) (hkt : P.underlying kt = some K.desc)
  (hzo : Vl P ag et (E.cells z) = true) (ho : s.st[id]? = some (rK K E ag m))
  (k : XK P n n0 lz Q (Jj n (WP ok (Rz E ag ((iJ K m k0).getD z)) (iJ K m k0).isSome) s.st none s)) : XK P n n0 lz Q s := by
 refine Jp hs (fun ops o l Q' fr' hks hput hk => ?_) k
 obtain ⟨ks, fr, st, kn⟩ := s
 obtain ⟨ks', hks⟩ := hks
 simp only at hks
 subst hks
 simp only [Jo] at he
 split at he
 ·rename_i hg
  split at he
  ·rename_i t x i ok' hop
   split at he
   ·rename_i kt' et' hu
    split at he
    ·rename_i id' v hx hi
     simp only [de, pI] at he
     obtain ⟨rfl, rfl, rfl, rfl, rfl⟩ := he
     intro ι w a hR hF
     have h1 := df hF x
     rw [hx] at h1
     obtain ⟨b, hv, hid, hb⟩ := Nl h1
     have h2 := df hF i
     rw [hi] at h2
     have hiv := bU h2
     obtain ⟨b', o', vs, e1, e2, ⟨e3, rfl⟩, e4⟩ := hR.obj id' _ ho
     rw [hb] at e1; cases e1
     have hw := dJ hg hF
     obtain ⟨zv, hz, zl, hzl, hzp⟩ := TA hzo
     obtain ⟨inf, hinf, hzero⟩ := Option.bind_eq_some_iff.1 hz
     have hmv := NK K E ag m vs k0 e4
     have hres : ∃ l, (execOp a.eval o).run P w = .ok (.value (if ok' then .tuple #[By ag l, .bool (iJ K m k0).isSome] else By ag l)) w ∧ PL (lI ι st) w l (E.cells ((iJ K m k0).getD z)) := by
      have hpos := Ez K (MV E.sz ag (pK m) vs) k0
      have hf := IG (P := P) K PU hkt (MV E.sz ag (pK m) vs) k0 w
      cases hmg : iJ K m k0 with
      | none =>
       rw [hmg] at hmv
       simp only at hmv
       rw [hmv] at hpos
       have hp : xV K (MV E.sz ag (pK m) vs) k0 = none := by cases h : xV K (MV E.sz ag (pK m) vs) k0 <;> simp [h] at hpos ⊢
       rw [hp] at hf
       refine ⟨zl, ?_, hzp _ _⟩
       rw [← hzl]
       simp only [execOp, hop, hv, hiv, Instr.lookup]
       cases ok' <;> simp [run_underlying hu, getObj, Sem.run, e2, xl, K.flat P _ _ k0 w hkt, hf, Result.andThen, BY hinf hzero]
      | some e =>
       rw [hmg] at hmv
       simp only at hmv
       obtain ⟨l, hl1, hl2⟩ := hmv
       rw [hl1] at hpos
       cases hp : xV K (MV E.sz ag (pK m) vs) k0 with
       | none => rw [hp] at hpos; simp at hpos
       | some j =>
        rw [hp, hl1] at hf
        refine ⟨l, ?_, hl2⟩
        simp only [execOp, hop, hv, hiv, Instr.lookup]
        cases ok' <;> simp [run_underlying hu, getObj, Sem.run, e2, xl, K.flat P _ _ k0 w hkt, hf, Result.andThen, Gn]
     obtain ⟨l, hrun, hl⟩ := hres
     refine wpList_step fun K' hK => ?_
     rw [if_pos hw]
     simp only [Oper.wp, hrun, Oper.upon]
     refine hK _ _ (hk _ _ _ hR (nD hput hF ?_))
     cases ok' with
     | false => exact Po E ag hag hl
     | true =>
      refine a8.tp [By ag l, .bool (iJ K m k0).isSome] _ rfl (fun j v a h1 h2 => ?_)
      match j with
      | 0 => simp at h1 h2; subst h1; subst h2; exact Po E ag hag hl
      | 1 => simp at h1 h2; subst h1; subst h2; exact .one _ _ (.pv _ _ (.s _ rfl))
      | j + 2 => simp at h1
    ·cases he
   ·cases he
  ·cases he
 ·cases he
theorem Wh (id : Nat) {m : List (κ × α)} {k0 : κ} (z : α) (kt et : TypeId) (ok : Bool) {f : α → Option β}
  (k : ∀ u, some ((iJ K m k0).getD z) = some u → GG P n n0 lz an r Q (f u) (Jj n (WP ok (Rz E ag u) (iJ K m k0).isSome) (run P n an s).st none (run P n an s)))
  (he : Jo P (run P n an s) = some (id, K.enc k0, kt, et, ok) := by kernel_rfl) (ho : (run P n an s).st[id]? = some (rK K E ag m) := by kernel_rfl)
  (hs : EM (run P n an s) = true := by kernel_rfl) (hzo : Vl P ag et (E.cells z) = true := by kernel_rfl) (hag : ag = true ∨ E.sz = 1 := by first | exact .inl rfl | exact .inr rfl) (hkt : P.underlying kt = some K.desc := by kernel_rfl) : GG P n n0 lz an r Q (au (some ((iJ K m k0).getD z)) f) s :=
 ⟨fun h => cH (an := an) (Hy K E ag id m k0 z kt et ok hag hs he hkt hzo ho ((k _ rfl).go h))⟩
def Sn (P : Program) (s : SS) : Option (Nat × Value × AV × TypeId) := match s.ks with
 | .o ops (o :: _) :: _ => (match dD ops o s.fr with
  | some true => (match o.dst, o.op with
   | none, .mapUpdate t x i y => (match P.underlying t with
    | some (.map kt et) => (match rv s.fr x, rv s.fr i with
     | .one (.mp id), .one (.pv (.s v)) => some (id, v, rv s.fr y, kt)
     | _, _ => none)
    | _ => none)
   | _, _ => none)
  | _ => none)
 | _ => none
theorem M5 (id : Nat) (m : List (κ × α)) (k0 : κ) (u : α) (kt : TypeId) (hag : ag = true ∨ E.sz = 1) (hs : EM s = true) (he : Sn P s = some (id, K.enc k0, Rz E ag u, kt)) (hkt : P.underlying kt = some K.desc)
  (ho : s.st[id]? = some (rK K E ag m)) (k : XK P n n0 lz Q (Jj n .j (s.st.set id (rK K E ag (jQ K m k0 u))) none s)) : XK P n n0 lz Q s := by
 refine Jp hs (fun ops o l Q' fr' hks hput hk => ?_) k
 obtain ⟨ks, fr, st, kn⟩ := s
 obtain ⟨ks', hks⟩ := hks
 simp only at hks
 subst hks
 simp only [Sn] at he
 split at he
 ·rename_i hg
  split at he
  ·rename_i t x i y hdst hop
   split at he
   ·rename_i kt' et' hu
    split at he
    ·rename_i id' v hx hi
     simp only [de, pI] at he
     obtain ⟨rfl, rfl, hy, rfl⟩ := he
     intro ι w a hR hF
     have h1 := df hF x
     rw [hx] at h1
     obtain ⟨b, hv, hid, hb⟩ := Nl h1
     have h2 := df hF i
     rw [hi] at h2
     have hiv := bU h2
     have h3 := df hF y
     rw [hy] at h3
     obtain ⟨el, hyv, hel⟩ := SI E ag hag h3
     obtain ⟨b', o', vs, e1, e2, ⟨e3, rfl⟩, e4⟩ := hR.obj id' _ ho
     rw [hb] at e1; cases e1
     have hw := dJ hg hF
     have hbl := dT e2
     obtain ⟨vs', g1, g2⟩ := Pk K E ag m vs el k0 u e4 hel
     have hrun : (execOp a.eval o).run P w = .ok .skip { w with heap := w.heap.setIfInBounds b (xl K PU (jQ K (MV E.sz ag (pK m) vs) k0 (By ag el))) } := by
      have hpos := Ez K (MV E.sz ag (pK m) vs) k0
      have hf := IG (P := P) K PU hkt (MV E.sz ag (pK m) vs) k0 w
      simp only [execOp, hop, hv, hiv, hyv, Instr.mapUpdate]
      cases hp : xV K (MV E.sz ag (pK m) vs) k0 with
      | none =>
       rw [hp] at hf
       have e3 := FJ K PU (MV E.sz ag (pK m) vs) k0 (By ag el) 0 hp
       have e4 := AW K (MV E.sz ag (pK m) vs) k0 (By ag el) hp
       simp [run_underlying hu, getObj, setObj, Sem.run, e2, xl, K.flat P _ _ k0 w hkt, hf, Result.andThen, e3, e4, Gn]
      | some j =>
       rw [hp] at hpos hf
       cases hq : iJ K (MV E.sz ag (pK m) vs) k0 with
       | none => simp [hq] at hpos
       | some u' =>
        rw [hq] at hf
        obtain ⟨e, g1, ⟨k', g2, g3⟩, g4, g5⟩ := FL K PU (MV E.sz ag (pK m) vs) k0 (By ag el) 0 j hp
        have hs := K.bits k0 k' g3
        simp [run_underlying hu, getObj, setObj, Sem.run, e2, xl, K.flat P _ _ k0 w hkt, hf, Result.andThen, g1, g2, Instr.keyThatStays, hs, g4, g5, Gn]
     have hwr : CB w { w with heap := w.heap.setIfInBounds b (xl K PU (jQ K (MV E.sz ag (pK m) vs) k0 (By ag el))) } b := by
      refine ⟨rfl, rfl, rfl, by simp, fun y hy => ?_, fun c ty fz h => ?_⟩
      ·simp [Array.getElem?_setIfInBounds, Ne.symm hy]
      ·rw [e2] at h; simp [xl] at h
     have ha : cu.alive (rK K E ag m) := by simp [cu.alive, rK]
     have kk := qO (body' := rK K E ag (jQ K m k0 u)) ho ha hb hwr
     have hO : rH ι { w with heap := w.heap.setIfInBounds b (xl K PU (jQ K (MV E.sz ag (pK m) vs) k0 (By ag el))) } (st.set id' (rK K E ag (jQ K m k0 u))) id' (rK K E ag (jQ K m k0 u)) := by
      refine ⟨b, xl K PU (jQ K (MV E.sz ag (pK m) vs) k0 (By ag el)), vs', hb, ?_, ⟨?_, by rw [← g2]⟩, ?_⟩
      ·have : b < w.heap.size := hbl
       simp [Array.getElem?_setIfInBounds, this]
      ·have := g1.1
       rw [this, Tc]
      ·exact g1.map fun _ _ h => kk.pure h
     have hR' := hR.set (body' := rK K E ag (jQ K m k0 u)) ho ha hb hwr hO
     refine wpList_step fun K' hK => ?_
     rw [if_pos hw]
     simp only [Oper.wp, hrun, Oper.upon]
     refine hK _ _ (gc (fun e a w h => h.trans (kk.weaken (fun _ _ => trivial))) (hk _ _ _ hR' ?_))
     have hfr : fr' = fr := by
      rw [hdst] at hput
      exact (Option.some.inj hput).symm
     rw [hdst, hfr]
     exact hF.mono' kk
    ·cases he
   ·cases he
  ·cases he
 ·cases he
theorem WX (id : Nat) {m : List (κ × α)} {k0 : κ} {u : α} (kt : TypeId)
  (k : GG P n n0 lz an r Q T (Jj n .j ((run P n an s).st.set id (rK K E ag (jQ K m k0 u))) none (run P n an s)))
  (he : Sn P (run P n an s) = some (id, K.enc k0, Rz E ag u, kt) := by kernel_rfl) (ho : (run P n an s).st[id]? = some (rK K E ag m) := by kernel_rfl)
  (hs : EM (run P n an s) = true := by kernel_rfl) (hag : ag = true ∨ E.sz = 1 := by first | exact .inl rfl | exact .inr rfl) (hkt : P.underlying kt = some K.desc := by kernel_rfl) : GG P n n0 lz an r Q T s :=
 ⟨fun h => cH (an := an) (M5 K E ag id m k0 u kt hag hs he hkt ho (k.go h))⟩
end
end
end Go.SX
namespace Go.SX
open Go
variable {P : Program} {n n0 : Nat} {lz an : List Nat} {Q Q1 : QT} {α β : Type} {T x y : Option β} {r : β} {s : SS}
def S3 : Nat → Nat → List Nat → List Nat
 | 0, _, a => a
 | g + 1, q, a => bif Nat.beq q 1 then a else S3 g (Nat.div q 2) (Nat.mod q 2 :: a)
abbrev kP (fn : Func) (q m : Nat) : List It := kS fn (S3 99 q []) m
abbrev cP (fn : Func) (q : Nat) : Code := cd fn (S3 99 q [])
theorem cW (fn : Func) (q m : Nat) (h : ∀ K : KP n n0 lz, (∀ {γ : Type} {T1 : Option γ} {r1 : γ} {f : Fr} {st : St}, T1 = some r1 → GG P n n0 lz an r1 Q T1 ⟨kP fn q m, f, st, []⟩ → K.p f st) → GG P n n0 lz an r (mc K.p (QK P n n0 lz (kP fn q m) Q)) T (TH (kP fn q m) (run P n an s)))
 (he : Ip (kP fn q m) (run P n an s).ks = kP fn q m := by kernel_rfl) (ht : xU (kP fn q m) = true := by kernel_rfl) : GG P n n0 lz an r Q T s := uQ _ h he ht
theorem jL (fn : Func) (q m : Nat) (A : Option β) (fr : Fr) (st : St) (g : GG P n n0 lz an r Q A ⟨kP fn q m, fr, st, []⟩) (h : ∀ K : KP n n0 lz, (A = some r → K.p fr st) → GG P n n0 lz an r (mc K.p (QK P n n0 lz (kP fn q m) Q)) T (TH (kP fn q m) (run P n an s)))
 (he : Ip (kP fn q m) (run P n an s).ks = kP fn q m := by kernel_rfl) (ht : xU (kP fn q m) = true := by kernel_rfl) : GG P n n0 lz an r Q T s := uQ _ (fun K k => h K fun hA => k hA g) he ht
theorem gv (fn : Func) (q m : Nat) (h : ∀ (R : Nat → KP n n0 lz), (∀ {γ : Type} {T1 : Option γ} {r1 : γ} {j : Nat} {f : Fr} {st : St}, T1 = some r1 → GG P n n0 lz an r1 (mc (R j).p (QK P n n0 lz (kP fn q m) Q)) T1 ⟨[.c (cP fn (2 * q))], f, st, []⟩ → (R (j + 1)).p f st) →
  T = some r → (R aQ).p (run P n an s).fr (run P n an s).st)
 (he : Wr (run P n an s) = some (cP fn (2 * q), kP fn q m) := by kernel_rfl) : GG P n n0 lz an r Q T s := uO _ _ h he
theorem uz {fn : Func} {rv : β → AV} {v : β} (h1 : Vn (run P n an s) = some .ret := by kernel_rfl) (he : US P fn (run P n an s) (rv v) = some (rv v) := by kernel_rfl) : GG P n n0 lz an r (JA P fn rv r) (some v) s := uR .ret (xF he) h1
theorem jf {R R' : Fr → St → Prop} {k k' : List It} {fn : Func} {rv : β → AV} {v : β} (h1 : Vn (run P n an s) = some .ret := by kernel_rfl) (he : US P fn (run P n an s) (rv v) = some (rv v) := by kernel_rfl) :
 GG P n n0 lz an r (mc R (QK P n n0 lz k (mc R' (QK P n n0 lz k' (JA P fn rv r))))) (some v) s := uR .ret (xN (xN (xF he))) h1
theorem bf {α : Type} {o : Option α} {f : α → Option β} {g : Nat} {avs : List AV} {rv : α → AV} (c : CT P g avs o rv) (k : ∀ v, GG P n n0 lz an r Q (f v) (DM n (rv v) (run P n an s)))
 (he : VQ P (run P n an s) = some (g, avs) := by kernel_rfl) (hr : ∀ v, wM (rv v) = true := by intro v; kernel_rfl) : GG P n n0 lz an r Q (au o f) s := uP c (fun v _ => k v) he hr
theorem dR (E : rS α) {xs : List α} {i : Int} {f : α → Option β} (k : ∀ e, GG P n n0 lz an r Q (f e) (DM n (.one (.pv (.rp [E.cells e] 0 0))) (run P n an s)))
 (he : OX P (run P n an s) = some (E.els xs, i, E.sz) := by kernel_rfl) : GG P n n0 lz an r Q (au (at? xs i) f) s := uL E (fun e _ => k e) he
theorem uI {m : Nat → Prop} (z : m 0) (t : ∀ k, m k → m (k + 1)) : ∀ k, m k
 | 0 => z
 | k + 1 => t k (uI z t k)
abbrev vQ (q : Nat) : AV := .one (.pt q 0 0 0)
abbrev vR (x : List PV) : AV := .one (.pv (.rp [x] 0 0))
end Go.SX
namespace Go.SX
open Go
structure bW where
 neg : Bool
 size : Int × Int × Int × Int
 deriving DecidableEq
structure dB where
 leaves : Int
 deriving DecidableEq
structure ce where
 kind : Int
 param : Int
 deriving DecidableEq
structure rZ where
 below : Bool
 d : List Int
 deriving DecidableEq
structure kV (α : Type) where
 id : Int
 name : ByteArray
 need : Bool
 type : α
structure am where
 kind : Int
 scale : Int
 fields : List (kV am)
abbrev ae := kV am
structure ac where
 kind : Int
 n : Int
 scale : Int
 s : ByteArray
 items : List ac
mutual
def am.cells : am → List PV
 | ⟨k, s, fs⟩ => [pi k, pi s, .ro (am.fcells fs)]
def am.fcells : List (kV am) → List (List PV)
 | [] => []
 | f :: l => am.fcell f :: am.fcells l
def am.fcell : kV am → List PV
 | ⟨i, n, q, t⟩ => pi i :: .s (.string n) :: .s (.bool q) :: am.cells t
end
mutual
def ac.cells : ac → List PV
 | ⟨k, n, sc, s, it⟩ => [pi k, pi n, pi sc, .s (.string s), .ro (ac.lcells it)]
def ac.lcells : List ac → List (List PV)
 | [] => []
 | v :: l => ac.cells v :: ac.lcells l
end
theorem am.fcells_eq : ∀ l : List (kV am), am.fcells l = l.map am.fcell
 | [] => rfl
 | f :: l => by rw [am.fcells, am.fcells_eq l]; rfl
theorem ac.lcells_eq : ∀ l : List ac, ac.lcells l = l.map ac.cells
 | [] => rfl
 | f :: l => by rw [ac.lcells, ac.lcells_eq l]; rfl
abbrev NI (f : ae) : List PV := [pi f.id, .s (.string f.name), .s (.bool f.need), pi f.type.kind, pi f.type.scale, .ro (am.fcells f.type.fields)]
abbrev Gp (v : ac) : List PV := [pi v.kind, pi v.n, pi v.scale, .s (.string v.s), .ro (ac.lcells v.items)]
theorem MM : am.fcell = NI := funext fun ⟨_, _, _, ⟨_, _, _⟩⟩ => rfl
theorem FZ : ac.cells = Gp := funext fun ⟨_, _, _, _, _⟩ => rfl
def af : rS ae := ⟨6, NI, am.fcells, fun l => by rw [am.fcells_eq, MM], fun _ => rfl⟩
def ah : rS ac := ⟨5, Gp, ac.lcells, fun l => by rw [ac.lcells_eq, FZ], fun _ => rfl⟩
structure bi where
 source : Int
 transform : ce
 deriving DecidableEq
structure cm where
 fields : List bi
 deriving DecidableEq
structure eM where
 id : Int
 nulls : Int
 min : ac
 max : ac
structure iP where
 file : ByteArray
 rows : List Int
 deriving DecidableEq
structure bc where
 schema : Int
 ids : List Int
 keys : List (List ac)
 seq : Int
structure aj where
 name : ByteArray
 schema : Int
 spec : Int
 part : List ac
 rows : Int
 seq : Int
 stats : List eM
structure gV where
 name : ByteArray
 branch : Bool
 snapshot : Int
 deriving DecidableEq
structure jk where
 name : ByteArray
 value : ByteArray
 deriving DecidableEq
structure al where
 id : Int
 parent : Int
 seq : Int
 schema : Int
 time : Int
 kind : Int
 files : List aj
 dat : List iP
 dby : List bc
structure aw where
 schemas : List (List ae)
 specs : List cm
 nextField : Int
 nextSeq : Int
 nextSnap : Int
 purges : Int
 snapshots : List al
 refs : List gV
 props : List jk
abbrev JX (x : bi) : List PV := [pi x.source, pi x.transform.kind, pi x.transform.param]
def aL : rS bi := .of 3 JX (fun _ => rfl)
def em : rS cm := .of 1 (fun x => [.ro (aL.els x.fields)]) (fun _ => rfl)
abbrev JL (x : eM) : List PV := [pi x.id, pi x.nulls, pi x.min.kind, pi x.min.n, pi x.min.scale, .s (.string x.min.s), .ro (ah.els x.min.items), pi x.max.kind, pi x.max.n, pi x.max.scale, .s (.string x.max.s), .ro (ah.els x.max.items)]
def dP : rS eM := .of 12 JL (fun _ => rfl)
def cM : rS iP := .of 2 (fun x => [.s (.string x.file), .ro (eI.els x.rows)]) (fun _ => rfl)
def b9 : rS bc := .of 4 (fun x => [pi x.schema, .ro (eI.els x.ids), .ro ((eL ah).els x.keys), pi x.seq]) (fun _ => rfl)
abbrev Oi (x : aj) : List PV := [.s (.string x.name), pi x.schema, pi x.spec, .ro (ah.els x.part), pi x.rows, pi x.seq, .ro (dP.els x.stats)]
def aY : rS aj := .of 7 Oi (fun _ => rfl)
def lg : rS gV := .of 3 (fun x => [.s (.string x.name), .s (.bool x.branch), pi x.snapshot]) (fun _ => rfl)
def ic : rS jk := .of 2 (fun x => [.s (.string x.name), .s (.string x.value)]) (fun _ => rfl)
abbrev Ob (x : al) : List PV := [pi x.id, pi x.parent, pi x.seq, pi x.schema, pi x.time, pi x.kind, .ro (aY.els x.files), .ro (cM.els x.dat), .ro (b9.els x.dby)]
def aM : rS al := .of 9 Ob (fun _ => rfl)
end Go.SX
namespace Go.SX
open Go Go.Shelf Go.Lib Go.Proofs Go.RowKit
theorem EZ {ι : IM} {w : World} {st : St} : ∀ {us vs : List Value}, vs.length = us.length → (∀ (j : Nat) v a, vs[j]? = some v → (us.map fun u => AV.one (.pv (.s u)))[j]? = some a → a8 ι w st v a) → vs = us
 | [], [], _, _ => rfl
 | [], _ :: _, h, _ => by simp at h
 | _ :: _, [], h, _ => by simp at h
 | u :: us, v :: vs, h, hA => by
  have h0 := bU (hA 0 v _ rfl rfl)
  subst h0
  rw [EZ (us := us) (vs := vs) (by simpa using h) (fun j x a h1 h2 => hA (j + 1) x a (by simpa using h1) (by simpa using h2))]
theorem PC.below {P : Program} {f : Nat} {us : List Value} {v : Value} (hv : plain v = true)
  (h : ∀ w : World, (∀ (b : Nat) (l : List Value), Hx b = some l → U7 w b l) → Calls P f us.toArray w fun e w' => e = .returned v ∧ Below w.heap.size w w') :
  PC P f (us.map fun u => .one (.pv (.s u))) (.one (.pv (.s v))) := by
 intro ι w vs hR hA
 obtain rfl := EZ (by simpa using hA.1) hA.2
 refine (h w (fun b l hb => (hR.gl b l hb).2.2)).mono ?_
 rintro e w' ⟨rfl, hb⟩
 have hx : rR w w' := ⟨hb.os, hb.tape, hb.output, hb.size, fun b hlt => hb.block b hlt⟩
 exact ⟨v, _, [], ι, rfl, ⟨rfl, rfl⟩, hR.ext hx, .one _ _ (.pv _ _ (.s _ hv)), (hx.keeps ι []).weaken (fun _ _ => trivial)⟩
theorem Qo {g3 g4 : Nat} {w : World} (h3 : ∀ (i : Nat) x, Bk[i]? = some x → w.cell? ⟨g3, i, none⟩ = some x) (h4 : ∀ (i : Nat) x, I5[i]? = some x → w.cell? ⟨g4, i, none⟩ = some x) : Utf8Tabs g3 g4 w := by
 refine ⟨fun c hc => h3 c _ ?_, fun i hi => ⟨h4 _ _ ?_, h4 _ _ ?_⟩⟩
 ·simp [Bk, hc]
 ·simp [I5, show 2 * i < 32 by omega]
 ·simp [I5, show 2 * i + 1 < 32 by omega, show (2 * i + 1) / 2 = i by omega]
theorem QO {g3 g4 : Nat} {w : World} (h : Utf8Tabs g3 g4 w) : (∀ (i : Nat) x, Bk[i]? = some x → w.cell? ⟨g3, i, none⟩ = some x) ∧ (∀ (i : Nat) x, I5[i]? = some x → w.cell? ⟨g4, i, none⟩ = some x) := by
 refine ⟨fun i x hx => ?_, fun i x hx => ?_⟩
 ·by_cases hi : i < 256
  ·simp [Bk, hi] at hx; subst hx; exact h.1 i hi
  ·simp [Bk, hi] at hx
 ·by_cases hi : i < 32
  ·simp only [I5, List.getElem?_map, List.getElem?_range hi, Option.map_some, de] at hx
   by_cases e : i % 2 = 0
   ·rw [if_pos e] at hx
    have := (h.2 (i / 2) (by omega)).1
    rw [show 2 * (i / 2) = i by omega, hx] at this
    exact this
   ·rw [if_neg e] at hx
    have := (h.2 (i / 2) (by omega)).2
    rw [show 2 * (i / 2) + 1 = i by omega, hx] at this
    exact this
  ·simp [I5, hi] at hx
theorem Eo {P : Program} {ρ : Ren} (L : Lays.n196 P ρ) (h3 : Hx (ρ.g 3) = some Bk) (h4 : Hx (ρ.g 4) = some I5) (s : ByteArray) (hs : s.size ≤ 9223372036854775807) :
  PC P (ρ.f 196) [.one (.pv (.s (.string s)))] (.one (.pv (.s (.bool (validD s.data.toList))))) :=
 PC.below (us := [.string s]) rfl fun w hw => Go.Proofs.Any.utf8_ValidString L s w hs (Qo (hw _ _ h3).1 (hw _ _ h4).1)
end Go.SX
namespace Go.SX
open Go
section
variable {P : Program} {n n0 : Nat} {lz : List Nat} {Q : QT} {fr : Fr} {st : St} {ops : Array Oper}
end
section
variable {P : Program} {n n0 : Nat} {lz an : List Nat} {Q : QT} {β : Type} {T : Option β} {r : β} {s : SS}
end
structure wd where
 f : {H : Type} → DataW H → Nat
 one : ∀ {H : Type} (d : DataW H), 1 ≤ f d
 str : ∀ {H : Type} (b : List UInt8), b.length + 1 ≤ f (DataW.lit (H := H) (.string b))
 sl : ∀ {H : Type} (e s : List (DataW H)), (e.map f).sum + 1 ≤ f (.slice e s)
 ag : ∀ {H : Type} (ps : List (DataW H)), (ps.map f).sum + 1 ≤ f (.agg ps)
abbrev HK : Nat → Prop := fun _ => False
def zc (w : World) (cs : List Value) (ps : List PV) : Prop :=
 cs.length = ps.length ∧ ∀ (j : Nat) v p, cs[j]? = some v → ps[j]? = some p → gS HK w v p
theorem zc.one {w : World} {v : Value} {p : PV} (h : gS HK w v p) : zc w [v] [p] := by
 refine ⟨rfl, fun j v' p' h1 h2 => ?_⟩
 cases j with
 | zero => simp at h1 h2; subst h1; subst h2; exact h
 | succ j => simp at h1
theorem zc.nil {w : World} : zc w [] [] := ⟨rfl, fun j v p h => by simp at h⟩
theorem zc.app {w : World} {cs : List Value} {p q : List PV} {n : Nat} (h : zc w (cs.take n) p) (k : zc w (cs.drop n) q) (hn : p.length = n) : zc w cs (p ++ q) := by
 have e : cs = cs.take n ++ cs.drop n := (List.take_append_drop n cs).symm
 refine ⟨?_, fun j v x h1 h2 => ?_⟩
 ·have h1 := h.1; have h2 := k.1
  rw [List.length_append, ← h1, ← h2, ← List.length_append, ← e]
 ·by_cases hj : j < n
  ·rw [Ay (by omega)] at h2
   refine h.2 j v x ?_ h2
   rw [List.getElem?_take, if_pos hj]; exact h1
  ·rw [List.getElem?_append_right (by omega)] at h2
   refine k.2 (j - n) v x ?_ (by rw [← hn]; exact h2)
   rw [List.getElem?_drop, show n + (j - n) = j by omega]; exact h1
section
variable (B : wd) (P : Program)
def ot (N : Nat) (t : TypeId) {α : Type} (cells : α → List PV) (wf : α → Prop) (size : α → Nat) : Prop :=
 ∀ ⦃H : Type⦄ ⦃enc : TypeId × Value → H⦄ ⦃w : World⦄ ⦃base : Nat⦄ ⦃spare : Nat → Bool⦄ ⦃held : Bool⦄ ⦃gC : Nat⦄ ⦃cs : List Value⦄ ⦃d : DataW H⦄ ⦃ps : List MemPlace⦄,
  DataW.trod enc P w base spare held gC t cs = some (d, ps) → B.f d ≤ N → ∃ x, zc w cs (cells x) ∧ wf x ∧ size x ≤ B.f d
variable {B P}
theorem ot.int {N : Nat} {t : TypeId} {k : IntKind} (ht : P.underlying t = some (.int k)) : ot B P N t (fun n : Int => [.s (.int k n)]) (fun n => k.min ≤ n ∧ n ≤ k.max) (fun _ => 1) := by
 intro H enc w base spare held gC cs d ps h hN
 obtain ⟨n, rfl, hx, hw⟩ := DataW.trod_int ht h
 refine ⟨n, .one (.s _ rfl), ?_, B.one d⟩
 simpa [Lit.wf] using hw
theorem ot.bool {N : Nat} {t : TypeId} (ht : P.underlying t = some .bool) : ot B P N t (fun b : Bool => [.s (.bool b)]) (fun _ => True) (fun _ => 1) := by
 intro H enc w base spare held gC cs d ps h hN
 obtain ⟨b, rfl, hx⟩ := DataW.trod_bool ht h
 exact ⟨b, .one (.s _ rfl), trivial, B.one d⟩
theorem ot.str {N : Nat} {t : TypeId} (ht : P.underlying t = some .string) : ot B P N t (fun s : ByteArray => [.s (.string s)]) (fun _ => True) (fun s => s.size + 1) := by
 intro H enc w base spare held gC cs d ps h hN
 obtain ⟨s, rfl, hx, hs⟩ := DataW.trod_string ht h
 simp only [pI] at hx
 obtain ⟨rfl, rfl⟩ := hx
 refine ⟨s, .one (.s _ rfl), trivial, ?_⟩
 have := B.str (H := H) s.data.toList
 simpa using this
theorem QV {w : World} {a : Addr} {v : Value} (h : w.cell? a = some v) : a.block < w.heap.size := by
 unfold World.cell? at h
 split at h
 ·rename_i h1; exact (Array.getElem?_eq_some_iff.1 h1).1
 ·cases h
theorem SR {α : Type} {f : α → Nat} {l : List α} {x : α} (h : x ∈ l) : f x ≤ (l.map f).sum := by
 induction l with
 | nil => cases h
 | cons y l ih =>
  simp only [List.map_cons, List.sum_cons]
  rcases List.mem_cons.1 h with rfl | h
  ·omega
  ·have := ih h; omega
theorem HH {α β : Type} {q : Nat → α → β → Prop} : ∀ {l : List α} , (∀ (i : Nat) a, l[i]? = some a → ∃ b, q i a b) → ∃ bs : List β, bs.length = l.length ∧ ∀ (i : Nat) a b, l[i]? = some a → bs[i]? = some b → q i a b := by
 intro l
 induction l generalizing q with
 | nil => intro _; exact ⟨[], rfl, fun i a b h => by simp at h⟩
 | cons x l ih =>
  intro h
  obtain ⟨b0, h0⟩ := h 0 x rfl
  obtain ⟨bs, hl, hb⟩ := ih (q := fun i => q (i + 1)) (fun i a hi => h (i + 1) a (by simpa using hi))
  refine ⟨b0 :: bs, by simp [hl], fun i a b h1 h2 => ?_⟩
  cases i with
  | zero => simp at h1 h2; subst h1; subst h2; exact h0
  | succ i => exact hb i a b (by simpa using h1) (by simpa using h2)
theorem Gg {α β : Type} {f : α → Nat} {g : β → Nat} : ∀ {l : List α} {m : List β}, m.length = l.length → (∀ (i : Nat) a b, l[i]? = some a → m[i]? = some b → g b ≤ f a) → (m.map g).sum ≤ (l.map f).sum
 | [], [], _, _ => by simp
 | [], _ :: _, h, _ => by simp at h
 | _ :: _, [], h, _ => by simp at h
 | a :: l, b :: m, h, hk => by
  have h0 := hk 0 a b rfl rfl
  have := Gg (f := f) (g := g) (l := l) (m := m) (by simpa using h) (fun i x y h1 h2 => hk (i + 1) x y (by simpa using h1) (by simpa using h2))
  simp only [List.map_cons, List.sum_cons]
  omega
theorem ot.slice {N : Nat} {t e : TypeId} {α : Type} {cells : α → List PV} {wf : α → Prop} {size : α → Nat} (ht : P.underlying t = some (.slice e)) (hc : ∀ x, (cells x).length = P.cellsOf e)
  (hpos : 0 < P.cellsOf e) (h : ∀ N', N' < N → ot B P N' e cells wf size) :
  ot B P N t (fun xs : List α => [.ro (xs.map cells)]) (fun xs => ∀ x ∈ xs, wf x) (fun xs => (xs.map size).sum + 1) := by
 intro H enc w base spare held gC cs d ps hd hN
 rcases DataW.trod_slice ht hd with ⟨rfl, hx⟩ | ⟨a, len, cap, elems, rest, n, _, rfl, hx, hb, hl, hm, hlen, hel, _, _⟩
 ·exact ⟨[], .one .nl, by simp, by simpa using B.one d⟩
 simp only [pI] at hx
 obtain ⟨rfl, rfl⟩ := hx
 have hsum := B.sl (elems.map (·.1)) (rest.map (·.1))
 have hel' : ∀ (i : Nat) z, elems[i]? = some z → ∃ x : α, (∃ cs', w.cells? base (a.add (i * P.cellsOf e)) (P.cellsOf e) = some cs' ∧ zc w cs' (cells x)) ∧ wf x ∧ size x ≤ B.f z.1 := by
  intro i z hz
  have hi : i < len := by rw [← hlen]; exact (nC.1 hz).1
  have hk := hel i hi
  rw [hz] at hk
  obtain ⟨cs', h1, h2⟩ := Option.bind_eq_some_iff.1 hk
  have hle : B.f z.1 ≤ ((elems.map (·.1)).map B.f).sum := SR (f := B.f) (List.mem_map.2 ⟨z, List.mem_of_getElem? hz, rfl⟩)
  obtain ⟨x, k1, k2, k3⟩ := h (B.f z.1) (by omega) (d := z.1) (ps := z.2) h2 (gO _)
  exact ⟨x, ⟨cs', h1, k1⟩, k2, k3⟩
 obtain ⟨xs, hxl, hxs⟩ := HH hel'
 have hxlen : xs.length = len := by omega
 have key : ∀ (i : Nat) x, xs[i]? = some x → ∃ z, elems[i]? = some z ∧ (∃ cs', w.cells? base (a.add (i * P.cellsOf e)) (P.cellsOf e) = some cs' ∧ zc w cs' (cells x)) ∧ wf x ∧ size x ≤ B.f z.1 := by
  intro i x hx
  have hi : i < elems.length := by rw [← hxl]; exact (nC.1 hx).1
  exact ⟨_, dh hi, hxs i _ x (dh hi) hx⟩
 refine ⟨xs, .one ?_, ?_, ?_⟩
 ·have hcell : ∀ (i : Nat) (ee : List PV) (j : Nat) c, (xs.map cells)[i]? = some ee → ee[j]? = some c → ∃ v, w.cell? (a.add (i * P.cellsOf e + j)) = some v ∧ gS HK w v c := by
   intro i ee j c h1 h2
   rw [List.getElem?_map, vo] at h1
   obtain ⟨x, hx, rfl⟩ := h1
   obtain ⟨z, _, ⟨cs', hcs, hrd⟩, _, _⟩ := key i x hx
   obtain ⟨_, hcl, hcc⟩ := World.cells?_some hcs
   have hj : j < P.cellsOf e := by rw [← hc x]; exact (nC.1 h2).1
   have := hcc j hj
   rw [yK] at this
   have hget : cs'[j]? = some cs'[j] := dh (by omega)
   exact ⟨cs'[j], this.trans hget, hrd.2 j _ c hget h2⟩
  have := gS.ro (μ := HK) (w := w) a cap (P.cellsOf e) (xs.map cells) (fun i j => (w.cell? (a.add (i * P.cellsOf e + j))).getD undef) (by simpa [hxlen] using hl)
   (fun ee he => by obtain ⟨x, _, rfl⟩ := List.mem_map.1 he; exact hc x)
   (fun hne => by
    refine ⟨?_, fun h => h⟩
    cases xs with
    | nil => simp at hne
    | cons x0 r0 =>
     have h0 : 0 < (cells x0).length := by rw [hc]; exact hpos
     obtain ⟨v, hv, _⟩ := hcell 0 (cells x0) 0 _ rfl (dh h0)
     have := QV hv
     rwa [xr] at this)
   (fun i ee j c h1 h2 => by obtain ⟨v, hv, _⟩ := hcell i ee j c h1 h2; simp [hv])
   (fun i ee j c h1 h2 => by obtain ⟨v, hv, hr⟩ := hcell i ee j c h1 h2; simpa [hv] using hr)
  rw [List.length_map, hxlen] at this
  exact this
 ·intro x hx
  obtain ⟨i, hi, rfl⟩ := List.getElem_of_mem hx
  obtain ⟨_, _, _, k, _⟩ := key i _ (dh hi)
  exact k
 ·have : (xs.map size).sum ≤ ((elems.map (·.1)).map B.f).sum := by
   rw [List.map_map]
   exact Gg (f := B.f ∘ Prod.fst) (g := size) hxl (fun i z x h1 h2 => (hxs i z x h1 h2).2.2)
  show (xs.map size).sum + 1 ≤ _
  omega
def Aw (B : wd) (P : Program) (N : Nat) (off : Nat) (fs : List Field) {α : Type} (cells : α → List PV) (wf : α → Prop) (size : α → Nat) : Prop :=
 ∀ ⦃H : Type⦄ ⦃enc : TypeId × Value → H⦄ ⦃w : World⦄ ⦃base : Nat⦄ ⦃spare : Nat → Bool⦄ ⦃held : Bool⦄ ⦃n : Nat⦄ ⦃cs : List Value⦄ ⦃xs : List (DataW H × List MemPlace)⦄,
  xs.length = fs.length → (∀ (i : Nat) f, fs[i]? = some f → DataW.trod enc P w base spare held n f.type ((cs.drop f.offset).take (P.cellsOf f.type)) = xs[i]?) → ((xs.map (·.1)).map B.f).sum ≤ N →
  cs.length = off + (fs.map fun f => P.cellsOf f.type).sum →
  ∃ x, zc w (cs.drop off) (cells x) ∧ wf x ∧ size x ≤ ((xs.map (·.1)).map B.f).sum
theorem Aw.nil {N off : Nat} : Aw B P N off [] (fun _ : Unit => []) (fun _ => True) (fun _ => 0) := by
 intro H enc w base spare held n cs xs hl h hN hc
 refine ⟨(), ?_, trivial, Nat.zero_le _⟩
 have : cs.drop off = [] := by simp at hc ⊢; omega
 rw [this]
 exact .nil
theorem Aw.cons {N off : Nat} {f : Field} {fs : List Field} {α β : Type} {c1 : α → List PV} {w1 : α → Prop} {s1 : α → Nat} {c2 : β → List PV} {w2 : β → Prop} {s2 : β → Nat} (ho : f.offset = off) (hc : ∀ x, (c1 x).length = P.cellsOf f.type)
  (h : ot B P N f.type c1 w1 s1) (k : Aw B P N (off + P.cellsOf f.type) fs c2 w2 s2) : Aw B P N off (f :: fs) (fun p : α × β => c1 p.1 ++ c2 p.2) (fun p => w1 p.1 ∧ w2 p.2) (fun p => s1 p.1 + s2 p.2) := by
 intro H enc w base spare held n cs xs hl hx hN hlen
 match xs, hl with
 | z :: zs, hl =>
  simp only [List.map_cons, List.sum_cons] at hN hlen ⊢
  have h0 := hx 0 f rfl
  obtain ⟨x, a1, a2, a3⟩ := h (d := z.1) (ps := z.2) h0 (by omega)
  obtain ⟨y, b1, b2, b3⟩ := k (xs := zs) (cs := cs) (by simpa using hl) (fun i g hg => hx (i + 1) g (by simpa using hg)) (by omega) (by omega)
  refine ⟨(x, y), ?_, ⟨a2, b2⟩, by simp only; omega⟩
  rw [ho] at a1
  refine zc.app (n := P.cellsOf f.type) a1 ?_ (hc x)
  rw [List.drop_drop]
  exact b1
theorem ot.struct {N : Nat} {t : TypeId} {fs : Array Field} {α β : Type} {c : β → List PV} {wf : β → Prop} {s : β → Nat} {cells : α → List PV} {wf' : α → Prop} {size : α → Nat} (ht : P.underlying t = some (.struct fs)) (hsz : P.cellsOf t = 0 + (fs.toList.map fun f => P.cellsOf f.type).sum)
  (h : ∀ N', N' < N → Aw B P N' 0 fs.toList c wf s) (mk : β → α) (h1 : ∀ y, cells (mk y) = c y) (h2 : ∀ y, wf y → wf' (mk y)) (h3 : ∀ y, size (mk y) ≤ s y + 1) : ot B P N t cells wf' size := by
 intro H enc w base spare held gC cs d ps hd hN
 obtain ⟨xs, n, _, hx, hlen, hxl, hf⟩ := DataW.trod_struct ht hd
 simp only [pI] at hx
 obtain ⟨rfl, rfl⟩ := hx
 have hag := B.ag (xs.map (·.1))
 obtain ⟨y, a1, a2, a3⟩ := h _ (show ((xs.map (·.1)).map B.f).sum < N by omega) (xs := xs) (cs := cs) (by simpa using hxl) (fun i f hi => hf i f (by simpa using hi)) (gO _) (hlen.trans hsz)
 refine ⟨mk y, ?_, h2 y a2, ?_⟩
 ·rw [h1]; simpa using a1
 ·have := h3 y; omega
theorem ot.conv {N : Nat} {t : TypeId} {α : Type} {c c' : α → List PV} {wf wf' : α → Prop} {s s' : α → Nat} (h : ot B P N t c wf s) (h1 : ∀ x, c' x = c x) (h2 : ∀ x, wf x → wf' x) (h3 : ∀ x, s' x ≤ s x) : ot B P N t c' wf' s' := by
 intro H enc w base spare held gC cs d ps hd hN
 obtain ⟨x, a1, a2, a3⟩ := h hd hN
 exact ⟨x, by rw [h1]; exact a1, h2 x a2, Nat.le_trans (h3 x) a3⟩
end
theorem gS.toVRel {w : World} {v : Value} {p : PV} (h : gS HK w v p) : dj ⟨fun _ => none, fun _ => False⟩ w [] v (.pv p) :=
 .pv v p (h.mono (gO _) (fun b _ _ => ⟨rfl, fun hm => by
  rcases hm with hm | ⟨id, o, h1, _, _⟩
  ·exact hm
  ·simp at h1⟩))
theorem Qe {w : World} {v : Value} {p : PV} (h : zc w [v] [p]) : a8 ⟨fun _ => none, fun _ => False⟩ w [] v (.one (.pv p)) := .one _ _ (h.2 0 v p rfl rfl).toVRel
theorem SG {w : World} {cs : List Value} {ps : List PV} (h : zc w cs ps) : a8 ⟨fun _ => none, fun _ => False⟩ w [] (.agg cs.toArray) (.ag (ps.map .pv)) := by
 refine .ag _ _ ⟨by simpa using h.1, fun j v c h1 h2 => ?_⟩
 rw [List.getElem?_map, vo] at h2
 obtain ⟨p, h2, rfl⟩ := h2
 exact (h.2 j v p h1 h2).toVRel
theorem CA {B : wd} {P : Program} {H : Type} {enc : TypeId × Value → H} {w : World} {base b0 : Nat} {spare : Nat → Bool} {held : Bool} {r : Reach} {t : TypeId} {v : Value} {d : DataW H} {ps : List MemPlace} {α : Type} {cells : α → List PV} {wf : α → Prop} {size : α → Nat}
  (h : ∀ N, ot B P N t cells wf size) (hval : Value.okWide P w r b0 t v) (hd : DataW.Trod enc P w base spare held t v d ps) :
  ∃ x, zc w v.cells.toList (cells x) ∧ wf x ∧ size x ≤ B.f d := by
 obtain ⟨gC, hd⟩ := hd
 exact h _ hd (gO _)
theorem Ml {P : Program} {w : World} {r : Reach} {b0 : Nat} {t : TypeId} {v : Value} {fs : Array Field} (ht : P.underlying t = some (.struct fs)) (hval : Value.okWide P w r b0 t v) : v = .agg v.cells := by
 simp only [Value.okWide, ht] at hval
 obtain ⟨cs, rfl, _⟩ := hval
 rfl
theorem JP {w : World} {v : Value} {ps : List PV} (hv : v = .agg v.cells) (h : zc w v.cells.toList ps) : a8 ⟨fun _ => none, fun _ => False⟩ w [] v (.ag (ps.map .pv)) := by
 have := SG h
 rw [hv]
 simpa [Value.cells] using this
theorem E2 {w : World} {v : Value} {p : PV} (h : zc w v.cells.toList [p]) (hv : ∀ cs, v ≠ .agg cs) : a8 ⟨fun _ => none, fun _ => False⟩ w [] v (.one (.pv p)) := by
 have e : v.cells = #[v] := by cases v <;> first | rfl | exact absurd rfl (hv _)
 rw [e] at h
 exact Qe h
theorem Gl {P : Program} {w : World} {r : Reach} {b0 : Nat} {t : TypeId} {v : Value} (ht : (match P.underlying t with | some (.int _) => true | some .bool => true | some .string => true | some (.slice _) => true | _ => false) = true) (hval : Value.okWide P w r b0 t v) : ∀ cs, v ≠ .agg cs := by
 rintro cs rfl
 cases hu : P.underlying t with
 | none => simp [hu] at ht
 | some d =>
  cases d <;> simp [hu] at ht <;> simp [Value.okWide, hu, Cell.okWide, Cell.ok] at hval
structure Kf (w w' : World) : Prop where
 os : w'.os = w.os
 output : w'.output = w.output
 size : w.heap.size ≤ w'.heap.size
 blk : ∀ b : Nat, b < w.heap.size → w'.heap[b]? = w.heap[b]?
theorem PC.call {P : Program} {f : Nat} {args : List AV} {r : AV} (h : PC P f args r) {w : World} {vs : List Value} (hl : vs.length = args.length) (hA : ∀ (j : Nat) v a, vs[j]? = some v → args[j]? = some a → a8 ⟨fun _ => none, fun _ => False⟩ w [] v a) (hg : ∀ (b : Nat) (l : List Value), Hx b = some l → b < w.heap.size ∧ U7 w b l) :
  Calls P f vs.toArray w fun e w' => ∃ v ι', e = .returned v ∧ a8 ι' w' [] v r ∧ Kf w w' := by
 refine (h ⟨fun _ => none, fun _ => False⟩ w vs ⟨fun id o h => by simp at h, fun b h => h.elim, fun b h => fun h' => h', fun id id' o o' b h => by simp at h, fun b o h => ⟨fun hm => hm.elim id (fun ⟨_, _, h1, _⟩ => by simp at h1), hg b o h⟩⟩ ⟨hl, hA⟩).mono ?_
 rintro e w' ⟨v, av, st', ι', rfl, ⟨rfl, rfl⟩, hR, hv, k⟩
 refine ⟨v, ι', rfl, hv, k.os, k.output, k.size, fun b hb => (k.blk b hb ?_).1⟩
 rintro ⟨id, o, h1, _⟩
 simp at h1
theorem Kf.keptBut {w w' : World} (k : Kf w w') (may : MemPlace → Prop) : w.keptBut w' may := by
 refine ⟨k.os, k.output, fun i hi => ?_⟩
 rw [k.blk i hi]
 have : w.heap[i]? = some w.heap[i] := Array.getElem?_eq_getElem hi
 rw [this]
 cases w.heap[i] with
 | cells c t fr => exact ⟨rfl, rfl, rfl, fun _ _ => rfl⟩
 | map es clock => exact .inr ⟨rfl, rfl⟩
 | _ => rfl
theorem Kf.frozen {w w' : World} (k : Kf w w') {b off : Nat} (hb : b < w.heap.size) : w'.frozen? ⟨b, off, none⟩ = w.frozen? ⟨b, off, none⟩ := by
 simp [World.frozen?, k.blk b hb]
open Go.ChangeShapes Go.WideElems Go.WideShapes in
theorem FU {H : Type} {enc : TypeId × Value → H} {P : Program} {W W' : World} (hl : laidOutB P = true) (k : Kf W W') {sp : Nat → Bool} : ∀ {ts : List TypeId} {vs : List Value} {ds : List (DataW H)} {ps : List MemPlace}, (ts.all fun t => P.readableRec t && Nat.ble (t + 1) P.types.size) = true →
  DataW.TrodAll enc P W 0 (fun _ => true) true ts vs ds ps → (∀ p ∈ ps, p.block < W.heap.size) → (∀ p ∈ ps, sp p.block = true) → DataW.TrodAll enc P W' 0 sp true ts vs ds ps
 | [], _, _, _, _, h, _, _ => by
  obtain ⟨rfl, rfl, rfl⟩ := trodAll_nil h
  exact rfl
 | t :: ts, _, _, _, hr, h, hp, hs => by
  obtain ⟨v, vs1, d, ds1, a, b, rfl, rfl, rfl, h1, h2⟩ := trodAll_cons h
  simp only [List.all_cons, gZ] at hr
  refine ⟨a, b, Trod_stays hl hr.1.1 (wv hr.1.2) h1 (fun p hpa => ?_) (fun p hpa => hs p (by simp [hpa])), FU hl k hr.2 h2 (fun p hpa => hp p (by simp [hpa])) (fun p hpa => hs p (by simp [hpa])), rfl⟩
  have := hp p (by simp [hpa])
  cases p with
  | cell b off => exact cell?_same (k.blk b this)
  | map b => exact k.blk b this
open Go.ChangeShapes Go.RowKit Go.WideShapes Go.ChangeAt in
theorem M0 {H : Type} {enc : TypeId × Value → H} {P : Program} {f : Func} {s : ChangeSpec} {apart fresh handsOn again : Bool} {W W' : World} {args : Array Value} {ds gs : List (DataW H)} {before : List MemPlace}
  (hW : DataW.Whole enc P f.params.toList s.vars apart W args.toList ds gs before) (hl : laidOutB P = true) (hr : (f.params.toList.all fun t => P.readableRec t && Nat.ble (t + 1) P.types.size) = true) (k : Kf W W')
  (hvars : s.vars = []) (t : TypeId) (ht : f.resultTypes = #[t]) (hb : P.underlying t = some .bool) (hsp : s.fn H ds = { results := [.lit (.bool true)], args := ds }) :
  s.post enc P f apart fresh handsOn again W args (.bool true) W' := by
 have hW' := hW
 have hlt : ∀ p ∈ before, p.block < W.heap.size := fun p hp => hW.lt p hp
 obtain ⟨p, q, hA, hV, rfl, hz, hn⟩ := hW'
 rw [hvars] at hV
 obtain ⟨rfl, rfl⟩ := trodVars_none hV
 have hres : ∀ (b : Nat) (sp : Nat → Bool) (hd : Bool), DataW.TrodAll enc P W' b sp hd f.resultTypes.toList ((Value.bool true).resultList f.resultTypes.size) [.lit (.bool true)] [] := by
  intro b sp hd
  rw [ht]
  exact trodAll_cons_mk (shut_bool hb _) trodAll_mk0
 simp only [List.append_nil] at *
 have hargs : ∀ sp : Nat → Bool, (∀ x ∈ p, sp x.block = true) → DataW.TrodAll enc P W' 0 sp true f.params.toList args.toList ds p := fun sp hs => FU hl k hr hA hlt hs
 have hold : ∀ x ∈ p, (fun b => decide (b < W.heap.size)) x.block = true := fun x hx => by simpa using hlt x hx
 refine ⟨ds, [], p, [], p, [], by simpa using hW, ?_, ?_, ?_, k.keptBut _, fun _ => ⟨?_, [.lit (.bool true)] ++ ds, [], p, ⟨p, [], ?_, ?_, by simp, ?_, hn⟩, ?_⟩⟩
 ·simp only [List.append_nil, hsp]; exact hres _ _ _
 ·simp only [List.append_nil, hsp]; exact hargs _ hold
 ·simp only [List.append_nil, hsp, hvars]; rfl
 ·exact ok_one ht rfl (okWide_bool_mk hb _)
 ·have := trodAll_append (hargs (fun _ => true) (fun _ _ => rfl)) (hres 0 (fun _ => true) true)
  simpa using this
 ·rw [hvars]; rfl
 ·intro b off hp
  rw [k.frozen (b := b) (off := off) (hlt _ hp)]
  exact hz b off hp
 ·intro x hx _; exact hx
theorem QP {ι : IM} {w : World} {v : Value} {b : Bool} (h : a8 ι w [] v (.one (.pv (.s (.bool b))))) : v = .bool b := by
 cases h with
 | one _ _ h =>
  cases h with
  | pv _ _ h => cases h with | s => rfl
def fieldsOf (P : Program) (t : TypeId) : List Field := match P.underlying t with
 | some (.struct fs) => fs.toList
 | _ => []
def ix (P : Program) (t : TypeId) : Bool := match P.underlying t with
 | some (.struct _) => true
 | _ => false
def dW (P : Program) (t : TypeId) (i : Nat) : Field := (fieldsOf P t)[i]?.getD default
section
variable {B : wd} {P : Program}
theorem ot.structF {N : Nat} {t : TypeId} {L : List Field} {α β : Type} {c : β → List PV} {wf : β → Prop} {s : β → Nat} {cells : α → List PV} {wf' : α → Prop} {size : α → Nat} (hu : ix P t = true) (hL : fieldsOf P t = L) (hsz : P.cellsOf t = 0 + (L.map fun f => P.cellsOf f.type).sum)
  (h : ∀ N', N' < N → Aw B P N' 0 L c wf s) (mk : β → α) (h1 : ∀ y, cells (mk y) = c y) (h2 : ∀ y, wf y → wf' (mk y)) (h3 : ∀ y, size (mk y) ≤ s y + 1) : ot B P N t cells wf' size := by
 unfold ix at hu
 unfold fieldsOf at hL
 cases hd : P.underlying t with
 | none => simp [hd] at hu
 | some d =>
  cases d <;> simp [hd] at hu
  rename_i fs
  simp only [hd] at hL
  subst hL
  exact ot.struct hd hsz h mk h1 h2 h3
theorem Ko {w : World} {r : Reach} {b0 : Nat} {t : TypeId} {v : Value} (hu : ix P t = true) (hval : Value.okWide P w r b0 t v) : v = .agg v.cells := by
 unfold ix at hu
 cases hd : P.underlying t with
 | none => simp [hd] at hu
 | some d =>
  cases d <;> simp [hd] at hu
  exact Ml hd hval
end
theorem HP {B : wd} {P : Program} (t i : TypeId) (hi : P.underlying i = some (.int .i64)) (hu : ix P t = true) (hL : fieldsOf P t = [dW P t 0, dW P t 1]) (hs : P.cellsOf t = 2) (h1 : P.cellsOf i = 1)
  (ht : (dW P t 0).type = i ∧ (dW P t 1).type = i) (ho : (dW P t 0).offset = 0 ∧ (dW P t 1).offset = 1) (N : Nat) :
  ot B P N t (fun c : ce => [pi c.kind, pi c.param]) (fun _ => True) (fun _ => 1) := by
 obtain ⟨t0, t1⟩ := ht
 obtain ⟨o0, o1⟩ := ho
 have I : ∀ (N : Nat) (f : Field), f.type = i → ot B P N f.type (fun n : Int => [.s (.int .i64 n)]) (fun n => IntKind.min .i64 ≤ n ∧ n ≤ IntKind.max .i64) (fun _ => 1) := fun N f hf => ot.int (by rw [hf]; exact hi)
 have C : ∀ (f : Field), f.type = i → ∀ x : Int, ([PV.s (.int .i64 x)] : List PV).length = P.cellsOf f.type := fun f hf x => by rw [hf, h1]; rfl
 refine ot.structF (α := ce) (cells := fun c : ce => [pi c.kind, pi c.param]) (wf' := fun _ => True) (size := fun _ => 1) hu hL (by simp [t0, t1, h1, hs]) (fun N' _ => Aw.cons o0 (C _ t0) (I N' _ t0) (Aw.cons (by rw [o1, t0, h1]) (C _ t1) (I N' _ t1) Aw.nil))
  (fun y => (⟨y.1, y.2.1⟩ : ce)) (fun y => rfl) (fun _ _ => trivial) (fun y => by simp)
theorem H0 {B : wd} {P : Program} (tf tt ti : TypeId) (hi : P.underlying ti = some (.int .i64)) (hu : ix P tf = true) (hu' : ix P tt = true) (hL : fieldsOf P tf = [dW P tf 0, dW P tf 1]) (hL' : fieldsOf P tt = [dW P tt 0, dW P tt 1]) (hz : P.cellsOf tf = 3 ∧ P.cellsOf tt = 2 ∧ P.cellsOf ti = 1)
  (ht : (dW P tf 0).type = ti ∧ (dW P tf 1).type = tt ∧ (dW P tt 0).type = ti ∧ (dW P tt 1).type = ti) (ho : (dW P tf 0).offset = 0 ∧ (dW P tf 1).offset = 1 ∧ (dW P tt 0).offset = 0 ∧ (dW P tt 1).offset = 1) (N : Nat) :
  ot B P N tf JX (fun _ => True) (fun _ => 1) := by
 obtain ⟨t0, t1, t2, t3⟩ := ht
 obtain ⟨o0, o1, o2, o3⟩ := ho
 obtain ⟨z0, z1, z2⟩ := hz
 have I : ∀ (N : Nat) (f : Field), f.type = ti → ot B P N f.type (fun n : Int => [.s (.int .i64 n)]) (fun n => IntKind.min .i64 ≤ n ∧ n ≤ IntKind.max .i64) (fun _ => 1) := fun N f hf => ot.int (by rw [hf]; exact hi)
 have C : ∀ (f : Field), f.type = ti → ∀ x : Int, ([PV.s (.int .i64 x)] : List PV).length = P.cellsOf f.type := fun f hf x => by rw [hf, z2]; rfl
 have T : ∀ N, ot B P N (dW P tf 1).type (fun c : ce => [pi c.kind, pi c.param]) (fun _ => True) (fun _ => 1) := fun N => by
  rw [t1]; exact HP tt ti hi hu' hL' z1 z2 ⟨t2, t3⟩ ⟨o2, o3⟩ N
 refine ot.structF (α := bi) (cells := JX) (wf' := fun _ => True) (size := fun _ => 1) hu hL (by simp [t0, t1, z0, z1, z2]) (fun N' _ =>
  Aw.cons o0 (C _ t0) (I N' _ t0) (Aw.cons (c1 := fun c : ce => [pi c.kind, pi c.param]) (by rw [o1, t0, z2]) (fun x => by rw [t1, z1]; rfl) (T N') Aw.nil))
  (fun y => (⟨y.1, y.2.1⟩ : bi)) (fun y => rfl) (fun _ _ => trivial) (fun y => by simp)
theorem Ts {B : wd} {P : Program} (t tl tf tt ti : TypeId) (hl : P.underlying tl = some (.slice tf)) (h0 : ix P t = true) (hL0 : fieldsOf P t = [dW P t 0]) (hz0 : P.cellsOf t = 1 ∧ P.cellsOf tl = 1) (ht0 : (dW P t 0).type = tl) (ho0 : (dW P t 0).offset = 0)
  (hi : P.underlying ti = some (.int .i64)) (hu : ix P tf = true) (hu' : ix P tt = true) (hL : fieldsOf P tf = [dW P tf 0, dW P tf 1]) (hL' : fieldsOf P tt = [dW P tt 0, dW P tt 1]) (hz : P.cellsOf tf = 3 ∧ P.cellsOf tt = 2 ∧ P.cellsOf ti = 1)
  (ht : (dW P tf 0).type = ti ∧ (dW P tf 1).type = tt ∧ (dW P tt 0).type = ti ∧ (dW P tt 1).type = ti) (ho : (dW P tf 0).offset = 0 ∧ (dW P tf 1).offset = 1 ∧ (dW P tt 0).offset = 0 ∧ (dW P tt 1).offset = 1) (N : Nat) :
  ot B P N t (fun x : cm => [PV.ro (aL.els x.fields)]) (fun _ => True) (fun x => x.fields.length) := by
 have hS : ∀ N, ot B P N (dW P t 0).type (fun xs : List bi => [PV.ro (xs.map JX)]) (fun xs => ∀ x ∈ xs, True) (fun xs => (xs.map fun _ => 1).sum + 1) := fun N => by
  rw [ht0]; exact ot.slice (e := tf) (cells := JX) hl (fun x => by rw [hz.1]; rfl) (by rw [hz.1]; omega) (fun N' _ => H0 tf tt ti hi hu hu' hL hL' hz ht ho N')
 refine ot.structF (α := cm) (cells := fun x : cm => [PV.ro (aL.els x.fields)]) (wf' := fun _ => True) (size := fun x => x.fields.length) h0 hL0 (by simp [ht0, hz0]) (fun N' _ =>
  Aw.cons (c1 := fun xs : List bi => [PV.ro (xs.map JX)]) ho0 (fun x => by rw [ht0, hz0.2]; rfl) (hS N') Aw.nil)
  (fun y => (⟨y.1⟩ : cm)) (fun y => ?_) (fun _ _ => trivial) (fun y => ?_)
 ·show [PV.ro (aL.els y.1)] = [PV.ro (y.1.map JX)] ++ []
  rw [aL.hels]; rfl
 ·show y.1.length ≤ (y.1.map fun _ => 1).sum + 1 + 0 + 1
  have : ∀ l : List bi, (l.map fun _ => 1).sum = l.length := fun l => by induction l with
   | nil => rfl
   | cons a l ih => simp only [List.map_cons, List.sum_cons, List.length_cons, ih]; omega
  rw [this]; omega
abbrev tD (n : Int) : Prop := IntKind.min .i64 ≤ n ∧ n ≤ IntKind.max .i64
theorem KR {B : wd} {P : Program} {wf : ac → Prop} {sz : ac → Nat} (tv ti ts tl : TypeId) (hi : P.underlying ti = some (.int .i64)) (hs : P.underlying ts = some .string) (hl : P.underlying tl = some (.slice tv)) (hu : ix P tv = true)
  (hL : fieldsOf P tv = [dW P tv 0, dW P tv 1, dW P tv 2, dW P tv 3, dW P tv 4]) (hz : P.cellsOf tv = 5 ∧ P.cellsOf ti = 1 ∧ P.cellsOf ts = 1 ∧ P.cellsOf tl = 1)
  (ht : (dW P tv 0).type = ti ∧ (dW P tv 1).type = ti ∧ (dW P tv 2).type = ti ∧ (dW P tv 3).type = ts ∧ (dW P tv 4).type = tl)
  (ho : (dW P tv 0).offset = 0 ∧ (dW P tv 1).offset = 1 ∧ (dW P tv 2).offset = 2 ∧ (dW P tv 3).offset = 3 ∧ (dW P tv 4).offset = 4)
  (hwf : ∀ k n sc s it, tD k → tD n → tD sc → (∀ x ∈ it, wf x) → wf ⟨k, n, sc, s, it⟩) (hsz : ∀ k n sc s it, sz ⟨k, n, sc, s, it⟩ ≤ s.size + (it.map sz).sum + 6) :
  ∀ N, ot B P N tv ac.cells wf sz := by
 obtain ⟨t0, t1, t2, t3, t4⟩ := ht
 obtain ⟨o0, o1, o2, o3, o4⟩ := ho
 obtain ⟨z0, z1, z2, z3⟩ := hz
 intro N
 induction N using Nat.strongRecOn with
 | _ N ih =>
  have I : ∀ (N : Nat) (f : Field), f.type = ti → ot B P N f.type (fun n : Int => [PV.s (.int .i64 n)]) (fun n => IntKind.min .i64 ≤ n ∧ n ≤ IntKind.max .i64) (fun _ => 1) := fun N f hf => ot.int (by rw [hf]; exact hi)
  have C : ∀ (f : Field), f.type = ti → ∀ x : Int, ([PV.s (.int .i64 x)] : List PV).length = P.cellsOf f.type := fun f hf x => by rw [hf, z1]; rfl
  refine ot.structF (α := ac) (cells := ac.cells) (wf' := wf) (size := sz) hu hL (by simp [t0, t1, t2, t3, t4, z0, z1, z2, z3]) (fun N' hN' =>
   Aw.cons o0 (C _ t0) (I N' _ t0) (Aw.cons (by rw [o1, t0, z1]) (C _ t1) (I N' _ t1) (Aw.cons (by rw [o2, t0, t1, z1]) (C _ t2) (I N' _ t2)
    (Aw.cons (c1 := fun s : ByteArray => [PV.s (.string s)]) (by rw [o3, t0, t1, t2, z1]) (fun x => by rw [t3, z2]; rfl) (ot.str (by rw [t3]; exact hs))
     (Aw.cons (c1 := fun xs : List ac => [PV.ro (xs.map ac.cells)]) (by rw [o4, t0, t1, t2, t3, z1, z2]) (fun x => by rw [t4, z3]; rfl)
      (ot.slice (e := tv) (by rw [t4]; exact hl) (fun x => by rw [z0]; cases x; rfl) (by omega) (fun N'' hN'' => ih N'' (by omega))) Aw.nil)))))
   (fun y => (⟨y.1, y.2.1, y.2.2.1, y.2.2.2.1, y.2.2.2.2.1⟩ : ac)) (fun y => ?_) (fun y h => hwf _ _ _ _ _ h.1 h.2.1 h.2.2.1 h.2.2.2.2.1) (fun y => ?_)
  ·simp only [ac.cells, ac.lcells_eq]
   rfl
  ·have := hsz y.1 y.2.1 y.2.2.1 y.2.2.2.1 y.2.2.2.2.1
   exact Nat.le_trans this (by show _ ≤ 1 + (1 + (1 + ((y.2.2.2.1).size + 1 + ((y.2.2.2.2.1.map sz).sum + 1 + 0)))) + 1; omega)
theorem Li {B : wd} {P : Program} {wfT : am → Prop} {szT : am → Nat} {wfF : ae → Prop} {szF : ae → Nat} (tt tf ti ts tb : TypeId) (hi : P.underlying ti = some (.int .i64)) (hs : P.underlying ts = some .string) (hb : P.underlying tb = some .bool) (hu : ix P tf = true)
  (hL : fieldsOf P tf = [dW P tf 0, dW P tf 1, dW P tf 2, dW P tf 3]) (hz : P.cellsOf tf = 6 ∧ P.cellsOf tt = 3 ∧ P.cellsOf ti = 1 ∧ P.cellsOf ts = 1 ∧ P.cellsOf tb = 1)
  (ht : (dW P tf 0).type = ti ∧ (dW P tf 1).type = ts ∧ (dW P tf 2).type = tb ∧ (dW P tf 3).type = tt)
  (ho : (dW P tf 0).offset = 0 ∧ (dW P tf 1).offset = 1 ∧ (dW P tf 2).offset = 2 ∧ (dW P tf 3).offset = 3)
  (hwf : ∀ i n q t, tD i → wfT t → wfF ⟨i, n, q, t⟩) (hsz : ∀ i n q t, szF ⟨i, n, q, t⟩ ≤ n.size + szT t + 4) {N : Nat} (ih : ∀ N', N' < N → ot B P N' tt am.cells wfT szT) :
  ot B P N tf am.fcell wfF szF := by
 obtain ⟨t0, t1, t2, t3⟩ := ht
 obtain ⟨o0, o1, o2, o3⟩ := ho
 obtain ⟨z0, z1, z2, z3, z4⟩ := hz
 refine ot.structF (α := ae) (cells := am.fcell) (wf' := wfF) (size := szF) hu hL (by simp [t0, t1, t2, t3, z0, z1, z2, z3, z4]) (fun N' hN' =>
  Aw.cons (c1 := fun n : Int => [PV.s (.int .i64 n)]) o0 (fun x => by rw [t0, z2]; rfl) (ot.int (by rw [t0]; exact hi))
   (Aw.cons (c1 := fun s : ByteArray => [PV.s (.string s)]) (by rw [o1, t0, z2]) (fun x => by rw [t1, z3]; rfl) (ot.str (by rw [t1]; exact hs))
    (Aw.cons (c1 := fun b : Bool => [PV.s (.bool b)]) (by rw [o2, t0, t1, z2, z3]) (fun x => by rw [t2, z4]; rfl) (ot.bool (by rw [t2]; exact hb))
     (Aw.cons (c1 := am.cells) (by rw [o3, t0, t1, t2, z2, z3, z4]) (fun x => by rw [t3, z1]; cases x; rfl) (by rw [t3]; exact ih N' hN') Aw.nil))))
  (fun y => (⟨y.1, y.2.1, y.2.2.1, y.2.2.2.1⟩ : ae)) (fun y => ?_) (fun y h => hwf _ _ _ _ h.1 h.2.2.2.1) (fun y => ?_)
 ·simp only [am.fcell, List.append_nil]
  rfl
 ·have := hsz y.1 y.2.1 y.2.2.1 y.2.2.2.1
  exact Nat.le_trans this (by show _ ≤ 1 + ((y.2.1).size + 1 + (1 + (szT y.2.2.2.1 + 0))) + 1; omega)
theorem RU {B : wd} {P : Program} {wfT : am → Prop} {szT : am → Nat} {wfF : ae → Prop} {szF : ae → Nat} (tt tf ti ts tb tl : TypeId) (hi : P.underlying ti = some (.int .i64)) (hs : P.underlying ts = some .string) (hb : P.underlying tb = some .bool)
  (hl : P.underlying tl = some (.slice tf)) (hu : ix P tf = true) (hu' : ix P tt = true)
  (hL : fieldsOf P tf = [dW P tf 0, dW P tf 1, dW P tf 2, dW P tf 3]) (hL' : fieldsOf P tt = [dW P tt 0, dW P tt 1, dW P tt 2]) (hz : P.cellsOf tf = 6 ∧ P.cellsOf tt = 3 ∧ P.cellsOf ti = 1 ∧ P.cellsOf ts = 1 ∧ P.cellsOf tb = 1) (hzl : P.cellsOf tl = 1)
  (ht : (dW P tf 0).type = ti ∧ (dW P tf 1).type = ts ∧ (dW P tf 2).type = tb ∧ (dW P tf 3).type = tt)
  (ho : (dW P tf 0).offset = 0 ∧ (dW P tf 1).offset = 1 ∧ (dW P tf 2).offset = 2 ∧ (dW P tf 3).offset = 3)
  (ht' : (dW P tt 0).type = ti ∧ (dW P tt 1).type = ti ∧ (dW P tt 2).type = tl)
  (ho' : (dW P tt 0).offset = 0 ∧ (dW P tt 1).offset = 1 ∧ (dW P tt 2).offset = 2)
  (hwf : ∀ i n q t, tD i → wfT t → wfF ⟨i, n, q, t⟩) (hsz : ∀ i n q t, szF ⟨i, n, q, t⟩ ≤ n.size + szT t + 4)
  (hwf' : ∀ k s fs, tD k → tD s → (∀ f ∈ fs, wfF f) → wfT ⟨k, s, fs⟩) (hsz' : ∀ k s fs, szT ⟨k, s, fs⟩ ≤ (fs.map szF).sum + 4) :
  ∀ N, ot B P N tt am.cells wfT szT := by
 intro N
 induction N using Nat.strongRecOn with
 | _ N ih =>
  have hF : ∀ N', N' ≤ N → ot B P N' tf am.fcell wfF szF := fun N' h => Li tt tf ti ts tb hi hs hb hu hL hz ht ho hwf hsz (fun N'' h'' => ih N'' (by omega))
  obtain ⟨t0, t1, t2⟩ := ht'
  obtain ⟨o0, o1, o2⟩ := ho'
  obtain ⟨z0, z1, z2, z3, z4⟩ := hz
  refine ot.structF (α := am) (cells := am.cells) (wf' := wfT) (size := szT) hu' hL' (by simp [t0, t1, t2, z1, z2, hzl]) (fun N' hN' =>
   Aw.cons (c1 := fun n : Int => [PV.s (.int .i64 n)]) o0 (fun x => by rw [t0, z2]; rfl) (ot.int (by rw [t0]; exact hi))
    (Aw.cons (c1 := fun n : Int => [PV.s (.int .i64 n)]) (by rw [o1, t0, z2]) (fun x => by rw [t1, z2]; rfl) (ot.int (by rw [t1]; exact hi))
     (Aw.cons (c1 := fun xs : List ae => [PV.ro (xs.map am.fcell)]) (by rw [o2, t0, t1, z2]) (fun x => by rw [t2, hzl]; rfl)
      (ot.slice (e := tf) (by rw [t2]; exact hl) (fun x => by rw [z0]; obtain ⟨_, _, _, ⟨_, _, _⟩⟩ := x; rfl) (by omega) (fun N'' hN'' => hF N'' (by omega))) Aw.nil)))
   (fun y => (⟨y.1, y.2.1, y.2.2.1⟩ : am)) (fun y => ?_) (fun y h => hwf' _ _ _ h.1 h.2.1 h.2.2.1) (fun y => ?_)
  ·simp only [am.cells, am.fcells_eq]
   rfl
  ·have := hsz' y.1 y.2.1 y.2.2.1
   exact Nat.le_trans this (by show _ ≤ 1 + (1 + ((y.2.2.1.map szF).sum + 1 + 0)) + 1; omega)
theorem Pc {B : wd} {P : Program} {wfT : am → Prop} {szT : am → Nat} {wfF : ae → Prop} {szF : ae → Nat} {szL : List ae → Nat} (tt tf ti ts tb tl : TypeId) (hi : P.underlying ti = some (.int .i64)) (hs : P.underlying ts = some .string) (hb : P.underlying tb = some .bool)
  (hl : P.underlying tl = some (.slice tf)) (hu : ix P tf = true) (hu' : ix P tt = true)
  (hL : fieldsOf P tf = [dW P tf 0, dW P tf 1, dW P tf 2, dW P tf 3]) (hL' : fieldsOf P tt = [dW P tt 0, dW P tt 1, dW P tt 2]) (hz : P.cellsOf tf = 6 ∧ P.cellsOf tt = 3 ∧ P.cellsOf ti = 1 ∧ P.cellsOf ts = 1 ∧ P.cellsOf tb = 1) (hzl : P.cellsOf tl = 1)
  (ht : (dW P tf 0).type = ti ∧ (dW P tf 1).type = ts ∧ (dW P tf 2).type = tb ∧ (dW P tf 3).type = tt)
  (ho : (dW P tf 0).offset = 0 ∧ (dW P tf 1).offset = 1 ∧ (dW P tf 2).offset = 2 ∧ (dW P tf 3).offset = 3)
  (ht' : (dW P tt 0).type = ti ∧ (dW P tt 1).type = ti ∧ (dW P tt 2).type = tl)
  (ho' : (dW P tt 0).offset = 0 ∧ (dW P tt 1).offset = 1 ∧ (dW P tt 2).offset = 2)
  (hwf : ∀ i n q t, tD i → wfT t → wfF ⟨i, n, q, t⟩) (hsz : ∀ i n q t, szF ⟨i, n, q, t⟩ ≤ n.size + szT t + 4)
  (hwf' : ∀ k s fs, tD k → tD s → (∀ f ∈ fs, wfF f) → wfT ⟨k, s, fs⟩) (hsz' : ∀ k s fs, szT ⟨k, s, fs⟩ ≤ (fs.map szF).sum + 4) (hszl : ∀ xs, szL xs ≤ (xs.map szF).sum + 1) (N : Nat) :
  ot B P N tl (fun xs : List ae => [PV.ro (af.els xs)]) (fun xs => ∀ x ∈ xs, wfF x) szL := by
 have hT := RU (B := B) (P := P) tt tf ti ts tb tl hi hs hb hl hu hu' hL hL' hz hzl ht ho ht' ho' hwf hsz hwf' hsz'
 have hF : ∀ N, ot B P N tf am.fcell wfF szF := fun N => Li tt tf ti ts tb hi hs hb hu hL hz ht ho hwf hsz (fun N' _ => hT N')
 refine ot.conv (ot.slice (e := tf) (cells := am.fcell) hl (fun x => by rw [hz.1]; obtain ⟨_, _, _, ⟨_, _, _⟩⟩ := x; rfl) (by rw [hz.1]; omega) (fun N' _ => hF N')) (fun x => ?_) (fun x h => h) hszl
 show [PV.ro (am.fcells x)] = _
 rw [am.fcells_eq]
theorem OQ {B : wd} {P : Program} {wf : ac → Prop} {sz : ac → Nat} {szL : List ac → Nat} (tv ti ts tl : TypeId) (hi : P.underlying ti = some (.int .i64)) (hs : P.underlying ts = some .string) (hl : P.underlying tl = some (.slice tv)) (hu : ix P tv = true)
  (hL : fieldsOf P tv = [dW P tv 0, dW P tv 1, dW P tv 2, dW P tv 3, dW P tv 4]) (hz : P.cellsOf tv = 5 ∧ P.cellsOf ti = 1 ∧ P.cellsOf ts = 1 ∧ P.cellsOf tl = 1)
  (ht : (dW P tv 0).type = ti ∧ (dW P tv 1).type = ti ∧ (dW P tv 2).type = ti ∧ (dW P tv 3).type = ts ∧ (dW P tv 4).type = tl)
  (ho : (dW P tv 0).offset = 0 ∧ (dW P tv 1).offset = 1 ∧ (dW P tv 2).offset = 2 ∧ (dW P tv 3).offset = 3 ∧ (dW P tv 4).offset = 4)
  (hwf : ∀ k n sc s it, tD k → tD n → tD sc → (∀ x ∈ it, wf x) → wf ⟨k, n, sc, s, it⟩) (hsz : ∀ k n sc s it, sz ⟨k, n, sc, s, it⟩ ≤ s.size + (it.map sz).sum + 6) (hszl : ∀ xs, szL xs ≤ (xs.map sz).sum + 1) (N : Nat) :
  ot B P N tl (fun xs : List ac => [PV.ro (ah.els xs)]) (fun xs => ∀ x ∈ xs, wf x) szL := by
 have hV := KR (B := B) (P := P) tv ti ts tl hi hs hl hu hL hz ht ho hwf hsz
 refine ot.conv (ot.slice (e := tv) (cells := ac.cells) hl (fun x => by rw [hz.1]; cases x; rfl) (by rw [hz.1]; omega) (fun N' _ => hV N')) (fun x => ?_) (fun x h => h) hszl
 show [PV.ro (ac.lcells x)] = _
 rw [ac.lcells_eq]
theorem Ia : ∀ xs : List Int, (xs.map (fun _ => (1 : Nat))).sum = xs.length
 | [] => rfl
 | x :: l => by rw [List.map_cons, List.sum_cons, Ia l, List.length_cons]; omega
theorem SP {B : wd} {P : Program} (tl ti : TypeId) (hl : P.underlying tl = some (.slice ti)) (hi : P.underlying ti = some (.int .i64)) (hz : P.cellsOf ti = 1) (N : Nat) :
  ot B P N tl (fun xs : List Int => [PV.ro (eI.els xs)]) (fun xs => ∀ x ∈ xs, tD x) (fun xs => xs.length) := by
 refine ot.conv (ot.slice (e := ti) (cells := fun n : Int => [PV.s (.int .i64 n)]) hl (fun x => by rw [hz]; rfl) (by rw [hz]; omega) (fun N' _ => ot.int hi)) (fun x => rfl) (fun x h => h) (fun xs => ?_)
 rw [Ia]; omega
theorem SD {B : wd} {P : Program} {wf : ac → Prop} {sz : ac → Nat} {szL : List ac → Nat} {szR : List (List ac) → Nat} (tr tv ti ts tl : TypeId) (hr : P.underlying tr = some (.slice tl)) (hi : P.underlying ti = some (.int .i64)) (hs : P.underlying ts = some .string) (hl : P.underlying tl = some (.slice tv)) (hu : ix P tv = true)
  (hL : fieldsOf P tv = [dW P tv 0, dW P tv 1, dW P tv 2, dW P tv 3, dW P tv 4]) (hz : P.cellsOf tv = 5 ∧ P.cellsOf ti = 1 ∧ P.cellsOf ts = 1 ∧ P.cellsOf tl = 1)
  (ht : (dW P tv 0).type = ti ∧ (dW P tv 1).type = ti ∧ (dW P tv 2).type = ti ∧ (dW P tv 3).type = ts ∧ (dW P tv 4).type = tl)
  (ho : (dW P tv 0).offset = 0 ∧ (dW P tv 1).offset = 1 ∧ (dW P tv 2).offset = 2 ∧ (dW P tv 3).offset = 3 ∧ (dW P tv 4).offset = 4)
  (hwf : ∀ k n sc s it, tD k → tD n → tD sc → (∀ x ∈ it, wf x) → wf ⟨k, n, sc, s, it⟩) (hsz : ∀ k n sc s it, sz ⟨k, n, sc, s, it⟩ ≤ s.size + (it.map sz).sum + 6) (hszl : ∀ xs, szL xs ≤ (xs.map sz).sum + 1) (hszr : ∀ xs, szR xs ≤ (xs.map szL).sum + 1) (N : Nat) :
  ot B P N tr (fun xs : List (List ac) => [PV.ro ((eL ah).els xs)]) (fun xs => ∀ r ∈ xs, ∀ x ∈ r, wf x) szR := by
 have hV := OQ (B := B) (P := P) (szL := szL) tv ti ts tl hi hs hl hu hL hz ht ho hwf hsz hszl
 refine ot.conv (ot.slice (e := tl) (cells := fun r : List ac => [PV.ro (ah.els r)]) hr (fun x => by rw [hz.2.2.2]; rfl) (by rw [hz.2.2.2]; omega) (fun N' _ => hV N')) (fun x => ?_) (fun x h => h) hszr
 rfl
end Go.SX
