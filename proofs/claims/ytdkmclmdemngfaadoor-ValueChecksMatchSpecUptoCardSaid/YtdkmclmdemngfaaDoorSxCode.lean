/- SX, twelfth part: code: rules. -/
import Derived.Test.YtdkmclmdemngfaaDoorSxEv3
namespace Go.SX
open Go
set_option linter.unusedVariables false
set_option linter.unusedSimpArgs false
set_option linter.unnecessarySimpa false

/-- which objects of the caller stay in their blocks -/
def fixB (n0 : Nat) (loose : List Nat) (id : Nat) : Bool := Nat.ble (id + 1) n0 && !(loose.any (Nat.beq id))

abbrev fixP (n0 : Nat) (loose : List Nat) : Nat → Prop := fun id => fixB n0 loose id = true

abbrev QT := Exit → Fr → St → Prop

def PostX (n n0 : Nat) (loose : List Nat) (ι : IM) (w : World) (st : St) (Q : QT) : Exit → Act → World → Prop :=
  fun e a w' => ∃ ι' fr' st', Q e fr' st' ∧ Rel ι' w' st' ∧ FRel n ι' w' st' a fr' ∧ Keeps (fixP n0 loose) ι w st ι' w' st'

/-- the code c, from the frame fr and the store st, ends as Q says -/
def XW (P : Program) (n n0 : Nat) (loose : List Nat) (c : Code) (Q : QT) (fr : Fr) (st : St) : Prop :=
  ∀ ι w a, Rel ι w st → FRel n ι w st a fr → c.wp P (PostX n n0 loose ι w st Q) a w

def thenQ (K : Fr → St → Prop) (Q : QT) : QT
  | .normal, fr, st => K fr st
  | e, fr, st => Q e fr st

def blockQ (id : Nat) (Q : QT) : QT
  | .exit id', fr, st => bif Nat.beq id' id then Q .normal fr st else Q (.exit id') fr st
  | e, fr, st => Q e fr st

section
variable {P : Program} {n n0 : Nat} {loose : List Nat} {Q : QT} {fr : Fr} {st : St} {c : Code}

theorem PostX.trans {ι ι' : IM} {w w' : World} {st st' : St} (k : Keeps (fixP n0 loose) ι w st ι' w' st') {e : Exit} {a : Act} {w'' : World} (h : PostX n n0 loose ι' w' st' Q e a w'') : PostX n n0 loose ι w st Q e a w'' := by
  obtain ⟨ι2, fr2, st2, h1, h2, h3, h4⟩ := h
  exact ⟨ι2, fr2, st2, h1, h2, h3, k.trans h4⟩

theorem XW.mono {Q' : QT} (h : XW P n n0 loose c Q fr st) (hq : ∀ e f s, Q e f s → Q' e f s) : XW P n n0 loose c Q' fr st :=
  fun ι w a hR hF => Go.wp_mono (h ι w a hR hF) fun e a' w' ⟨ι', fr', st', h1, h2⟩ => ⟨ι', fr', st', hq _ _ _ h1, h2⟩

theorem XW.seq {x y : Code} (he : c = .seq x y) (h : ∀ K : Fr → St → Prop, (∀ f s, XW P n n0 loose y Q f s → K f s) → XW P n n0 loose x (thenQ K Q) fr st) : XW P n n0 loose c Q fr st := by
  subst he
  have hx := h _ (fun _ _ h => h)
  intro ι w a hR hF
  refine Go.wp_seq (Go.wp_mono (hx ι w a hR hF) ?_)
  rintro e a' w' ⟨ι', fr', st', h1, h2, h3, h4⟩
  cases e with
  | normal => exact Go.wp_mono (h1 ι' w' a' h2 h3) fun e a w h => h.trans h4
  | _ => exact ⟨ι', fr', st', h1, h2, h3, h4⟩

theorem XW.skip (he : c = .skip) (h : Q .normal fr st) : XW P n n0 loose c Q fr st := by
  subst he
  exact fun ι w a hR hF => Go.wp_skip ⟨ι, fr, st, h, hR, hF, .refl⟩

theorem XW.ret (he : c = .ret) (h : Q .ret fr st) : XW P n n0 loose c Q fr st := by
  subst he
  exact fun ι w a hR hF => Go.wp_ret ⟨ι, fr, st, h, hR, hF, .refl⟩

theorem XW.exit {id : Nat} (he : c = .exit id) (h : Q (.exit id) fr st) : XW P n n0 loose c Q fr st := by
  subst he
  exact fun ι w a hR hF => Go.wp_exit ⟨ι, fr, st, h, hR, hF, .refl⟩

theorem XW.block {id : Nat} {x : Code} (he : c = .block id x) (h : XW P n n0 loose x (blockQ id Q) fr st) : XW P n n0 loose c Q fr st := by
  subst he
  intro ι w a hR hF
  refine Go.wp_block (Go.wp_mono (h ι w a hR hF) ?_)
  rintro e a' w' ⟨ι', fr', st', h1, h2⟩
  cases e with
  | exit id' =>
    simp only [Exit.inBlock]
    by_cases hid : id' = id
    · subst hid
      simp only [blockQ, Nat.beq_refl, cond_true] at h1
      rw [if_pos rfl]
      exact ⟨ι', fr', st', h1, h2⟩
    · have hb : Nat.beq id' id = false := by cases hq : Nat.beq id' id with | false => rfl | true => exact absurd (Nat.eq_of_beq_eq_true hq) hid
      simp only [blockQ, hb, cond_false] at h1
      rw [if_neg hid]
      exact ⟨ι', fr', st', h1, h2⟩
  | _ => exact ⟨ι', fr', st', h1, h2⟩

theorem XW.cond {x : Operand} {a b : Code} {t : Bool} (he : c = .cond x a b) (hx : rv fr x = .one (.pv (.s (.bool t)))) (ht : t = true → XW P n n0 loose a Q fr st) (hf : t = false → XW P n n0 loose b Q fr st) : XW P n n0 loose c Q fr st := by
  subst he
  intro ι w a hR hF
  have e := scalar_of (hx ▸ rv_rel hF x)
  cases t with
  | true => exact Go.wp_cond_true e (ht rfl ι w a hR hF)
  | false => exact Go.wp_cond_false e (hf rfl ι w a hR hF)

end

/-! ### loops -/

def rnd (P : Program) (c : Code) (Q : Exit → Act → World → Prop) : Nat → Act → World → Prop
  | 0, _, _ => False
  | k + 1, a, w => c.wp P (Exit.then (rnd P c Q k) Q) a w

theorem rnd_mono {P : Program} {c : Code} {Q Q' : Exit → Act → World → Prop} (hq : ∀ e a w, Q e a w → Q' e a w) : ∀ {k : Nat} {a : Act} {w : World}, rnd P c Q k a w → rnd P c Q' k a w
  | 0, _, _, h => h
  | k + 1, a, w, h => Go.wp_mono h fun e a' w' h' => by
    cases e with
    | normal => exact rnd_mono hq h'
    | _ => exact hq _ _ _ h'

theorem wp_of_rnd {P : Program} {c : Code} {Q : Exit → Act → World → Prop} : ∀ (k : Nat) (a : Act) (w : World), rnd P c Q k a w → ∀ (b : Frame) (kk : List Item) (cs : List Frame),
    ∃ e a' w', Q e a' w' ∧ Arrives P (lone (b.at a (.code c :: .inLoop c :: kk)) cs w) b kk cs e a' w'
  | 0, _, _, h, _, _, _ => h.elim
  | k + 1, a, w, h, b, kk, cs => by
    obtain ⟨e, a₁, w₁, hq, harr⟩ := h b (.inLoop c :: kk) cs
    cases e with
    | normal =>
      obtain ⟨e₂, a₂, w₂, hq₂, harr₂⟩ := wp_of_rnd k a₁ w₁ hq b kk cs
      exact ⟨e₂, a₂, w₂, hq₂, .of_steps (Steps.trans harr (.one step_inLoop)) harr₂⟩
    | exit id => exact ⟨_, a₁, w₁, hq, .pass (x := .inLoop c) rfl (fun _ _ => .inl (by simp)) harr⟩
    | goto l => exact ⟨_, a₁, w₁, hq, .pass (x := .inLoop c) rfl (fun _ _ => .inl (by simp)) harr⟩
    | ret => exact ⟨_, a₁, w₁, hq, .pass (x := .inLoop c) rfl (fun _ _ => .inl (by simp)) harr⟩
    | panic ch => exact ⟨_, a₁, w₁, hq, .pass (x := .inLoop c) rfl (fun _ _ => .inl (by simp)) harr⟩
    | outgrown => exact ⟨_, a₁, w₁, hq, .pass (x := .inLoop c) rfl (fun _ _ => .inl (by simp)) harr⟩

/-- at most k rounds -/
def XR (P : Program) (n n0 : Nat) (loose : List Nat) (c : Code) (Q : QT) : Nat → Fr → St → Prop
  | 0, _, _ => False
  | k + 1, fr, st => XW P n n0 loose c (thenQ (XR P n n0 loose c Q k) Q) fr st

section
variable {P : Program} {n n0 : Nat} {loose : List Nat} {Q : QT} {fr : Fr} {st : St} {c : Code}

theorem XR.rnd {x : Code} : ∀ (k : Nat) (fr : Fr) (st : St), XR P n n0 loose x Q k fr st → ∀ ι w a, Rel ι w st → FRel n ι w st a fr → SX.rnd P x (PostX n n0 loose ι w st Q) k a w
  | 0, _, _, h, _, _, _, _, _ => h.elim
  | k + 1, fr, st, h, ι, w, a, hR, hF => by
    refine Go.wp_mono (h ι w a hR hF) ?_
    rintro e a' w' ⟨ι', fr', st', h1, h2, h3, h4⟩
    cases e with
    | normal => exact rnd_mono (fun e a w h => h.trans h4) (XR.rnd k fr' st' h1 ι' w' a' h2 h3)
    | _ => exact ⟨ι', fr', st', h1, h2, h3, h4⟩

theorem XW.rounds {x : Code} (k : Nat) (he : c = .loop x) (h : XR P n n0 loose x Q k fr st) : XW P n n0 loose c Q fr st := by
  subst he
  intro ι w a hR hF b kk cs
  obtain ⟨e, a', w', hq, harr⟩ := wp_of_rnd k a w (XR.rnd k fr st h ι w a hR hF) b kk cs
  exact ⟨e, a', w', hq, .of_steps (.one step_loop) harr⟩

/-! ### another frame, another store -/

/-- (fr, st) may be taken for (fr', st') -/
def Sub (n n0 : Nat) (loose : List Nat) (fr : Fr) (st : St) (fr' : Fr) (st' : St) : Prop :=
  ∀ ι w a, Rel ι w st → FRel n ι w st a fr → ∃ ι', Rel ι' w st' ∧ FRel n ι' w st' a fr' ∧ Keeps (fixP n0 loose) ι w st ι' w st'

theorem XW.sub {fr' : Fr} {st' : St} (hs : Sub n n0 loose fr st fr' st') (h : XW P n n0 loose c Q fr' st') : XW P n n0 loose c Q fr st := by
  intro ι w a hR hF
  obtain ⟨ι', h1, h2, h3⟩ := hs ι w a hR hF
  exact Go.wp_mono (h ι' w a h1 h2) fun e a w h => h.trans h3

theorem XR.sub {fr' : Fr} {st' : St} {k : Nat} (hs : Sub n n0 loose fr st fr' st') (h : XR P n n0 loose c Q k fr' st') : XR P n n0 loose c Q k fr st := by
  cases k with
  | zero => exact h
  | succ k => exact XW.sub hs h

/-- a value that may be taken for another -/
inductive CLe : CV → CV → Prop where
  | rfl (c : CV) : CLe c c
  | nl : CLe (.pv (.s (.slice none 0 0))) (.pv (.ro []))

inductive ALe : AV → AV → Prop where
  | rfl (a : AV) : ALe a a
  | j (a : AV) : ALe a .j
  | one {c c' : CV} (h : CLe c c') : ALe (.one c) (.one c')
  | ag {cs cs' : List CV} (hl : cs.length = cs'.length) (h : ∀ (i : Nat) c c', cs[i]? = some c → cs'[i]? = some c' → CLe c c') : ALe (.ag cs) (.ag cs')

theorem VRel.le {ι : IM} {w : World} {st : St} {v : Value} {c c' : CV} (h : VRel ι w st v c) (hl : CLe c c') : VRel ι w st v c' := by
  cases hl with
  | rfl => exact h
  | nl =>
    have := scalar_of (AVRel.one _ _ h)
    subst this
    exact .pv _ _ .nl

theorem AVRel.le {ι : IM} {w : World} {st : St} {v : Value} {a a' : AV} (h : AVRel ι w st v a) (hl : ALe a a') : AVRel ι w st v a' := by
  cases hl with
  | rfl => exact h
  | j => exact .j _
  | one hc => exact .one _ _ ((cv_of h).le hc)
  | ag hlen hc =>
    obtain ⟨vs, rfl, h1, h2⟩ := ag_of h
    refine .ag _ _ ⟨h1.trans hlen, fun j v c a1 a2 => ?_⟩
    have hlt : j < _ := (List.getElem?_eq_some_iff.1 a2).1
    rw [← hlen] at hlt
    exact (h2 j v _ a1 (List.getElem?_eq_getElem hlt)).le (hc j _ c (List.getElem?_eq_getElem hlt) a2)

/-- every entry of fr' is given by fr -/
def FLe (fr : Fr) : Fr → Prop
  | [] => True
  | (t, av) :: l => ALe (lk fr t) av ∧ FLe fr l

theorem FLe.get {fr : Fr} : ∀ {fr' : Fr}, FLe fr fr' → ∀ t, ALe (lk fr t) (lk fr' t)
  | [], _, t => .j _
  | (d, av) :: l, h, t => by
    simp only [lk]
    cases hb : Nat.beq d t with
    | true => have := Nat.eq_of_beq_eq_true hb; subst this; exact h.1
    | false => exact FLe.get h.2 t

theorem Sub.frame {fr' : Fr} (h : FLe fr fr') : Sub n n0 loose fr st fr' st :=
  fun ι w a hR hF => ⟨ι, hR, ⟨hF.defers, hF.size, fun t => (hF.slot t).le (h.get t)⟩, .refl⟩

theorem Sub.trans {fr' fr'' : Fr} {st' st'' : St} (h : Sub n n0 loose fr st fr' st') (k : Sub n n0 loose fr' st' fr'' st'') : Sub n n0 loose fr st fr'' st'' := by
  intro ι w a hR hF
  obtain ⟨ι', h1, h2, h3⟩ := h ι w a hR hF
  obtain ⟨ι'', k1, k2, k3⟩ := k ι' w a h1 h2
  exact ⟨ι'', k1, k2, h3.trans k3⟩

end

/-! ### straight code in one step -/

def guardOk (ops : Array Oper) (o : Oper) (fr : Fr) : Option Bool :=
  match o.guard with
  | none => some true
  | some (j, want) =>
    match (ops[j]?).bind (·.dst) with
    | some d => match lk fr d with
      | .one (.pv (.s (.bool b))) => some (b == want)
      | .tp [] => some false
      | _ => none
    | none => none

theorem undef_rel {ι : IM} {w : World} {st : St} : AVRel ι w st undef (.tp []) := .tp [] [] rfl (fun j v a h => by simp at h)

theorem guard_sound {ops : Array Oper} {o : Oper} {fr : Fr} {g : Bool} (h : guardOk ops o fr = some g) {n : Nat} {ι : IM} {w : World} {st : St} {a : Act} (hF : FRel n ι w st a fr) : Region.wanted o (yielded ops a.tmps) = g := by
  unfold guardOk at h
  unfold Region.wanted
  cases hg : o.guard with
  | none => simp [hg] at h; subst h; rfl
  | some jw =>
    obtain ⟨j, want⟩ := jw
    simp only [hg] at h ⊢
    cases hd : (ops[j]?).bind (·.dst) with
    | none => simp [hd] at h
    | some d =>
      simp only [hd] at h
      split at h
      · rename_i b hb
        simp only [Option.some.injEq] at h
        have hs := hF.slot d
        rw [hb] at hs
        have e := scalar_of hs
        have e2 : a.tmps[d]? = some (.bool b) := by
          cases hq : a.tmps[d]? with
          | none => simp [hq, undef] at e
          | some u => simp [hq] at e; rw [e]
        simp only [yielded, hd, Option.bind_some, e2]
        rw [← h]
        cases b <;> cases want <;> rfl
      · rename_i hb
        simp only [Option.some.injEq] at h
        have hs := hF.slot d
        rw [hb] at hs
        have e : a.tmps.getD d undef = .tuple #[] := by
          generalize a.tmps.getD d undef = u at hs
          cases hs with
          | tp vs _ hl _ =>
            have : vs = [] := List.eq_nil_of_length_eq_zero (by simpa using hl)
            subst this
            rfl
        simp only [yielded, hd, Option.bind_some]
        rw [← h]
        cases hq : a.tmps[d]? with
        | none => rfl
        | some u =>
          simp [hq] at e
          rw [e]
          rfl
      · simp at h

/-- the frame behind an operation -/
def putF (n : Nat) (dst : Option Nat) (av : AV) (fr : Fr) : Option Fr :=
  match dst with
  | none => some fr
  | some d => bif Nat.ble (d + 1) n then some ((d, av) :: fr) else none

def isMu (an : List Nat) (o : Oper) : Bool :=
  match o.dst with
  | some d => an.any (Nat.beq d)
  | none => false

def mvOk (n0 : Nat) (loose : List Nat) : Option Nat → Bool
  | none => true
  | some m => !fixB n0 loose m

def mvF : Option Nat → Fr → Fr
  | none, fr => fr
  | some m, fr => keepF (stays (some m)) fr

/-- what straight code comes to -/
structure ES where
  ex : Exit
  fr : Fr
  st : St
  hs : HS
  ob : List Prop

def evOps (P : Program) (n n0 : Nat) (loose an : List Nat) (ops : Array Oper) : List Oper → Fr → St → HS → Option ES
  | [], fr, st, hs => some ⟨.normal, fr, st, hs, []⟩
  | o :: rest, fr, st, hs =>
    match guardOk ops o fr with
    | some true =>
      match ev P (isMu an o) o fr st hs with
      | some out =>
        bif mvOk n0 loose out.mv then
          match putF n o.dst out.av (mvF out.mv fr) with
          | some fr' =>
            match evOps P n n0 loose an ops rest fr' out.st out.hs with
            | some r => some ⟨r.ex, r.fr, r.st, r.hs, out.ob ++ r.ob⟩
            | none => none
          | none => none
        else none
      | none => none
    | some false =>
      match putF n o.dst (.tp []) fr with
      | some fr' => evOps P n n0 loose an ops rest fr' st hs
      | none => none
    | none => none

theorem upon_mono {P : Program} {o : Oper} {a : Act} {K K' : Act → World → Prop} {Q Q' : Exit → Act → World → Prop} (hk : ∀ a w, K a w → K' a w) (hq : ∀ e a w, Q e a w → Q' e a w) {r : Result Next} (h : o.upon P a K Q r) : o.upon P a K' Q' r := by
  have hl : LetsOut Q → LetsOut Q' := fun ⟨a, w, h⟩ => ⟨a, w, hq _ _ _ h⟩
  cases r with
  | ok nx w =>
    cases nx <;> simp only [Oper.upon] at h ⊢ <;> first
      | exact hk _ _ h
      | exact Calls.mono h (fun e w'' he => by cases e <;> first | exact hk _ _ he | exact hq _ _ _ he | exact hl he)
      | exact Rows.mono h (fun _ _ he => hk _ _ he)
  | halt x w => cases x <;> simp only [Oper.upon] at h ⊢ <;> exact hq _ _ _ h

theorem wpList_post {P : Program} {ops : Array Oper} {Q Q' : Exit → Act → World → Prop} (hq : ∀ e a w, Q e a w → Q' e a w) : ∀ {l : List Oper} {a : Act} {w : World}, wpList P ops Q l a w → wpList P ops Q' l a w
  | [], _, _, h => hq _ _ _ h
  | o :: l, a, w, h => by
    unfold wpList at h ⊢
    split
    · rename_i hw
      rw [if_pos hw] at h
      rcases h with h | ⟨h1, a0, w0, h2⟩
      · exact .inl (upon_mono (fun a w h => wpList_post hq h) hq h)
      · exact .inr ⟨h1, a0, w0, hq _ _ _ h2⟩
    · rename_i hw
      rw [if_neg hw] at h
      exact wpList_post hq h

/-- operations, then the rest of them -/
def XO (P : Program) (n n0 : Nat) (loose : List Nat) (ops : Array Oper) (l : List Oper) (Q : QT) (fr : Fr) (st : St) : Prop :=
  ∀ ι w a, Rel ι w st → FRel n ι w st a fr → wpList P ops (PostX n n0 loose ι w st Q) l a w

section
variable {P : Program} {n n0 : Nat} {loose an : List Nat} {Q : QT} {fr : Fr} {st : St} {c : Code}

theorem putF_rel {dst : Option Nat} {av : AV} {fr fr' : Fr} (h : putF n dst av fr = some fr') {ι : IM} {w : World} {st : St} {a : Act} (hF : FRel n ι w st a fr) {v : Value} (hv : AVRel ι w st v av) : FRel n ι w st (a.put dst v) fr' := by
  cases dst with
  | none => simp [putF] at h; subst h; exact hF
  | some d =>
    simp only [putF] at h
    cases hb : Nat.ble (d + 1) n with
    | false => simp [hb] at h
    | true =>
      simp [hb] at h
      subst h
      exact hF.put (Nat.le_of_ble_eq_true hb) hv

theorem mvF_rel {mv : Option Nat} {ι ι' : IM} {w w' : World} {st st' : St} (k : Keeps (fun id => stays mv id = true) ι w st ι' w' st') {a : Act} (hF : FRel n ι w st a fr) : FRel n ι' w' st' a (mvF mv fr) := by
  cases mv with
  | none => exact hF.mono' (k.weaken (fun id _ => rfl))
  | some m => exact hF.keep k (q := stays (some m)) (fun _ h _ => h)

theorem mvOk_fix {mv : Option Nat} (h : mvOk n0 loose mv = true) : ∀ id, fixP n0 loose id → stays mv id = true := by
  intro id hid
  cases mv with
  | none => rfl
  | some m =>
    simp only [stays]
    cases hb : Nat.beq id m with
    | false => rfl
    | true =>
      have := Nat.eq_of_beq_eq_true hb
      subst this
      simp only [mvOk] at h
      rw [show fixB n0 loose id = true from hid] at h
      cases h

theorem XO.nil {ops : Array Oper} (h : Q .normal fr st) : XO P n n0 loose ops [] Q fr st :=
  fun ι w a hR hF => ⟨ι, fr, st, h, hR, hF, .refl⟩

theorem XO.run {ops : Array Oper} {rest : List Oper} : ∀ {l : List Oper} {fr : Fr} {st : St} {hs : HS} {r : ES}, evOps P n n0 loose an ops l fr st hs = some r → AllP r.ob → XO P n n0 loose ops rest Q r.fr r.st → XO P n n0 loose ops (l ++ rest) Q fr st
  | [], fr, st, hs, r, h, hob, hk => by
    simp only [evOps, Option.some.injEq] at h
    subst h
    exact hk
  | o :: l, fr, st, hs, r, h, hob, hk => by
    intro ι w a hR hF
    simp only [evOps] at h
    split at h
    · rename_i hg
      have hw := guard_sound hg hF
      split at h
      · rename_i out hev
        cases hmv : mvOk n0 loose out.mv with
        | false => simp [hmv] at h
        | true =>
          simp only [hmv, cond_true] at h
          split at h
          · rename_i fr' hp
            split at h
            · rename_i r' hr
              simp only [Option.some.injEq] at h
              subst h
              obtain ⟨hob1, hob2⟩ := AllP.append hob
              obtain ⟨v, w', ι', hrun, hR', hv, k⟩ := ev_sound hev hob1 hR hF
              have hF' := putF_rel hp (mvF_rel k hF) hv
              have hrest := XO.run hr hob2 hk ι' w' _ hR' hF'
              have kk := k.weaken (mvOk_fix hmv)
              refine wpList_step fun K hK => ?_
              rw [if_pos hw]
              have hgoal : wpList P ops (PostX n n0 loose ι w st Q) (l ++ rest) (a.put o.dst v) w' := wpList_post (fun e a w h => h.trans kk) hrest
              rcases hrun with h1 | ⟨h1, rfl⟩
              · simp only [Oper.wp, h1, Oper.upon]; exact hK _ _ hgoal
              · simp only [Oper.wp, h1, Oper.upon]; exact hK _ _ hgoal
            · simp at h
          · simp at h
      · simp at h
    · rename_i hg
      have hw := guard_sound hg hF
      split at h
      · rename_i fr' hp
        have hF' := putF_rel hp hF undef_rel
        have hrest := XO.run h hob hk ι w _ hR hF'
        refine wpList_step fun K hK => ?_
        rw [if_neg (by rw [hw]; simp)]
        exact hK _ _ hrest
      · simp at h
    · simp at h

end

end Go.SX
