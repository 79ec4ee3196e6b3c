/- SX, eighteenth part: rules as the printed proofs use them. -/
import Derived.Test.YtdkmclmdemngfaaDoorSxPath
namespace Go.SX
open Go
set_option linter.unusedVariables false
set_option linter.unusedSimpArgs false
set_option linter.unnecessarySimpa false

section
variable {P : Program} {n n0 : Nat} {loose an : List Nat} {Q : QT} {fr : Fr} {st : St} {c : Code} {ops : Array Oper}

/-- a loop: what stands behind it under a name -/
theorem XW.rounds' {x : Code} (k : Nat) (he : c = .loop x) (h : ∀ Q1 : QT, (∀ e f s, Q e f s → Q1 e f s) → XR P n n0 loose x Q1 k fr st) : XW P n n0 loose c Q fr st :=
  XW.rounds k he (h Q (fun _ _ _ h => h))

def pickF (ts : List Nat) (fr : Fr) : Fr := ts.map fun t => (t, lk fr t)

theorem FLe.pick (fr : Fr) : ∀ ts, FLe fr (pickF ts fr)
  | [] => trivial
  | t :: l => ⟨.rfl _, FLe.pick fr l⟩

theorem Sub.pick {fr' : Fr} (ts : List Nat) (h : pickF ts fr = fr') : Sub n n0 loose fr st fr' st := h ▸ Sub.frame (FLe.pick fr ts)

theorem ALe.of_eq {a a' : AV} (h : a = a') : ALe a a' := h ▸ .rfl _

theorem Sub.eq {fr' : Fr} {st' : St} (h : fr = fr') (k : st = st') : Sub n n0 loose fr st fr' st' := by
  subst h; subst k
  exact fun ι w a hR hF => ⟨ι, hR, hF, .refl⟩

/-- the objects from m on are left -/
theorem Sub.take {fr' : Fr} (m : Nat) (hn : n0 ≤ m) (hf : keepF (fun id => Nat.ble (id + 1) m) fr = fr') (hi : stIds (fun id => Nat.ble (id + 1) m) (st.take m) = true) : Sub n n0 loose fr st fr' (st.take m) := by
  subst hf
  intro ι w a hR hF
  have hs : SubSt (fun id => Nat.ble (id + 1) m) st (st.take m) := by
    refine ⟨fun id o h => .inr ?_, fun id hq hid => ?_⟩
    · rw [List.getElem?_take] at h
      split at h
      · rename_i hlt; exact ⟨Nat.ble_eq_true_of_le hlt, h⟩
      · cases h
    · have := Nat.le_of_ble_eq_true hq
      simp; omega
  obtain ⟨r1, k1⟩ := hR.shrink hs hi
  refine ⟨ι, r1, hF.keep k1 (q := fun id => Nat.ble (id + 1) m) (fun _ h _ => h), k1.weaken (fun id h => ?_)⟩
  have h1 : fixB n0 loose id = true := h
  simp only [fixB, Bool.and_eq_true] at h1
  have := Nat.le_of_ble_eq_true h1.1
  exact Nat.ble_eq_true_of_le (by omega)

/-- a nil slice in a slot is a list of our own -/
theorem Sub.list {t sz : Nat} (h : lk fr t = .one (.pv (.s (.slice none 0 0)))) : Sub n n0 loose fr st ((t, .one (.sl st.length sz 0 0)) :: fr) (st ++ [.arr sz []]) := by
  intro ι w a hR hF
  obtain ⟨a1, a2, a3⟩ := row_nil (ι := ι) (w := w) (st := st) hR sz
  refine ⟨_, a1, ⟨hF.defers, hF.size, fun t' => ?_⟩, a2.weaken (fun _ _ => trivial)⟩
  simp only [lk]
  cases hb : Nat.beq t t' with
  | true =>
    have := Nat.eq_of_beq_eq_true hb
    subst this
    have := hF.slot t
    rw [h] at this
    rw [scalar_of this]
    exact .one _ _ a3
  | false => exact (hF.slot t').mono' a2

theorem XO.sub {l : List Oper} {fr' : Fr} {st' : St} (hs : Sub n n0 loose fr st fr' st') (h : XO P n n0 loose ops l Q fr' st') : XO P n n0 loose ops l Q fr st := by
  intro ι w a hR hF
  obtain ⟨ι', h1, h2, h3⟩ := hs ι w a hR hF
  exact wpList_post (fun e a w h => h.trans h3) (h ι' w a h1 h2)

/-! regions by their code -/

def regOps : Code → Array Oper
  | .region _ ops _ => ops
  | _ => #[]

def regKind : Code → Option Bool
  | .region _ _ d => some d
  | _ => none

theorem XW.reg (he : regKind c = some false) (h : XO P n n0 loose (regOps c) (regOps c).toList Q fr st) : XW P n n0 loose c Q fr st := by
  cases c <;> simp only [regKind] at he <;> try (cases he; done)
  simp only [Option.some.injEq] at he
  subst he
  exact XO.region rfl h

/-- the next k operations -/
theorem XO.steps {l : List Oper} (k : Nat) {hs : HS} {r : ES} (h : evOps P n n0 loose an ops (l.take k) fr st hs = some r) (hob : AllP r.ob) (hk : XO P n n0 loose ops (l.drop k) Q r.fr r.st) : XO P n n0 loose ops l Q fr st := by
  have := XO.run (rest := l.drop k) h hob hk
  rwa [List.take_append_drop] at this

/-- the last ones -/
theorem XO.last {l : List Oper} {hs : HS} {r : ES} (h : evOps P n n0 loose an ops l fr st hs = some r) (hob : AllP r.ob) (hk : Q .normal r.fr r.st) : XO P n n0 loose ops l Q fr st := by
  have := XO.run (rest := []) h hob (XO.nil (P := P) (n := n) (n0 := n0) (loose := loose) (ops := ops) hk)
  rwa [List.append_nil] at this

def callHd (P : Program) (n : Nat) (ops : Array Oper) (l : List Oper) (fr : Fr) : Option (Nat × List AV) :=
  match l with
  | o :: _ => match guardOk ops o fr with
    | some true => callAt P o fr
    | _ => none
  | [] => none

def putHd (n : Nat) (l : List Oper) (r : AV) (fr : Fr) : Option Fr :=
  match l with
  | o :: _ => putF n o.dst r fr
  | [] => none

/-- a call of a function of pure values -/
theorem XO.callp {l : List Oper} {g : Nat} {as : List AV} {r : AV} {fr' : Fr} (hc : callHd P n ops l fr = some (g, as)) (h : PC P g as r) (hp : pureAs as = true) (hr : pureA r = true) (hput : putHd n l r fr = some fr')
    (hk : XO P n n0 loose ops (l.drop 1) Q fr' st) : XO P n n0 loose ops l Q fr st := by
  cases l with
  | nil => simp [callHd] at hc
  | cons o rest =>
    simp only [callHd] at hc
    split at hc
    · rename_i hg
      exact XO.call hg hc h hp hr hput (by simpa using hk)
    · simp at hc

theorem XW.regd {as : List AV} {fr' : Fr} (he : regKind c = some true) (hm : (drawOk (regOps c) && P.follows .mixedOrders) = true)
    (hs : StepsOk P n st (regOps c) (regOps c).toList as fr ∧ putAll (regOps c).toList as fr = fr') (hQ : Q .normal fr' st) : XW P n n0 loose c Q fr st := by
  cases c <;> simp only [regKind] at he <;> try (cases he; done)
  simp only [Option.some.injEq] at he
  subst he
  simp only [Bool.and_eq_true] at hm
  exact XW.draw rfl hm.2 hm.1 hs.1 (hs.2 ▸ hQ)

/-- both halves of what is asked of a region that draws -/
def DOk (P : Program) (n : Nat) (st : St) (ops : Array Oper) (l : List Oper) (as : List AV) (fr fr' : Fr) : Prop := StepsOk P n st ops l as fr ∧ putAll l as fr = fr'

theorem DOk.nil : DOk P n st ops [] [] fr fr := ⟨trivial, rfl⟩

theorem DOk.steps {l : List Oper} (k : Nat) {as2 : List AV} {fr' : Fr} {hs : HS} {r : DS} (h : evDs P n st ops (l.take k) fr hs = some r) (hob : AllP r.ob) (hk : DOk P n st ops (l.drop k) as2 r.fr fr') : DOk P n st ops l (r.as ++ as2) fr fr' := by
  have := evDs_sound (rest := l.drop k) (as2 := as2) h hob hk.1
  rw [List.take_append_drop] at this
  exact ⟨this.1, this.2.trans hk.2⟩

def callHdD (P : Program) (n : Nat) (ops : Array Oper) (l : List Oper) (fr : Fr) : Option (Nat × List AV) :=
  match l with
  | o :: _ => match guardOk ops o (looksR ops o fr) with
    | some true => bif (match o.dst with | some d => Nat.ble (d + 1) n | none => true) then callAt P o (looksR ops o fr) else none
    | _ => none
  | [] => none

def putHdD (l : List Oper) (r : AV) (fr : Fr) : Fr :=
  match l with
  | o :: _ => putL o.dst r fr
  | [] => fr

theorem DOk.callp {l : List Oper} {g : Nat} {as as2 : List AV} {r : AV} {fr1 fr' : Fr} (hc : callHdD P n ops l fr = some (g, as)) (h : PC P g as r) (hp : pureAs as = true) (hr : pureA r = true) (hput : putHdD l r fr = fr1)
    (hk : DOk P n st ops (l.drop 1) as2 fr1 fr') : DOk P n st ops l (r :: as2) fr fr' := by
  cases l with
  | nil => simp [callHdD] at hc
  | cons o rest =>
    simp only [callHdD] at hc
    split at hc
    · rename_i hg
      cases hb : (match o.dst with | some d => Nat.ble (d + 1) n | none => true) with
      | false => simp [hb] at hc
      | true =>
        simp only [hb, cond_true] at hc
        simp only [putHdD] at hput
        subst hput
        obtain ⟨k1, k2⟩ := hk
        simp only [List.drop_succ_cons, List.drop_zero] at k1 k2
        refine ⟨⟨⟨fun d hd => ?_, .inl ⟨hg, Yd.call hc h hp hr⟩⟩, k1⟩, k2⟩
        rw [hd] at hb
        exact Nat.le_of_ble_eq_true hb
    · simp at hc

theorem DOk.eq {l : List Oper} {as : List AV} {fr1 fr' : Fr} (he : fr = fr1) (h : DOk P n st ops l as fr1 fr') : DOk P n st ops l as fr fr' := he ▸ h

/-- arguments that may be taken for others -/
def ALes : List AV → List AV → Prop
  | [], [] => True
  | a :: l, b :: m => ALe a b ∧ ALes l m
  | _, _ => False

theorem ALes.get : ∀ {l m : List AV}, ALes l m → l.length = m.length ∧ ∀ (j : Nat) a b, l[j]? = some a → m[j]? = some b → ALe a b
  | [], [], _ => ⟨rfl, fun j a b h => by simp at h⟩
  | [], _ :: _, h => h.elim
  | _ :: _, [], h => h.elim
  | a :: l, b :: m, h => by
    obtain ⟨e1, e2⟩ := ALes.get h.2
    refine ⟨by simp [e1], fun j x y h1 h2 => ?_⟩
    cases j with
    | zero => simp at h1 h2; subst h1; subst h2; exact h.1
    | succ j => exact e2 j x y (by simpa using h1) (by simpa using h2)

theorem PC.le {g : Nat} {as as' : List AV} {r : AV} (h : PC P g as r) (hl : ALes as' as) : PC P g as' r := by
  intro ι w vs hR hA
  obtain ⟨e1, e2⟩ := hl.get
  refine h ι w vs hR ⟨hA.1.trans e1, fun j v a h1 h2 => ?_⟩
  have hlt : j < as'.length := by rw [e1]; exact (List.getElem?_eq_some_iff.1 h2).1
  exact (hA.2 j v _ h1 (List.getElem?_eq_getElem hlt)).le (e2 j _ a (List.getElem?_eq_getElem hlt) h2)

/-- the body's end -/
theorem FinP.mk {fn : Func} {r : AV} {e : Exit} (he : e = .normal ∨ e = .ret) {hs : HS} {as : List AV} {ob : List Prop} (h : resAll P fr st fn.results.toList hs = some (as, ob)) (hob : AllP ob) (ha : AF st (fun _ => false) (resAV as) r) : FinP P fn r e fr st :=
  ⟨he, hs, as, ob, h, hob, ha⟩

end

/-- the most rounds that a loop is given -/
def BIG : Nat := 1152921504606846976

end Go.SX
