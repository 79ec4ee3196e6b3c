/- SX, nineteenth part: what the printed functions and proofs use: guards, reads of lists, encodings. -/
import Derived.Test.YtdkmclmdemngfaaDoorSxRules
namespace Go.SX
open Go
set_option linter.unusedVariables false
set_option linter.unusedSimpArgs false
set_option linter.unnecessarySimpa false

/-! ### pure functions -/

def bnd {α β : Type} (o : Option α) (f : α → Option β) : Option β := match o with
  | none => none
  | some a => f a

def grd {β : Type} (p : Prop) [Decidable p] (x : Option β) : Option β := if p then x else none

theorem bnd_some {α β : Type} {o : Option α} {f : α → Option β} {r : β} (h : bnd o f = some r) : ∃ a, o = some a ∧ f a = some r := by
  cases o with
  | none => cases h
  | some a => exact ⟨a, rfl, h⟩

theorem grd_some {β : Type} {p : Prop} [Decidable p] {x : Option β} {r : β} (h : grd p x = some r) : p ∧ x = some r := by
  unfold grd at h
  split at h
  · rename_i hp; exact ⟨hp, h⟩
  · cases h

def ift {β : Type} (b : Bool) (x y : Option β) : Option β := match b with
  | true => x
  | false => y

theorem ift_t {β : Type} {b : Bool} {x y : Option β} {r : β} (hb : b = true) (h : ift b x y = some r) : x = some r := by subst hb; exact h
theorem ift_f {β : Type} {b : Bool} {x y : Option β} {r : β} (hb : b = false) (h : ift b x y = some r) : y = some r := by subst hb; exact h

theorem bnd_eq {α β : Type} {a : α} {f : α → Option β} : bnd (some a) f = f a := rfl
theorem bnd_none {α β : Type} {f : α → Option β} : bnd none f = none := rfl
theorem grd_pos {β : Type} {p : Prop} [Decidable p] (hp : p) (x : Option β) : grd p x = x := by simp [grd, hp]

/-- an element of a list, by an index that is an Int -/
def at? {α : Type} (xs : List α) (i : Int) : Option α := if 0 ≤ i then xs[i.toNat]? else none

theorem at?_some {α : Type} {xs : List α} {i : Int} {e : α} (h : at? xs i = some e) : 0 ≤ i ∧ i < xs.length ∧ xs[i.toNat]? = some e := by
  unfold at? at h
  split at h
  · rename_i h0
    have := (List.getElem?_eq_some_iff.1 h).1
    exact ⟨h0, by omega, h⟩
  · cases h

/-- elements of slices -/
structure Enc (α : Type) where
  sz : Nat
  cells : α → List PV
  els : List α → List (List PV)
  hels : ∀ xs, els xs = xs.map cells
  hsz : ∀ x, (cells x).length = sz

namespace Enc
variable {α : Type} (E : Enc α)

def of (sz : Nat) (cells : α → List PV) (h : ∀ x, (cells x).length = sz) : Enc α := ⟨sz, cells, fun xs => xs.map cells, fun _ => rfl, h⟩

theorem len (xs : List α) : (E.els xs).length = xs.length := by simp [E.hels]

theorem ok (xs : List α) : elemsOk E.sz (E.els xs) := by
  intro e he
  rw [E.hels, List.mem_map] at he
  obtain ⟨x, _, rfl⟩ := he
  exact E.hsz x

theorem get {xs : List α} {i : Int} {e : α} (h : at? xs i = some e) : (E.els xs)[i.toNat]? = some (E.cells e) := by
  rw [E.hels, List.getElem?_map, (at?_some h).2.2]; rfl

theorem inb {xs : List α} {i : Int} {e : α} (h : at? xs i = some e) : 0 ≤ i ∧ i < ((E.els xs).length : Int) ∧ elemsOk E.sz (E.els xs) :=
  ⟨(at?_some h).1, by rw [E.len]; exact (at?_some h).2.1, E.ok xs⟩

theorem inb' {xs : List α} {i : Int} {e : α} (h : at? xs i = some e) : 0 ≤ i ∧ i < (xs.length : Int) := ⟨(at?_some h).1, (at?_some h).2.1⟩

theorem app (xs : List α) (e : α) : E.els xs ++ [E.cells e] = E.els (xs ++ [e]) := by simp [E.hels]
theorem app2 (xs ys : List α) : E.els xs ++ E.els ys = E.els (xs ++ ys) := by simp [E.hels]
theorem cut (xs : List α) (l n : Nat) : ((E.els xs).drop l).take n = E.els ((xs.drop l).take n) := by simp [E.hels, List.map_drop, List.map_take]
theorem cutHi (xs : List α) (l : Nat) : ((E.els xs).drop l).take ((E.els xs).length - l) = E.els (xs.drop l) := by
  rw [E.hels, E.hels, List.take_of_length_le (by simp), List.map_drop]
theorem set (xs : List α) (i : Nat) (e : α) : (E.els xs).set i (E.cells e) = E.els (xs.set i e) := by simp [E.hels, List.map_set]
theorem rep (n : Nat) (e : α) : List.replicate n (E.cells e) = E.els (List.replicate n e) := by simp [E.hels]
theorem cutOk {xs : List α} {l h : Int} (g : 0 ≤ l ∧ l ≤ h ∧ h ≤ (xs.length : Int)) : (0 ≤ l ∧ l ≤ h ∧ h ≤ ((E.els xs).length : Int)) ∧ elemsOk E.sz (E.els xs) :=
  ⟨by rw [E.len]; exact g, E.ok xs⟩
theorem cutHiOk {xs : List α} {l : Int} (g : 0 ≤ l ∧ l ≤ (xs.length : Int)) : (0 ≤ l ∧ l ≤ ((E.els xs).length : Int) ∧ ((E.els xs).length : Int) ≤ ((E.els xs).length : Int)) ∧ elemsOk E.sz (E.els xs) :=
  ⟨by rw [E.len]; exact ⟨g.1, g.2, Int.le_refl _⟩, E.ok xs⟩
theorem get0 {xs : List α} {i : Int} {e : α} (h : at? xs i = some e) : (E.els xs)[0 + i.toNat]? = some (E.cells e) := by
  rw [Nat.zero_add]; exact E.get h
theorem set0 (xs : List α) (i : Nat) (e : α) : (E.els xs).set (0 + i) (E.cells e) = E.els (xs.set i e) := by
  rw [Nat.zero_add]; exact E.set xs i e
theorem lapp (xs ys : List α) : xs.length + (E.els ys).length = (xs ++ ys).length := by simp [E.len]
theorem one (e : α) : elemsOk E.sz [E.cells e] := by
  intro x hx
  simp at hx
  subst hx
  exact E.hsz e
end Enc

def eI : Enc Int := .of 1 (fun x => [pi x]) (fun _ => rfl)
def eK (k : IntKind) : Enc Int := .of 1 (fun x => [.s (.int k x)]) (fun _ => rfl)
def eB : Enc Bool := .of 1 (fun x => [.s (.bool x)]) (fun _ => rfl)
def eS : Enc ByteArray := .of 1 (fun x => [.s (.string x)]) (fun _ => rfl)
def eL {α : Type} (E : Enc α) : Enc (List α) := .of 1 (fun x => [.ro (E.els x)]) (fun _ => rfl)

abbrev vl {α : Type} (E : Enc α) (xs : List α) : AV := .one (.pv (.ro (E.els xs)))
abbrev cl {α : Type} (E : Enc α) (xs : List α) : CV := .pv (.ro (E.els xs))
abbrev ci (n : Int) : CV := .pv (.s (.int .i64 n))
abbrev cb (b : Bool) : CV := .pv (.s (.bool b))
abbrev cst (s : ByteArray) : CV := .pv (.s (.string s))
abbrev vk (k : IntKind) (n : Int) : AV := .one (.pv (.s (.int k n)))
abbrev ck (k : IntKind) (n : Int) : CV := .pv (.s (.int k n))

/-! ### rules with the slots that are kept -/

section
variable {P : Program} {n n0 : Nat} {loose an : List Nat} {Q : QT} {fr : Fr} {st : St} {c : Code} {ops : Array Oper}

def runP (ts : List Nat) (o : Option ES) : Option (Exit × Fr × St × List Prop) := o.map fun r => (r.ex, pickF ts r.fr, r.st, r.ob)

theorem runP_some {ts : List Nat} {o : Option ES} {e : Exit} {fr' : Fr} {st' : St} {ob : List Prop} (h : runP ts o = some (e, fr', st', ob)) : ∃ r, o = some r ∧ r.ex = e ∧ pickF ts r.fr = fr' ∧ r.st = st' ∧ r.ob = ob := by
  cases o with
  | none => cases h
  | some r =>
    simp only [runP, Option.map_some, Option.some.injEq, Prod.mk.injEq] at h
    exact ⟨r, rfl, h.1, h.2.1, h.2.2.1, h.2.2.2⟩

/-- the next k operations; the slots ts are kept -/
theorem XO.go {l : List Oper} (an : List Nat) (k : Nat) (ts : List Nat) (hs : HS) (fr' : Fr) (st' : St) (ob : List Prop) (h : runP ts (evOps P n n0 loose an ops (l.take k) fr st hs) = some (.normal, fr', st', ob)) (hob : AllP ob)
    (hk : XO P n n0 loose ops (l.drop k) Q fr' st') : XO P n n0 loose ops l Q fr st := by
  obtain ⟨r, h1, h2, h3, h4, h5⟩ := runP_some h
  subst h3; subst h4; subst h5
  exact XO.steps k h1 hob (XO.sub (Sub.pick ts rfl) hk)

theorem XO.done {l : List Oper} (he : l = []) (h : Q .normal fr st) : XO P n n0 loose ops l Q fr st := by
  subst he; exact XO.nil h

/-- a truth value that is known -/
theorem XO.setb {l : List Oper} (t : Nat) {B : Bool} (b : Bool) (hl : lk fr t = vb B) (hB : B = b) (h : XO P n n0 loose ops l Q ((t, vb b) :: fr) st) : XO P n n0 loose ops l Q fr st := by
  subst hB
  refine XO.sub (fr' := (t, vb B) :: fr) (fun ι w a hR hF => ⟨ι, hR, ⟨hF.defers, hF.size, fun t' => ?_⟩, .refl⟩) h
  simp only [lk]
  cases hb : Nat.beq t t' with
  | true =>
    have := Nat.eq_of_beq_eq_true hb
    subst this
    rw [cond_true, ← hl]
    exact hF.slot t
  | false => exact hF.slot t'

/-- a whole region -/
theorem XW.go (an : List Nat) (ts : List Nat) (hs : HS) (fr' : Fr) (st' : St) (ob : List Prop) (e : Exit) (h : runP ts (evCode P n n0 loose an c fr st hs) = some (e, fr', st', ob)) (hob : AllP ob)
    (hQ : ∀ fr1, Sub n n0 loose fr1 st' fr' st' → Q e fr1 st') : XW P n n0 loose c Q fr st := by
  obtain ⟨r, h1, h2, h3, h4, h5⟩ := runP_some h
  subst h2; subst h3; subst h4; subst h5
  exact XW.run h1 hob (hQ _ (Sub.pick ts rfl))

/-- a region that draws: the frame at its end -/
def DX (P : Program) (n : Nat) (st : St) (ops : Array Oper) (l : List Oper) (fr fr' : Fr) : Prop := ∃ as, DOk P n st ops l as fr fr'

def runD (o : Option DS) : Option (Fr × List Prop) := o.map fun r => (r.fr, r.ob)

theorem XW.drw (fr' : Fr) (he : regKind c = some true) (hm : (drawOk (regOps c) && P.follows .mixedOrders) = true) (hs : DX P n st (regOps c) (regOps c).toList fr fr') (hQ : Q .normal fr' st) : XW P n n0 loose c Q fr st := by
  obtain ⟨as, hs⟩ := hs
  exact XW.regd he hm hs hQ

theorem DX.go {l : List Oper} {fr2 : Fr} (k : Nat) (hs : HS) (fr' : Fr) (ob : List Prop) (h : runD (evDs P n st ops (l.take k) fr hs) = some (fr', ob)) (hob : AllP ob) (hk : DX P n st ops (l.drop k) fr' fr2) : DX P n st ops l fr fr2 := by
  cases ho : evDs P n st ops (l.take k) fr hs with
  | none => rw [ho] at h; cases h
  | some r =>
    rw [ho] at h
    simp only [runD, Option.map_some, Option.some.injEq, Prod.mk.injEq] at h
    obtain ⟨h1, h2⟩ := h
    subst h1; subst h2
    obtain ⟨as, hk⟩ := hk
    exact ⟨_, DOk.steps k ho hob hk⟩

theorem DX.callp {l : List Oper} {g : Nat} {as : List AV} {r : AV} {fr1 fr2 : Fr} (hc : callHdD P n ops l fr = some (g, as)) (h : PC P g as r) (hp : pureAs as = true) (hr : pureA r = true) (hput : putHdD l r fr = fr1)
    (hk : DX P n st ops (l.drop 1) fr1 fr2) : DX P n st ops l fr fr2 := by
  obtain ⟨as2, hk⟩ := hk
  exact ⟨_, DOk.callp hc h hp hr hput hk⟩

theorem DX.eq {l : List Oper} {fr1 fr2 : Fr} (he : fr = fr1) (h : DX P n st ops l fr1 fr2) : DX P n st ops l fr fr2 := he ▸ h

theorem DX.done {l : List Oper} (he : l = []) : DX P n st ops l fr fr := by subst he; exact ⟨_, DOk.nil⟩

/-- an argument that is taken for another -/
theorem XW.le {fr' : Fr} (h : FLe fr fr') (k : XW P n n0 loose c Q fr' st) : XW P n n0 loose c Q fr st := XW.sub (Sub.frame h) k

theorem cf_sl {α : Type} (E : Enc α) {q : Nat → Bool} {id sz len : Nat} (xs : List α) (h : st[id]? = some (.arr sz (E.els xs))) (hq : q id = false) (hl : len = xs.length) : CF st q (.sl id sz 0 len) (.pv (.ro (E.els xs))) :=
  .sl h hq (by rw [E.len]; omega) (by rw [List.drop_zero, List.take_of_length_le]; rw [E.len]; omega)

/-- cells that may be taken for others -/
def CLs : List CV → List CV → Prop
  | [], [] => True
  | a :: l, b :: m => CLe a b ∧ CLs l m
  | _, _ => False

theorem CLs.get : ∀ {l m : List CV}, CLs l m → l.length = m.length ∧ ∀ (j : Nat) a b, l[j]? = some a → m[j]? = some b → CLe a b
  | [], [], _ => ⟨rfl, fun j a b h => by simp at h⟩
  | [], _ :: _, h => h.elim
  | _ :: _, [], h => h.elim
  | a :: l, b :: m, h => by
    obtain ⟨e1, e2⟩ := CLs.get h.2
    refine ⟨by simp [e1], fun j x y h1 h2 => ?_⟩
    cases j with
    | zero => simp at h1 h2; subst h1; subst h2; exact h.1
    | succ j => exact e2 j x y (by simpa using h1) (by simpa using h2)

theorem ALe.agc {l m : List CV} (h : CLs l m) : ALe (.ag l) (.ag m) := .ag h.get.1 h.get.2

/-- a slot's value, taken for another -/
theorem XO.soft {l : List Oper} {a a' : AV} (t : Nat) (hl : lk fr t = a) (ha : ALe a a') (h : XO P n n0 loose ops l Q ((t, a') :: fr) st) : XO P n n0 loose ops l Q fr st := by
  refine XO.sub (fr' := (t, a') :: fr) (fun ι w c hR hF => ⟨ι, hR, ⟨hF.defers, hF.size, fun t' => ?_⟩, .refl⟩) h
  simp only [lk]
  cases hb : Nat.beq t t' with
  | true =>
    have := Nat.eq_of_beq_eq_true hb
    subst this
    rw [cond_true]
    exact (hl ▸ hF.slot t).le ha
  | false => exact hF.slot t'

/-- every entry of fr', from fr: what is no longer written -/
def FAF (st : St) (q : Nat → Bool) (fr : Fr) : Fr → Prop
  | [] => True
  | (t, av) :: l => AF st q (lk fr t) av ∧ FAF st q fr l

theorem FAF.get {q : Nat → Bool} : ∀ {fr' : Fr}, FAF st q fr fr' → ∀ t, AF st q (lk fr t) (lk fr' t)
  | [], _, t => .j _
  | (d, av) :: l, h, t => by
    simp only [lk]
    cases hb : Nat.beq d t with
    | true => have := Nat.eq_of_beq_eq_true hb; subst this; exact h.1
    | false => exact FAF.get h.2 t

/-- a list of our own is no longer written -/
theorem Sub.kill {fr' : Fr} (id : Nat) (hn : n0 ≤ id) (hi : stIds (fun i => !Nat.beq i id) (st.set id .dead) = true) (hf : FAF st (fun i => !Nat.beq i id) fr fr') : Sub n n0 loose fr st fr' (st.set id .dead) := by
  intro ι w a hR hF
  have hs : SubSt (fun i => !Nat.beq i id) st (st.set id .dead) := by
    refine ⟨fun i o h => ?_, fun i hq hi => by simpa using hi⟩
    rw [List.getElem?_set] at h
    split at h
    · split at h
      · cases h; exact .inl rfl
      · cases h
    · rename_i hne
      refine .inr ⟨?_, h⟩
      cases hb : Nat.beq i id with
      | false => rfl
      | true => exact absurd (Nat.eq_of_beq_eq_true hb).symm hne
  obtain ⟨r1, k1⟩ := hR.shrink hs hi
  refine ⟨ι, r1, ⟨hF.defers, hF.size, fun t => (hF.slot t).fz hR hs hi (hf.get t)⟩, k1.weaken (fun i h => ?_)⟩
  have h1 : fixB n0 loose i = true := h
  simp only [fixB, Bool.and_eq_true] at h1
  have := Nat.le_of_ble_eq_true h1.1
  have hne : ¬ i = id := by omega
  show (!Nat.beq i id) = true
  cases hb : Nat.beq i id with
  | false => rfl
  | true => exact absurd (Nat.eq_of_beq_eq_true hb) hne

theorem FinP.fin {fn : Func} {r : AV} {e : Exit} (he : e = .normal ∨ e = .ret) (hs : HS) (avs : List AV) (ob : List Prop) (h : resAll P fr st fn.results.toList hs = some (avs, ob)) (hob : AllP ob) (ha : AF st (fun _ => false) (resAV avs) r) : FinP P fn r e fr st :=
  FinP.mk he h hob ha

theorem XO.cal {l : List Oper} (g : Nat) (avs : List AV) (r : AV) (fr' : Fr) (hc : callHd P n ops l fr = some (g, avs)) (h : PC P g avs r) (hp : pureAs avs = true) (hr : pureA r = true) (hput : putHd n l r fr = some fr')
    (hk : XO P n n0 loose ops (l.drop 1) Q fr' st) : XO P n n0 loose ops l Q fr st := XO.callp hc h hp hr hput hk

theorem DX.cal {l : List Oper} {fr2 : Fr} (g : Nat) (avs : List AV) (r : AV) (fr1 : Fr) (hc : callHdD P n ops l fr = some (g, avs)) (h : PC P g avs r) (hp : pureAs avs = true) (hr : pureA r = true) (hput : putHdD l r fr = fr1)
    (hk : DX P n st ops (l.drop 1) fr1 fr2) : DX P n st ops l fr fr2 := DX.callp hc h hp hr hput hk

end
end Go.SX
