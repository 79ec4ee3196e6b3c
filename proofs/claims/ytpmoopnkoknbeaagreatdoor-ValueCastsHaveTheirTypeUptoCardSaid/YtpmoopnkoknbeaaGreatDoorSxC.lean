/- SX: the events' rules. SX: the events' rules, second part: objects. SX: the events' rules, third part: lists of our own. SX: the events' rules, fourth part: operations on lists of our own. SX: calls that yield a number and an error, which is only held against nil. The program's data as Lean's, with their cells. SX: functions whose contract is given over plain worlds; utf8.ValidString by the shelf's contract. SX: functions that the model stands in for, at any arguments; bytes.Compare. SX: functions of one box of two cells (a text, a truth value), between contracts with objects and plain worlds. SX: the way from a given row to a contract of pure values: reading the arguments, and closing the row. SX: readings of structs by the program's own fields. SX: readings of values and types. Types out of rows. Lists of fields out of rows. Lists of values, of numbers, of bytes out of rows. Lists of lists of values out of rows. -/
import Derived.Shelf.Unicode.ValidAny
import Derived.Lib.Bytealg
import Derived.Lib.OthersKept
import Derived.Lib.FrozenHead2
import Derived.OpenShut
import Derived.JoinedCond
import Derived.WideKeyArgs
import Derived.Test.YtpmoopnkoknbeaaGreatDoorSxB
set_option linter.unusedVariables false
set_option linter.unusedSimpArgs false
set_option linter.unnecessarySimpa false
namespace Go.SX
open Go
theorem ei.at1 {μ : Nat → Prop} {w : World} {v : Value} {els : List (List PV)} {i off : Nat} {c : List PV} (h : ei μ w v (.rp els i off)) (hc : els[i]? = some c) : ei μ w v (.rp [c] 0 off) := by
 cases h with
 | rp a sz _ _ _ vf hsz hb hcell hv =>
  have hm := List.mem_of_getElem? hc
  have hne : els ≠ [] := fun e => by subst e; simp at hc
  have e1 : a.add (i * sz + off) = (a.add (i * sz)).add (0 * sz + off) := by rw [pR]; simp
  rw [e1]
  refine .rp (a.add (i * sz)) sz [c] 0 off (fun _ j => vf i j) (fun e he => by simp at he; subst he; exact hsz _ hm) (fun _ => by rw [pq]; exact hb hne) ?_ ?_
  ·intro i' e j p h1 h2
   cases i' with
   | zero =>
    simp at h1; subst h1
    rw [pR]
    have := hcell i c j p hc h2
    rw [show i * sz + (0 * sz + j) = i * sz + j by simp]
    exact this
   | succ i' => simp at h1
  ·intro i' e j p h1 h2
   cases i' with
   | zero => simp at h1; subst h1; exact hv i c j p hc h2
   | succ i' => simp at h1
section
variable {P : Program} {n n0 : Nat} {loose an : List Nat} {Q Q1 : QT} {α β : Type} {T x y : Option β} {r : β} {s : SS}
structure GG (P : Program) (n n0 : Nat) (loose an : List Nat) {β : Type} (r : β) (Q : QT) (T : Option β) (s : SS) : Prop where
 go : T = some r → XK P n n0 loose Q s
instance : CoeFun (GG P n n0 loose an r Q T s) (fun _ => T = some r → XK P n n0 loose Q s) := ⟨GG.go⟩
theorem Yd.le {st : St} {o : Oper} {f : Fr} {av av' : AV} (h : Yd P n st o f av) (hl : ∀ ι w v, aK ι w st v av → aK ι w st v av') : Yd P n st o f av' :=
 fun ι w a hR hF K Q hK => h ι w a hR hF K Q fun v w' ι' h1 h2 h3 => hK v w' ι' (hl _ _ _ h1) h2 h3
def qX (s : SS) : Option (Oper × Fr) :=
 match s.ks with
 | .o ops (o :: _) :: _ => (match IB ops s.kn o s.fr with
  | some true => some (o, s.fr)
  | _ => none)
 | .d ops (o :: _) :: _ => (match IB ops s.kn o (co ops o s.fr) with
  | some true => some (o, co ops o s.fr)
  | _ => none)
 | .g _ ops (o :: _) _ :: _ => (match IB ops s.kn o (co ops o s.fr) with
  | some true => some (o, co ops o s.fr)
  | _ => none)
 | _ => none
def xn (s : SS) : St := match s.ks with
 | .g X ops (o :: _) _ :: _ => ic (aN (mh ops X o s.fr)) 0 s.st
 | _ => s.st
def vI (n : Nat) (av : AV) (s : SS) : SS :=
 match s with
 | ⟨.o ops (o :: l) :: k, fr, st, kn⟩ => fA av fun av => rC n o.dst av fr (fun fr' => vm false o.dst kn fun kn' => ⟨.o ops l :: k, fr', st, kn'⟩) s
 | ⟨.d ops (o :: l) :: k, fr, st, kn⟩ => fA av fun av => rC n o.dst av fr (fun fr' => vm false o.dst kn fun kn' => ⟨.d ops l :: k, fr', st, kn'⟩) s
 | ⟨.g X ops (o :: l) tw :: k, fr, st, kn⟩ => fA av fun av => bif B8 ops X o fr av then rC n o.dst av fr (fun fr' => vm false o.dst kn fun kn' => ⟨.g X ops l (tw ++ [(mh ops X o fr, [])]) :: k, fr', st, kn'⟩) s else s
 | s => s
theorem XO.yd {ops : Array Oper} {o : Oper} {l : List Oper} {fr fr' : Fr} {st : St} {av : AV} (hg : cF ops o fr = some true) (h : Yd P n st o fr av) (hp : ox n o.dst av fr = some fr')
  (k : XO P n n0 loose ops l Q fr' st) : XO P n n0 loose ops (o :: l) Q fr st := by
 intro ι w a hR hF
 have hw := dj hg hF
 refine wpList_step fun K hK => ?_
 rw [if_pos hw]
 refine h ι w a hR hF K _ fun v w' ι' hv hR' kk => ?_
 exact hK _ _ (eX (fun e a w h => h.trans (kk.weaken (fun _ _ => trivial))) (k ι' w' _ hR' (j8 hp (hF.mono' kk) hv)))
theorem lG {o : Oper} {f : Fr} {av : AV} (he : qX s = some (o, f)) (h : Yd P n (xn s) o f av) (k : XK P n n0 loose Q (vI n av s)) : XK P n n0 loose Q s := by
 obtain ⟨ks, fr, st, kn⟩ := s
 match ks, he with
 | .o ops (o' :: l) :: ks, he =>
  simp only [qX] at he
  split at he
  ·rename_i hg
   have hg := nc hg
   simp only [Option.some.injEq, Prod.mk.injEq] at he
   obtain ⟨rfl, rfl⟩ := he
   simp only [vI, rg] at k
   rcases jR (n := n) o'.dst av fr (fun fr' => vm false o'.dst kn fun kn' => (⟨.o ops l :: ks, fr', st, kn'⟩ : SS)) ⟨.o ops (o' :: l) :: ks, fr, st, kn⟩ with ⟨fr', hp, e⟩ | e
   ·obtain ⟨kn', ek⟩ := j5 false o'.dst kn fun kn' => (⟨.o ops l :: ks, fr', st, kn'⟩ : SS)
    rw [e, ek] at k; exact XO.yd hg h hp k
   ·rw [e] at k; exact k
  ·cases he
 | .d ops (o' :: l) :: ks, he =>
  simp only [qX] at he
  split at he
  ·rename_i hg
   have hg := nc hg
   simp only [Option.some.injEq, Prod.mk.injEq] at he
   obtain ⟨rfl, rfl⟩ := he
   simp only [vI, rg] at k
   rcases jR (n := n) o'.dst av fr (fun fr' => vm false o'.dst kn fun kn' => (⟨.d ops l :: ks, fr', st, kn'⟩ : SS)) ⟨.d ops (o' :: l) :: ks, fr, st, kn⟩ with ⟨fr', hp, e⟩ | e
   ·obtain ⟨kn', ek⟩ := j5 false o'.dst kn fun kn' => (⟨.d ops l :: ks, fr', st, kn'⟩ : SS)
    rw [e, ek] at k
    obtain ⟨fr2, k1, k2⟩ := k
    exact ⟨fr2, DX.cons hp (.inl ⟨hg, h⟩) k1, k2⟩
   ·rw [e] at k; exact k
  ·cases he
 | .g X ops (o' :: l) tw :: ks, he =>
  simp only [qX] at he
  split at he
  ·rename_i hg
   have hg := nc hg
   simp only [Option.some.injEq, Prod.mk.injEq] at he
   obtain ⟨rfl, rfl⟩ := he
   simp only [vI, rg] at k
   cases hc : B8 ops X o' fr av with
   | false => simp only [hc, cond_false] at k; exact k
   | true =>
    simp only [hc, cond_true] at k
    rcases jR (n := n) o'.dst av fr (fun fr' => vm false o'.dst kn fun kn' => (⟨.g X ops l (tw ++ [(mh ops X o' fr, [])]) :: ks, fr', st, kn'⟩ : SS)) ⟨.g X ops (o' :: l) tw :: ks, fr, st, kn⟩ with ⟨fr', hp, e⟩ | e
    ·obtain ⟨kn', ek⟩ := j5 false o'.dst kn fun kn' => (⟨.g X ops l (tw ++ [(mh ops X o' fr, [])]) :: ks, fr', st, kn'⟩ : SS)
     rw [e, ek] at k
     exact GK.yd (po hp) hc (.inl ⟨hg, h⟩) k
    ·rw [e] at k; exact k
  ·cases he
def uk : List It → Bool
 | .c _ :: _ => true
 | .o _ _ :: _ => true
 | .b _ :: k => uk k
 | _ => false
theorem QK.sub {fr' : Fr} {st' : St} : ∀ {ks : List It} {fr : Fr} {st : St}, uk ks = true → mF n n0 loose fr st fr' st' → QK P n n0 loose ks Q .normal fr' st' → QK P n n0 loose ks Q .normal fr st
 | .c _ :: _, _, _, _, hs, h => XW.sub hs h
 | .o _ _ :: _, _, _, _, hs, h => XO.sub hs h
 | .b _ :: k, _, _, ht, hs, h => QK.sub (ks := k) (by simpa [uk] using ht) hs h
theorem XK.sub {fr' fr : Fr} {st' st : St} {ks : List It} {kn kn' : List Nat} (ht : uk ks = true) (hs : mF n n0 loose fr st fr' st') (h : XK P n n0 loose Q ⟨ks, fr', st', kn'⟩) : XK P n n0 loose Q ⟨ks, fr, st, kn⟩ := QK.sub ht hs h
def CC (d : Nat) (av : AV) : Fr → Fr
 | [] => []
 | (t, a) :: f => bif Nat.beq t d then (t, av) :: f else (t, a) :: CC d av f
theorem Bb (d : Nat) : ∀ f : Fr, CC d (lk f d) f = f
 | [] => rfl
 | (t, a) :: f => by
  simp only [CC, lk]
  cases hb : Nat.beq t d with
  | true => rfl
  | false => simp only [cond_false]; rw [Bb d f]
def Ca {β : Type} (d : Nat) (av : AV) : Fr → (Fr → β) → β
 | [], K => K []
 | (t, a) :: f, K => bif Nat.beq t d then K ((t, av) :: f) else Ca d av f fun f => K ((t, a) :: f)
theorem rh {β : Type} (d : Nat) (av : AV) : ∀ (f : Fr) (K : Fr → β), Ca d av f K = K (CC d av f)
 | [], K => rfl
 | (t, a) :: f, K => by
  simp only [Ca, CC]
  cases Nat.beq t d with
  | true => rfl
  | false => simp only [cond_false]; exact rh d av f _
def Mc (kn : List Nat) (o : Oper) : Option Nat := match o.op with
 | .pick (.tmp c) _ _ => bif kn.any (Nat.beq c) then none else some c
 | _ => none
def MS (ops : Array Oper) (kn : List Nat) (o : Oper) : Option Nat := match o.guard with
 | some (j, _) => (match (ops[j]?).bind (·.dst) with
  | some d => bif kn.any (Nat.beq d) then Mc kn o else some d
  | none => none)
 | none => Mc kn o
def Lk (s : SS) : Option Nat := match s.ks with
 | .o ops (o :: _) :: _ => MS ops s.kn o
 | .d ops (o :: _) :: _ => MS ops s.kn o
 | .g _ ops (o :: _) _ :: _ => MS ops s.kn o
 | _ => none
def bool? (a : AV) : Option Bool := match a with
 | .one (.pv (.s (.bool t))) => some t
 | _ => none
theorem bool?_eq {a : AV} {t : Bool} (h : bool? a = some t) : a = vb t := by
 unfold bool? at h
 split at h
 ·simp only [Option.some.injEq] at h; subst h; rfl
 ·cases h
def Hq (s : SS) : Option Bool :=
 match s.ks with
 | .c (.cond o _ _) :: _ => bool? (rv s.fr o)
 | _ => (match Lk s with
  | some d => bool? (lk s.fr d)
  | none => none)
def Iy (t : Bool) (s : SS) : SS :=
 match s with
 | ⟨ks, fr, st, kn⟩ => match ks with
  | .c (.cond o a b) :: k => (match t with
   | true => ⟨.c a :: k, fr, st, kn⟩
   | false => ⟨.c b :: k, fr, st, kn⟩)
  | ks => (match Lk ⟨ks, fr, st, kn⟩ with
   | some d => Ca d (vb t) fr fun fr => ⟨ks, fr, st, d :: kn⟩
   | none => ⟨ks, fr, st, kn⟩)
theorem LT {ks : List It} {fr : Fr} {st : St} {kn : List Nat} {d : Nat} {t : Bool} (hd : Lk ⟨ks, fr, st, kn⟩ = some d) : Iy t ⟨ks, fr, st, kn⟩ = ⟨ks, CC d (vb t) fr, st, d :: kn⟩ := by
 cases ks with
 | nil => simp [Lk] at hd
 | cons x k =>
  cases x with
  | c x => simp [Lk] at hd
  | b => simp [Lk] at hd
  | r => simp [Lk] at hd
  | o ops l => simp only [Iy, hd, rh]
  | d ops l => simp only [Iy, hd, rh]
  | g X ops l tw => simp only [Iy, hd, rh]
theorem tX {t : Bool} (he : Hq s = some t) (k : XK P n n0 loose Q (Iy t s)) : XK P n n0 loose Q s := by
 obtain ⟨ks, fr, st, kn⟩ := s
 unfold Hq at he
 split at he
 ·rename_i o a b ks' hk
  simp only at hk
  subst hk
  have hx := bool?_eq he
  simp only [Iy] at k
  refine XW.cond (n := n) rfl hx (fun h => ?_) (fun h => ?_)
  ·subst h; exact k
  ·subst h; exact k
 ·rename_i hk
  split at he
  ·rename_i d hd
   have hx := bool?_eq he
   rw [LT hd, ← hx] at k
   have k : QK P n n0 loose ks Q .normal (CC d (lk fr d) fr) st := k
   rw [Bb] at k
   exact k
  ·cases he
theorem uC {t : Bool} (ht : GG P n n0 loose an r Q x (Iy true (run P n an s))) (hf : GG P n n0 loose an r Q y (Iy false (run P n an s)))
  (he : Hq (run P n an s) = some t := by kernel_rfl) : GG P n n0 loose an r Q (ax t x y) s := by
 refine ⟨fun h => ?_⟩
 refine bY (an := an) ?_
 cases t with
 | true => exact tX he (ht h)
 | false => exact tX he (hf h)
theorem uT (k : GG P n n0 loose an r Q T (Iy true (run P n an s))) (he : Hq (run P n an s) = some true := by kernel_rfl) : GG P n n0 loose an r Q T s :=
 ⟨fun h => bY (an := an) (tX he (k h))⟩
theorem uF (k : GG P n n0 loose an r Q T (Iy false (run P n an s))) (he : Hq (run P n an s) = some false := by kernel_rfl) : GG P n n0 loose an r Q T s :=
 ⟨fun h => bY (an := an) (tX he (k h))⟩
theorem mg {o : Option β} {p : Prop} (e : o = none) (h : o = some r) : p := by rw [e] at h; cases h
theorem Np : GG P n n0 loose an r Q (none : Option β) s := ⟨fun h =>
 nomatch h⟩
def Mo (s : SS) : Option Nat := match qX s with
 | some (o, _) => (match o.op with
  | .indexAddr _ _ (.tmp t) => some t
  | .index _ _ (.tmp t) => some t
  | _ => none)
 | none => none
def No (s : SS) : Option (IntKind × Int) := match Mo s with
 | some t => (match lk s.fr t with
  | .one (.pv (.s (.int k m))) => some (k, m)
  | _ => none)
 | none => none
def Nx (k : IntKind) (c : Int) (s : SS) : SS := match s with
 | ⟨ks, fr, st, kn⟩ => match Mo ⟨ks, fr, st, kn⟩ with
  | some t => Ca t (vk k c) fr fun fr => ⟨ks, fr, st, t :: kn⟩
  | none => ⟨ks, fr, st, kn⟩
theorem J5 {I c : Int} (kd : IntKind) (ht : (I == c) = true → GG P n n0 loose an r Q x (Nx kd c (run P n an s))) (hf : (I == c) = false → GG P n n0 loose an r Q y (run P n an s)) (he : No (run P n an s) = some (kd, I) := by kernel_rfl) :
  GG P n n0 loose an r Q (ax (I == c) x y) s := by
 refine ⟨fun h => ?_⟩
 refine bY (an := an) ?_
 cases hb : I == c with
 | false => rw [hb] at h; exact hf hb h
 | true =>
  rw [hb] at h
  have k := ht hb h
  have e := eq_of_beq hb
  subst e
  unfold No at he
  unfold Nx at k
  split at he
  ·rename_i t hsl
   simp only at k
   rw [hsl] at k
   split at he
   ·rename_i k' m hl
    simp only [Option.some.injEq, Prod.mk.injEq] at he
    obtain ⟨rfl, rfl⟩ := he
    simp only [rh] at k
    rw [show vk k' m = lk _ t from hl.symm, Bb] at k
    exact k
   ·cases he
  ·cases he
def Eh (P : Program) (s : SS) : Option (AV × List Prop) :=
 match qX s with
 | some (o, f) => bif gK o.op then (match ev P false o f (xn s) (F5 o f) with
  | some out => some (out.av, out.ob)
  | none => none) else none
 | none => none
theorem Da {av : AV} {ob : List Prop} (he : Eh P s = some (av, ob)) (hob : el ob) : ∃ o f, qX s = some (o, f) ∧ Yd P n (xn s) o f av := by
 unfold Eh at he
 split at he
 ·rename_i o f hd
  cases hq : gK o.op with
  | false => simp [hq] at he
  | true =>
   simp only [hq, cond_true] at he
   split at he
   ·rename_i out hev
    simp only [Option.some.injEq, Prod.mk.injEq] at he
    obtain ⟨rfl, rfl⟩ := he
    exact ⟨o, f, hd, Yd.ev hq hev hob⟩
   ·cases he
 ·cases he
theorem uV (av av' : AV) {ob : List Prop} (hob : el ob) (hav : av = av') (k : GG P n n0 loose an r Q T (vI n av' (run P n an s))) (he : Eh P (run P n an s) = some (av, ob)) : GG P n n0 loose an r Q T s := by
 refine ⟨fun h => ?_⟩
 obtain ⟨o, f, h1, h2⟩ := Da (n := n) he hob
 subst hav
 exact bY (an := an) (lG h1 h2 (k h))
def Nh (P : Program) (s : SS) : AV := match Eh P s with
 | some (av, _) => av
 | none => .j
def M8 (P : Program) (s : SS) : Option (List Prop) := match Eh P s with
 | some (_, ob) => some ob
 | none => none
theorem Nc {ob : List Prop} (h : M8 P s = some ob) : Eh P s = some (Nh P s, ob) := by
 unfold M8 at h
 unfold Nh
 split at h
 ·rename_i av ob' he
  simp only [Option.some.injEq] at h
  subst h
  rw [he]
 ·cases h
def MU (P : Program) (s : SS) : Option AV :=
 match qX s with
 | some (o, f) => bif gK o.op then (match ev P false o f (xn s) (F5 o f) with
  | some out => (match out.ob with
   | [] => some out.av
   | _ => bif Lz P s.kn o f then some out.av else none)
  | none => none) else none
 | none => none
theorem Ka {av : AV} (he : MU P s = some av) : ∃ o f, qX s = some (o, f) ∧ Yd P n (xn s) o f av := by
 unfold MU at he
 split at he
 ·rename_i o f hd
  cases hq : gK o.op with
  | false => simp [hq] at he
  | true =>
   simp only [hq, cond_true] at he
   split at he
   ·rename_i out hev
    have hob : el out.ob ∧ out.av = av := by
     split at he
     ·rename_i hob
      rw [hob]
      exact ⟨trivial, Option.some.inj he⟩
     ·cases hb : Lz P s.kn o f with
      | false => simp [hb] at he
      | true => rw [hb] at he; exact ⟨Ih hb hev, Option.some.inj he⟩
    rw [← hob.2]
    exact ⟨o, f, hd, Yd.ev hq hev hob.1⟩
   ·cases he
 ·cases he
theorem uY (d : Nat) {e : α} (m : α → AV) {f : α → Option β} (k : ∀ y, GG P n n0 loose an r Q (f y) (vI n (m y) (yL P n an d s)))
  (he : MU P (yL P n an d s) = some (m e) := by kernel_rfl) : GG P n n0 loose an r Q (az (some e) f) s := by
 refine ⟨fun h => ?_⟩
 obtain ⟨o, g, h1, h2⟩ := Ka (n := n) he
 exact qp (lG h1 h2 (k e h))
theorem xW (d : Nat) {e : α} {p : Prop} [Decidable p] (m : α → AV) {f : α → Option β} (k : ∀ y, GG P n n0 loose an r Q (f y) (vI n (m y) (yL P n an d s)))
  (he : Eh P (yL P n an d s) = some (m e, [p]) := by kernel_rfl) : GG P n n0 loose an r Q (bI p (az (some e) f)) s := by
 refine ⟨fun h => ?_⟩
 obtain ⟨hp, h⟩ := gx h
 obtain ⟨o, g, h1, h2⟩ := Da (n := n) he ⟨hp, trivial⟩
 exact qp (lG h1 h2 (k e h))
theorem uG {p : Prop} [Decidable p] (k : GG P n n0 loose an r Q x (vI n (Nh P (run P n an s)) (run P n an s))) (he : M8 P (run P n an s) = some [p] := by kernel_rfl) : GG P n n0 loose an r Q (bI p x) s := by
 refine ⟨fun h => ?_⟩
 obtain ⟨hp, h⟩ := gx h
 exact uV _ _ (ob := [p]) ⟨hp, trivial⟩ rfl k (Nc he) h
def I3 (P : Program) (s : SS) : Option (List (List PV) × Int × Nat) :=
 match qX s with
 | some (o, f) => (match o.op with
  | .indexAddr t x i => (match P.underlying t, rv f x, rv f i with
   | some (.slice e), .one (.pv (.ro els)), .one (.pv (.s (.int _ m))) => (match vh P e with
    | some es => some (els, m, es)
    | none => none)
   | _, _, _ => none)
  | _ => none)
 | none => none
theorem JR {els : List (List PV)} {i : Int} {es : Nat} {c : List PV} (he : I3 P s = some (els, i, es)) (h : 0 ≤ i ∧ i < (els.length : Int) ∧ fi es els) (hc : els[i.toNat]? = some c) :
  ∃ o f, qX s = some (o, f) ∧ Yd P n (xn s) o f (.one (.pv (.rp [c] 0 0))) := by
 unfold I3 at he
 split at he
 ·rename_i o f hd
  refine ⟨o, f, hd, ?_⟩
  split at he
  ·rename_i t x i' ho
   split at he
   ·rename_i e els' k m hu hx hi
    split at he
    ·rename_i es' hes
     simp only [Option.some.injEq, Prod.mk.injEq] at he
     obtain ⟨rfl, rfl, rfl⟩ := he
     have hev : ev P false o f (xn s) [] = some ⟨.one (.pv (.rp els' m.toNat 0)), xn s, [0 ≤ m ∧ m < (els'.length : Int) ∧ fi es' els'], [], none⟩ := by
      unfold ev
      simp only [ho, hx, hi, Fy, hu, hes]
     refine (Yd.ev (by rw [ho]; rfl) hev ⟨h, trivial⟩).le ?_
     intro ι w v hv
     cases jD hv with
     | pv _ _ hp => exact .one _ _ (.pv _ _ (hp.at1 hc))
    ·cases he
   ·cases he
  ·cases he
 ·cases he
theorem uL (E : so α) {xs : List α} {i : Int} {f : α → Option β} (k : ∀ e, at? xs i = some e → GG P n n0 loose an r Q (f e) (vI n (.one (.pv (.rp [E.cells e] 0 0))) (run P n an s)))
  (he : I3 P (run P n an s) = some (E.els xs, i, E.sz) := by kernel_rfl) : GG P n n0 loose an r Q (az (at? xs i) f) s := by
 refine ⟨fun h => ?_⟩
 obtain ⟨e, ha, h⟩ := re h
 obtain ⟨o, g, h1, h2⟩ := JR (n := n) he (E.inb ha) (E.get ha)
 exact bY (an := an) (lG h1 h2 (k e ha h))
theorem uM (E : so α) {xs : List α} {i : Int} {e : α} (ha : at? xs i = some e) (k : GG P n n0 loose an r Q T (vI n (.one (.pv (.rp [E.cells e] 0 0))) (run P n an s)))
  (he : I3 P (run P n an s) = some (E.els xs, i, E.sz) := by kernel_rfl) : GG P n n0 loose an r Q T s := by
 refine ⟨fun h => ?_⟩
 obtain ⟨o, g, h1, h2⟩ := JR (n := n) he (E.inb ha) (E.get ha)
 exact bY (an := an) (lG h1 h2 (k h))
theorem uA (av : AV) (k : GG P n n0 loose an r Q T (vI n av (run P n an s))) (he : Eh P (run P n an s) = some (av, []) := by kernel_rfl) : GG P n n0 loose an r Q T s :=
 uV av av (ob := []) trivial rfl k he
theorem uN (E : so α) (xs : List α) (k : GG P n n0 loose an r Q T (vI n (vi (xs.length : Int)) (run P n an s)))
  (he : Eh P (run P n an s) = some (vi ((E.els xs).length : Int), []) := by kernel_rfl) : GG P n n0 loose an r Q T s :=
 uV _ _ (ob := []) trivial (by rw [E.len]) k he
theorem uX (E : so α) {xs : List α} {a b : Int} (k : GG P n n0 loose an r Q x (vI n (vl E ((xs.drop a.toNat).take (b.toNat - a.toNat))) (run P n an s)))
  (he : Eh P (run P n an s) = some (.one (.pv (.ro (((E.els xs).drop a.toNat).take (b.toNat - a.toNat)))), [(0 ≤ a ∧ a ≤ b ∧ b ≤ ((E.els xs).length : Int)) ∧ fi E.sz (E.els xs)]) := by kernel_rfl) :
  GG P n n0 loose an r Q (bI (0 ≤ a ∧ a ≤ b ∧ b ≤ (xs.length : Int)) x) s := by
 refine ⟨fun h => ?_⟩
 obtain ⟨hp, h⟩ := gx h
 exact uV _ _ (ob := [_]) ⟨E.cutOk hp, trivial⟩ (by rw [E.cut]) k he h
theorem NT (E : so α) {xs : List α} {a b m : Int} (k : GG P n n0 loose an r Q x (vI n (vl E ((xs.drop a.toNat).take (b.toNat - a.toNat))) (run P n an s)))
  (he : Eh P (run P n an s) = some (.one (.pv (.ro (((E.els xs).drop a.toNat).take (b.toNat - a.toNat)))), [(0 ≤ a ∧ a ≤ b ∧ b ≤ m ∧ m ≤ ((E.els xs).length : Int)) ∧ fi E.sz (E.els xs)]) := by kernel_rfl) :
  GG P n n0 loose an r Q (bI (0 ≤ a ∧ a ≤ b ∧ b ≤ m ∧ m ≤ (xs.length : Int)) x) s := by
 refine ⟨fun h => ?_⟩
 obtain ⟨hp, h⟩ := gx h
 exact uV _ _ (ob := [_]) ⟨E.cutMOk hp, trivial⟩ (by rw [E.cut]) k he h
def LB (P : Program) (s : SS) : Option (Nat × List AV) :=
 match qX s with
 | some (o, f) => vA P o f
 | none => none
theorem LE {g : Nat} {avs : List AV} {v : AV} (he : LB P s = some (g, avs)) (h : PC P g avs v) (hp : np avs = true) (hr : sX v = true) : ∃ o f, qX s = some (o, f) ∧ Yd P n (xn s) o f v := by
 unfold LB at he
 split at he
 ·rename_i o f hd
  exact ⟨o, f, hd, Yd.call he h hp hr⟩
 ·cases he
def CT (P : Program) (f : Nat) (args : List AV) {β : Type} (T : Option β) (rv : β → AV) : Prop := ∀ r, T = some r → PC P f args (rv r)
def ME : CV → CV
 | .pv (.s (.slice none 0 0)) => .pv (.ro [])
 | .cl els => .pv (.ro els)
 | c => c
def Ln : AV → AV
 | .one c => .one (ME c)
 | .ag cs => .ag (cs.map ME)
 | a => a
theorem HT (c : CV) : Ho c (ME c) := by
 unfold ME
 split
 ·exact .nl
 ·exact .cl _
 ·exact .rfl _
theorem G3 (a : AV) : Fo a (Ln a) := by
 unfold Ln
 split
 ·exact .one (HT _)
 ·refine .ag (by simp) (fun i c c' h1 h2 => ?_)
  rw [List.getElem?_map, h1] at h2
  simp only [Option.map_some, Option.some.injEq] at h2
  subst h2
  exact HT c
 ·exact .rfl _
theorem vB.refl : ∀ l : List AV, vB l l
 | [] => trivial
 | a :: l => ⟨.rfl _, vB.refl l⟩
theorem BI (l : List AV) : vB l (l.map Ln) := by
 induction l with
 | nil => trivial
 | cons a l ih => exact ⟨G3 a, ih⟩
def Nr (P : Program) (s : SS) : Option (Nat × List AV) := match LB P s with
 | some (g, l) => bif np l then some (g, l.map Ln) else none
 | none => none
theorem uP {α : Type} {o : Option α} {f : α → Option β} {g : Nat} {avs : List AV} {rv : α → AV} (c : CT P g avs o rv)
  (k : ∀ v, o = some v → GG P n n0 loose an r Q (f v) (vI n (rv v) (run P n an s)))
  (he : Nr P (run P n an s) = some (g, avs) := by kernel_rfl) (hr : ∀ v, sX (rv v) = true := by intro v; kernel_rfl) : GG P n n0 loose an r Q (az o f) s := by
 refine ⟨fun h => ?_⟩
 obtain ⟨v, ho, h⟩ := re h
 unfold Nr at he
 split at he
 ·rename_i g' l hq
  cases hp : np l with
  | false => simp [hp] at he
  | true =>
   simp only [hp, cond_true, Option.some.injEq, Prod.mk.injEq] at he
   obtain ⟨rfl, rfl⟩ := he
   obtain ⟨o', f', h1, h2⟩ := LE (n := n) hq ((c v ho).le (BI l)) hp (hr v)
   exact bY (an := an) (lG h1 h2 (k v ho h))
 ·cases he
structure KP (n n0 : Nat) (loose : List Nat) where
 p : Fr → St → Prop
 cl : ∀ {fr st fr' st'}, mF n n0 loose fr st fr' st' → p fr' st' → p fr st
theorem s9 (Q : QT) : ∀ l1 l2 : List It, QK P n n0 loose (l1 ++ l2) Q = QK P n n0 loose l1 (QK P n n0 loose l2 Q)
 | [], l2 => rfl
 | .b _ :: l, l2 => by simp only [List.cons_append, QK, s9 Q l l2]
 | .c _ :: l, l2 => by simp only [List.cons_append, QK, s9 Q l l2]
 | .o _ _ :: l, l2 => by simp only [List.cons_append, QK, s9 Q l l2]
 | .d _ _ :: l, l2 => by simp only [List.cons_append, QK, s9 Q l l2]
 | .g _ _ _ _ :: l, l2 => by simp only [List.cons_append, QK, s9 Q l l2]
 | .r _ _ :: l, l2 => by simp only [List.cons_append, QK, s9 Q l l2]
theorem C5 (Q : QT) : jm (Q .normal) Q = Q := by funext e f s; cases e <;> rfl
def J6 {α β : Type} : Nat → List α → (List α → β) → β
 | d + 1, x :: l, K => J6 d l fun l => K (x :: l)
 | _, _, K => K []
def Ef {α β : Type} : List α → List β → Bool
 | [], [] => true
 | _ :: l, _ :: m => Ef l m
 | _, _ => false
def MK {β : Type} (l2 : List It) : List It → (List It → β) → β
 | [], K => K []
 | x :: l, K => bif Ef l2 (x :: l) then K [] else MK l2 l fun l => K (x :: l)
def FG (l2 : List It) : List It → List It
 | [] => []
 | x :: l => bif Ef l2 (x :: l) then x :: l else FG l2 l
theorem EX {β : Type} (l2 : List It) : ∀ (l : List It) (K : List It → β), ∃ l1, MK l2 l K = K l1 ∧ l = l1 ++ FG l2 l
 | [], K => ⟨[], rfl, rfl⟩
 | x :: l, K => by
  obtain ⟨l1, h1, h2⟩ := EX l2 l (fun l => K (x :: l))
  unfold MK FG
  cases hb : Ef l2 (x :: l) with
  | true => exact ⟨[], rfl, rfl⟩
  | false => exact ⟨x :: l1, by simp only [cond_false, h1], by simp only [cond_false, List.cons_append]; rw [← h2]⟩
def MM (l2 : List It) (s : SS) : SS := match s with
 | ⟨ks, fr, st, kn⟩ => MK l2 ks fun ks => ⟨ks, fr, st, kn⟩
def KO : List Nat → Code → List It → List It
 | [], _, acc => acc
 | i :: p, c, acc => match c with
  | .seq a b => bif Nat.beq i 0 then KO p a (.c b :: acc) else KO p b acc
  | .block id a => KO p a (.b id :: acc)
  | .cond _ a b => bif Nat.beq i 0 then KO p a acc else KO p b acc
  | .loop x => KO p x []
  | _ => acc
def kS (fn : Func) (p : List Nat) (m : Nat) : List It := J6 m (KO p (cd fn []) []) id
theorem EM {l2 : List It} {s' : SS} (h : ∀ K : KP n n0 loose, (∀ {γ : Type} {T1 : Option γ} {r1 : γ} {f : Fr} {st : St}, T1 = some r1 → GG P n n0 loose an r1 Q T1 ⟨l2, f, st, []⟩ → K.p f st) → GG P n n0 loose an r (jm K.p (QK P n n0 loose l2 Q)) T (MM l2 s'))
  (he : FG l2 s'.ks = l2) (ht : uk l2 = true) (hT : T = some r) : XK P n n0 loose Q s' := by
 have := h ⟨fun f st => XK P n n0 loose Q ⟨l2, f, st, []⟩, fun hs h => XK.sub ht hs h⟩ (fun hT g => g hT) hT
 obtain ⟨ks, fr, st, kn⟩ := s'
 obtain ⟨l1, e1, e3⟩ := EX l2 ks fun ks => (⟨ks, fr, st, kn⟩ : SS)
 have e : XK P n n0 loose Q ⟨ks, fr, st, kn⟩ = QK P n n0 loose (l1 ++ l2) Q .normal fr st := by
  simp only at he
  rw [he] at e3
  unfold XK
  rw [e3]
 rw [e, s9]
 have e2 : jm (fun f st => XK P n n0 loose Q ⟨l2, f, st, []⟩) (QK P n n0 loose l2 Q) = QK P n n0 loose l2 Q := C5 (QK P n n0 loose l2 Q)
 unfold MM at this
 simp only at this
 rw [e1] at this
 have t2 : QK P n n0 loose l1 (jm (fun f st => XK P n n0 loose Q ⟨l2, f, st, []⟩) (QK P n n0 loose l2 Q)) .normal fr st := this
 rw [e2] at t2
 exact t2
theorem uQ (l2 : List It) (h : ∀ K : KP n n0 loose, (∀ {γ : Type} {T1 : Option γ} {r1 : γ} {f : Fr} {st : St}, T1 = some r1 → GG P n n0 loose an r1 Q T1 ⟨l2, f, st, []⟩ → K.p f st) → GG P n n0 loose an r (jm K.p (QK P n n0 loose l2 Q)) T (MM l2 (run P n an s)))
 (he : FG l2 (run P n an s).ks = l2 := by kernel_rfl) (ht : uk l2 = true := by kernel_rfl) : GG P n n0 loose an r Q T s := ⟨fun hT => bY (EM h he ht hT)⟩
theorem NR (d : Nat) (l2 : List It) (h : ∀ K : KP n n0 loose, (∀ {γ : Type} {T1 : Option γ} {r1 : γ} {f : Fr} {st : St}, T1 = some r1 → GG P n n0 loose an r1 Q T1 ⟨l2, f, st, []⟩ → K.p f st) → GG P n n0 loose an r (jm K.p (QK P n n0 loose l2 Q)) T (MM l2 (yL P n an d s)))
 (he : FG l2 (yL P n an d s).ks = l2 := by kernel_rfl) (ht : uk l2 = true := by kernel_rfl) : GG P n n0 loose an r Q T s := ⟨fun hT => qp (EM h he ht hT)⟩
def KN : CV → CV → CV
 | .pv (.s (.slice none 0 0)), .pv (.ro _) => .pv (.ro [])
 | c, _ => c
def FR : List CV → List CV → List CV
 | c :: l, e :: m => KN c e :: FR l m
 | l, _ => l
def Cf : AV → AV → AV
 | .one c, .one e => .one (KN c e)
 | .ag l, .ag m => .ag (FR l m)
 | a, _ => a
def Dw : List AV → List AV → List AV
 | a :: l, e :: m => Cf a e :: Dw l m
 | l, _ => l
def I7 : AV → AV → AV
 | .tp l, .tp m => .tp (Dw l m)
 | a, e => Cf a e
theorem Iu (c e : CV) : Ho c (KN c e) := by
 unfold KN
 split
 ·exact .nl
 ·exact .rfl _
theorem Eg : ∀ (l m : List CV), l.length = (FR l m).length ∧ ∀ (i : Nat) c c', l[i]? = some c → (FR l m)[i]? = some c' → Ho c c'
 | [], m => by cases m <;> exact ⟨rfl, fun i c c' h => by simp at h⟩
 | c :: l, [] => ⟨rfl, fun i a b h1 h2 => by simp only [FR] at h2; rw [h1] at h2; cases h2; exact .rfl _⟩
 | c :: l, e :: m => by
  obtain ⟨h1, h2⟩ := Eg l m
  refine ⟨by simp only [FR, List.length_cons]; omega, fun i a b q1 q2 => ?_⟩
  cases i with
  | zero => simp only [FR, List.getElem?_cons_zero, Option.some.injEq] at q1 q2; subst q1; subst q2; exact Iu _ _
  | succ i => exact h2 i a b (by simpa using q1) (by simpa [FR] using q2)
theorem Jt (a e : AV) : Fo a (Cf a e) := by
 unfold Cf
 split
 ·exact .one (Iu _ _)
 ·obtain ⟨h1, h2⟩ := Eg _ _
  exact .ag h1 h2
 ·exact .rfl _
def G1 (fr : Fr) : Fr → Fr
 | [] => []
 | (t, e) :: l => (t, Cf (lk fr t) e) :: G1 fr l
theorem Co (fr : Fr) : ∀ fr0, Gm fr (G1 fr fr0)
 | [] => trivial
 | (t, e) :: l => ⟨Jt _ _, Co fr l⟩
def rk : Nat → St → List Nat
 | _, [] => []
 | i, .dead :: l => rk (i + 1) l
 | i, _ :: l => i :: rk (i + 1) l
def MH (n0 : Nat) (fr0 : Fr) (st0 : St) (fr : Fr) (st : St) : Option (Fr × St) :=
 bif ((List.range n0).all (aN (rk 0 st0)) && (rk 0 st0).all (fun x => Nat.ble (x + 1) st0.length)) && dt (aN (rk 0 st0)) st0 then some (G1 (lL (aN (rk 0 st0)) fr) fr0, qq (rk 0 st0) 0 (st.take st0.length)) else none
theorem Et {fr0 fr : Fr} {st0 st : St} (he : MH n0 fr0 st0 fr st = some (fr0, st0)) : mF n n0 loose fr st fr0 st0 := by
 unfold MH at he
 cases hb : ((List.range n0).all (aN (rk 0 st0)) && (rk 0 st0).all (fun x => Nat.ble (x + 1) st0.length)) && dt (aN (rk 0 st0)) st0 with
 | false => simp [hb] at he
 | true =>
  simp only [hb, cond_true, Option.some.injEq, Prod.mk.injEq] at he
  rw [Bool.and_eq_true] at hb
  refine mF.trans (mF.only (rk 0 st0) st0.length hb.1 rfl he.2 hb.2) ?_
  rw [← he.1]
  exact mF.frame (Co _ _)
def NH (n0 : Nat) (fr0 : Fr) (st0 : St) (s : SS) : Option (Fr × St) := match s.ks with
 | [] => MH n0 fr0 st0 s.fr s.st
 | _ => none
theorem uJ {K : KP n n0 loose} {fr0 : Fr} {st0 : St} (j : T = some r → K.p fr0 st0) (he : NH n0 fr0 st0 (run P n an s) = some (fr0, st0) := by kernel_rfl) : GG P n n0 loose an r (jm K.p Q1) T s := by
 refine ⟨fun hT => ?_⟩
 refine bY (an := an) ?_
 unfold NH at he
 split at he
 ·rename_i hk
  unfold XK
  rw [hk]
  exact K.cl (Et he) (j hT)
 ·cases he
def NI (s : SS) : Option (Code × List It) := match s.ks with
 | .c (.loop x) :: k => some (x, k)
 | _ => none
theorem uO (x' : Code) (k : List It) (h : ∀ (R : Nat → KP n n0 loose), (∀ {γ : Type} {T1 : Option γ} {r1 : γ} {j : Nat} {f : Fr} {st : St}, T1 = some r1 → GG P n n0 loose an r1 (jm (R j).p (QK P n n0 loose k Q)) T1 ⟨[.c x'], f, st, []⟩ → (R (j + 1)).p f st) →
   T = some r → (R aW).p (run P n an s).fr (run P n an s).st)
  (he : NI (run P n an s) = some (x', k) := by kernel_rfl) : GG P n n0 loose an r Q T s := by
 refine ⟨fun hT => ?_⟩
 refine bY (an := an) ?_
 have h1 := h (fun j => ⟨fun f st => XR P n n0 loose x' (QK P n n0 loose k Q) j f st, fun hs h => XR.sub hs h⟩) (fun h g => g h) hT
 generalize run P n an s = s' at *
 obtain ⟨ks, fr, st, kn⟩ := s'
 unfold NI at he
 split at he
 ·rename_i y k' hk
  simp only [Option.some.injEq, Prod.mk.injEq] at he
  obtain ⟨rfl, rfl⟩ := he
  subst hk
  exact XW.rounds aW rfl h1
 ·cases he
def Nz (j : Nat) (s : SS) : SS := match s with
 | ⟨ks, fr, st, kn⟩ => match ks with
  | .c (.loop x) :: k => ⟨.c x :: .r x j :: k, fr, st, kn⟩
  | ks => ⟨ks, fr, st, kn⟩
theorem Lu (j : Nat) (g : GG P n n0 loose an r Q T (Nz j (run P n an s))) : GG P n n0 loose an r Q T s := by
 refine ⟨fun hT => ?_⟩
 refine bY (an := an) ?_
 have h1 := g hT
 generalize run P n an s = s' at *
 obtain ⟨ks, fr, st, kn⟩ := s'
 unfold Nz at h1
 simp only at h1
 split at h1
 ·exact XW.rounds (j + 1) rfl h1
 ·exact h1
theorem uE {K : KP n n0 loose} {fr0 fr : Fr} {st0 st : St} (j : T = some r → K.p fr0 st0) (he : MH n0 fr0 st0 fr st = some (fr0, st0) := by kernel_rfl) : T = some r → K.p fr st :=
 fun hT => K.cl (Et he) (j hT)
theorem uU {T' : Option β} (hu : T' = T) (g : GG P n n0 loose an r Q T s) : GG P n n0 loose an r Q T' s := hu ▸ g
def ND (s : SS) : Option Exit := match s.ks with
 | .c (.exit id) :: k => bif (yH id k).isNone then some (.exit id) else none
 | .c .ret :: _ => some .ret
 | _ => none
structure RE (P : Program) (n n0 : Nat) (loose an : List Nat) {β : Type} (r : β) (e : Exit) (Q : QT) (T : Option β) (s : SS) : Prop where
 go : T = some r → Q e s.fr s.st
instance {e : Exit} : CoeFun (RE P n n0 loose an r e Q T s) (fun _ => T = some r → Q e s.fr s.st) := ⟨RE.go⟩
theorem uR (e : Exit) (g : RE P n n0 loose an r e Q T (run P n an s)) (he : ND (run P n an s) = some e := by kernel_rfl) : GG P n n0 loose an r Q T s := by
 refine ⟨fun hT => ?_⟩
 have g := g hT
 refine bY (an := an) ?_
 generalize run P n an s = s' at *
 obtain ⟨ks, fr, st, kn⟩ := s'
 unfold ND at he
 split at he
 ·rename_i id k0 hk
  simp only at hk
  subst hk
  cases hu : yH id k0 with
  | some k' => simp [hu] at he
  | none =>
   simp only [hu, Option.isNone_none, cond_true, Option.some.injEq] at he
   subst he
   exact XW.exit rfl (oM hu g)
 ·rename_i k0 hk
  simp only at hk
  subst hk
  simp only [Option.some.injEq] at he
  subst he
  exact XW.ret rfl (rG g)
 ·cases he
def Gc (e : Exit) (k : List It) : Option (List It) := match e with
 | .exit id => yH id k
 | _ => none
def MY : Exit → Bool
 | .ret => true
 | .exit _ => true
 | _ => false
theorem xM {e : Exit} {R : Fr → St → Prop} {k : List It} (g : GG P n n0 loose an r Q T ⟨(Gc e k).getD [], s.fr, s.st, []⟩) (he : (Gc e k).isSome = true := by kernel_rfl) : RE P n n0 loose an r e (jm R (QK P n n0 loose k Q)) T s := by
 refine ⟨fun hT => ?_⟩
 have g := g hT
 cases e <;> simp only [Gc] at he g <;> try (cases he; done)
 rename_i id
 obtain ⟨k', hk⟩ := Option.isSome_iff_exists.1 he
 rw [hk] at g
 exact rm hk g
theorem xN {e : Exit} {R : Fr → St → Prop} {k : List It} (g : RE P n n0 loose an r e Q T s) (he : ((Gc e k).isNone && MY e) = true := by kernel_rfl) : RE P n n0 loose an r e (jm R (QK P n n0 loose k Q)) T s := by
 refine ⟨fun hT => ?_⟩
 have g := g hT
 cases e with
 | exit id => exact oM (Option.isNone_iff_eq_none.1 (by simpa [Gc, MY] using he)) g
 | ret => exact rG g
 | _ => simp [MY] at he
theorem Ie {st : St} {q : Nat → Bool} {c e : CV} (h : ld q (KN c e) = true) : CF st q c (KN c e) := by
 unfold KN at *
 split
 ·exact .nl
 ·exact .rfl _ (by simpa using h)
theorem LF.same {st : St} {q : Nat → Bool} : ∀ {l : List CV}, sC q l = true → LF st q l l
 | [], _ => .nil
 | c :: l, h => by
  simp only [sC, Bool.and_eq_true] at h
  exact .cons (.rfl _ h.1) (LF.same h.2)
theorem GD {st : St} {q : Nat → Bool} : ∀ {l m : List CV}, sC q (FR l m) = true → LF st q l (FR l m)
 | c :: l, e :: m, h => by
  simp only [FR, sC, Bool.and_eq_true] at h
  exact .cons (Ie h.1) (GD h.2)
 | [], _, _ => by simp only [FR]; exact .nil
 | c :: l, [], h => by simp only [FR] at h ⊢; exact LF.same h
theorem AF.same {st : St} {q : Nat → Bool} : ∀ {a : AV}, cN q a = true → AF st q a a
 | .j, _ => .j _
 | .one c, h => .one (.rfl _ h)
 | .ag l, h => .ag (LF.same h)
 | .tp [], _ => .tp0
 | .tp (a :: l), h => by
  simp only [cN, cN.go, Bool.and_eq_true] at h
  exact .tpc (AF.same h.1) (AF.same (a := .tp l) (by simpa [cN] using h.2))
theorem Ek {st : St} {q : Nat → Bool} {a e : AV} (h : cN q (Cf a e) = true) : AF st q a (Cf a e) := by
 unfold Cf at *
 split
 ·exact .one (Ie (by simpa [cN] using h))
 ·exact .ag (GD (by simpa [cN] using h))
 ·exact AF.same (by simpa using h)
theorem Ey {st : St} {q : Nat → Bool} : ∀ {l m : List AV}, cN.go q (Dw l m) = true → AF st q (.tp l) (.tp (Dw l m))
 | c :: l, e :: m, h => by
  simp only [Dw, cN.go, Bool.and_eq_true] at h
  exact .tpc (Ek h.1) (Ey h.2)
 | [], _, _ => by simp only [Dw]; exact .tp0
 | c :: l, [], h => by simp only [Dw] at h ⊢; exact AF.same (a := .tp (c :: l)) (by simpa [cN] using h)
theorem Iq {st : St} {q : Nat → Bool} {a e : AV} (h : cN q (I7 a e) = true) : AF st q a (I7 a e) := by
 unfold I7 at *
 split
 ·exact Ey (by simpa [cN] using h)
 ·exact Ek (by simpa using h)
def M5 (P : Program) (fn : Func) (s : SS) (e : AV) : Option AV := match m9 P s.fr s.st fn.results.toList [] with
 | some (avs, []) => bif cN (fun _ => false) (I7 (qA avs) e) then some (I7 (qA avs) e) else none
 | _ => none
theorem Ki {fn : Func} {e : Exit} {R : AV} (he : e = .normal ∨ e = .ret) (h : M5 P fn s R = some R) : AM P fn R e s.fr s.st := by
 unfold M5 at h
 split at h
 ·rename_i avs hr
  cases hi : cN (fun _ => false) (I7 (qA avs) R) with
  | false => simp [hi] at h
  | true =>
   simp only [hi, cond_true, Option.some.injEq] at h
   have := Iq (st := s.st) hi
   rw [h] at this
   exact ⟨he, [], avs, [], hr, trivial, this⟩
 ·cases h
def Gq (P : Program) (fn : Func) {β : Type} (rv : β → AV) (r : β) : QT := AM P fn (rv r)
theorem xF {fn : Func} {rv : β → AV} {v : β} (he : M5 P fn s (rv v) = some (rv v) := by kernel_rfl) : RE P n n0 loose an r .ret (Gq P fn rv r) (some v) s := by
 refine ⟨fun h => ?_⟩
 simp only [Option.some.injEq] at h
 subst h
 show AM P fn (rv v) _ _ _
 exact Ki (.inr rfl) he
def MN (args : List AV) : Fr := fF (kH args 0) id
theorem eK {f : Nat} {args : List AV} {rv : β → AV} (n : Nat) (an : List Nat) (fn : Func) (g : ∀ r, GG P n 0 [] an r (Gq P fn rv r) T ⟨[.c (cd fn [])], MN args, [], []⟩)
  (hf : P.funcs[f]? = some fn := by kernel_rfl) (hb : fn.body = some (cd fn []) := by kernel_rfl) (hn : fn.ntmps = n := by kernel_rfl) (hl : Nat.ble args.length n = true := by rfl) : CT P f args T rv := by
 intro r hT
 refine PC.of hf hb hn (Nat.le_of_ble_eq_true hl) ?_
 have := g r hT
 unfold MN at this
 rw [wy] at this
 refine XW.mono (show XW P n 0 [] (cd fn []) (QK P n 0 [] [] (Gq P fn rv r)) (kH args 0) [] from ?_) (fun e f s h => h)
 have e : jm (XW P n 0 [] (cd fn []) (Gq P fn rv r)) (Gq P fn rv r) .normal (kH args 0) [] := this
 exact e
theorem wJ {f : Nat} {args : List AV} {rv : β → AV} (e : T = none) : CT P f args T rv := fun r h => mg e h
def NK (P : Program) (m : Nat) (s : SS) : Bool := match s.ks with
 | .c (.region _ ops true) :: _ => (ql ops && ww ops m) && P.follows .mixedOrders
 | _ => false
def NP (m : Nat) (s : SS) : SS := match s with
 | ⟨.c (.region _ ops true) :: k, fr, st, kn⟩ => ⟨.d ops (ops.toList.take m) :: .o ops (ops.toList.drop m) :: k, fr, st, kn⟩
 | s => s
theorem ns (m : Nat) (k : GG P n n0 loose an r Q T (NP m (run P n an s))) (he : NK P m (run P n an s) = true := by kernel_rfl) : GG P n n0 loose an r Q T s := by
 refine ⟨fun hT => ?_⟩
 have k := k hT
 refine bY (an := an) ?_
 generalize run P n an s = s' at *
 obtain ⟨ks, fr, st, kn⟩ := s'
 unfold NK at he
 split at he
 ·rename_i id ops k0 hk
  simp only at hk
  subst hk
  obtain ⟨fr', h1, h2⟩ := k
  exact XW.drwS (c := .region id ops true) m fr' rfl he h1 h2
 ·cases he
def NJ (P : Program) (n0 : Nat) (loose : List Nat) (m K : Nat) (X : List Nat) (s : SS) : Bool := match s.ks with
 | .c (.region _ ops true) :: _ => ((ql ops && ww ops m) && P.follows .mixedOrders) && (dt (fun i => !aN X i) s.st && GU n0 loose X)
 | _ => false
def NF (m K : Nat) (X : List Nat) (s : SS) : SS := match s with
 | ⟨.c (.region _ ops true) :: k, fr, st, kn⟩ => fS (st ++ List.replicate K .dead) fun st => ⟨.g X ops (ops.toList.take m) [] :: .o ops (ops.toList.drop m) :: k, fr, st, kn⟩
 | s => s
theorem zl {q : Nat → Bool} : ∀ {a b : St}, dt q a = true → dt q b = true → dt q (a ++ b) = true
 | [], b, _, h => h
 | x :: a, b, h, h2 => by
  simp only [List.cons_append, dt, Bool.and_eq_true] at h ⊢
  exact ⟨h.1, zl h.2 h2⟩
theorem xq {q : Nat → Bool} : ∀ K : Nat, dt q (List.replicate K .dead) = true
 | 0 => rfl
 | K + 1 => by rw [List.replicate_succ]; simp only [dt, Bool.and_eq_true]; exact ⟨rfl, xq K⟩
theorem yA (m K : Nat) (X : List Nat) (k : GG P n n0 loose an r Q T (NF m K X (run P n an s))) (he : NJ P n0 loose m K X (run P n an s) = true := by kernel_rfl) : GG P n n0 loose an r Q T s := by
 refine ⟨fun hT => ?_⟩
 have k := k hT
 refine bY (an := an) ?_
 generalize run P n an s = s' at *
 obtain ⟨ks, fr, st, kn⟩ := s'
 unfold NJ at he
 split at he
 ·rename_i id ops k0 hk
  simp only at hk
  subst hk
  simp only [NF, qE] at k
  obtain ⟨fr2, st2, tw2, h1, h2, h3⟩ := k
  simp only [Bool.and_eq_true] at he
  obtain ⟨he, he1, he2⟩ := he
  rw [List.nil_append] at h2
  unfold GH at h2
  rw [Bool.and_eq_true] at h2
  have h4 : dt (fun i => !aN X i) (st ++ List.replicate K .dead) = true := zl he1 (xq K)
  exact XW.sub (mF.dead K) (XW.drwG (c := .region id ops true) m X tw2 fr2 st2 rfl (by simp only [Bool.and_eq_true]; exact ⟨he, ⟨h2, h4⟩, he2⟩) h1 h3)
 ·cases he
end
end Go.SX
namespace Go.SX
open Go
section
variable {P : Program} {n n0 : Nat} {loose an : List Nat} {Q Q1 : QT} {α β : Type} {T x y : Option β} {r : β} {s : SS} {fr : Fr} {st : St} {ops : Array Oper} {l : List Oper}
def Md (b : Bool) (a : AV) : AV := match b with
 | true => Ln a
 | false => a
theorem KW (b : Bool) (l : List AV) : vB l (l.map (Md b)) := by
 cases b with
 | true => exact BI l
 | false => rw [show l.map (Md false) = l from List.map_id l]; exact vB.refl l
theorem pA.soft {ι : IM} {w : World} {vs : List Value} {asv : List AV} (b : Bool) (h : pA ι w st vs asv) : pA ι w st vs (asv.map (Md b)) := by
 obtain ⟨e1, e2⟩ := (KW b asv).get
 refine ⟨h.1.trans e1, fun j v a h1 h2 => ?_⟩
 have hlt : j < asv.length := by rw [e1]; exact (List.getElem?_eq_some_iff.1 h2).1
 exact (h.2 j v _ h1 (List.getElem?_eq_getElem hlt)).le (e2 j _ a (List.getElem?_eq_getElem hlt) h2)
def CM (P : Program) (f : Nat) (args : List AV) (sc : St) {β : Type} (T : Option β) (rv : β → AV) (nb : β → St) : Prop := ∀ r, T = some r → MC P f args sc (rv r) (nb r)
def zr (P : Program) (fn : Func) (k : Nat) {β : Type} (rv : β → AV) (nb : β → St) (r : β) : QT := Fg P fn (rv r) k (nb r)
def NN (st : St) : St := fS st id
theorem rB {f : Nat} {args : List AV} {sc : St} {rv : β → AV} {nb : β → St} (k n : Nat) (an : List Nat) (fn : Func) (g : ∀ r, GG P n k [] an r (zr P fn k rv nb r) T ⟨[.c (cd fn [])], MN args, NN sc, []⟩)
  (hf : P.funcs[f]? = some fn := by kernel_rfl) (hb : fn.body = some (cd fn []) := by kernel_rfl) (hn : fn.ntmps = n := by kernel_rfl) (hl : Nat.ble args.length n = true := by rfl) (hk : sc.length = k := by rfl) : CM P f args sc T rv nb := by
 intro r hT
 refine MC.of k hf hb hn (Nat.le_of_ble_eq_true hl) hk ?_
 have := g r hT
 unfold MN NN at this
 rw [wy, qE] at this
 refine XW.mono (show XW P n k [] (cd fn []) (QK P n k [] [] (zr P fn k rv nb r)) (kH args 0) sc from ?_) (fun e f s h => h)
 have e : jm (XW P n k [] (cd fn []) (zr P fn k rv nb r)) (zr P fn k rv nb r) .normal (kH args 0) sc := this
 exact e
theorem IQ {f : Nat} {args : List AV} {sc : St} {rv : β → AV} {nb : β → St} (e : T = none) : CM P f args sc T rv nb := fun r h => mg e h
def Mz (P : Program) (fn : Func) (k : Nat) (s : SS) (e : AV) : Option (AV × St) := match m9 P s.fr s.st fn.results.toList [] with
 | some (avs, []) => bif cN (fun id => Nat.ble (id + 1) k) (I7 (qA avs) e) && dt (fun id => Nat.ble (id + 1) k) (s.st.take k) then some (I7 (qA avs) e, s.st.take k) else none
 | _ => none
theorem EJ {fn : Func} {k : Nat} {e : Exit} {R : AV} {sc : St} (he : e = .normal ∨ e = .ret) (h : Mz P fn k s R = some (R, sc)) : Fg P fn R k sc e s.fr s.st := by
 unfold Mz at h
 split at h
 ·rename_i avs hr
  cases hi : cN (fun id => Nat.ble (id + 1) k) (I7 (qA avs) R) with
  | false => simp [hi] at h
  | true =>
   cases hs : dt (fun id => Nat.ble (id + 1) k) (s.st.take k) with
   | false => simp [hs] at h
   | true =>
    simp only [hi, hs, Bool.and_self, cond_true, Option.some.injEq, Prod.mk.injEq] at h
    have := Iq (st := s.st) hi
    rw [h.1] at this
    exact ⟨he, [], avs, [], hr, trivial, h.2, by rw [← h.2]; exact hs, this⟩
 ·cases h
theorem sL {fn : Func} {k : Nat} {rv : β → AV} {nb : β → St} {v : β} (he : Mz P fn k s (rv v) = some (rv v, nb v) := by kernel_rfl) : RE P n n0 loose an r .ret (zr P fn k rv nb r) (some v) s := by
 refine ⟨fun h => ?_⟩
 simp only [Option.some.injEq] at h
 subst h
 exact EJ (.inr rfl) he
theorem Nl {fn : Func} {k : Nat} {rv : β → AV} {nb : β → St} {v : β} (hk : (run P n an s).ks.isEmpty = true := by kernel_rfl) (he : Mz P fn k (run P n an s) (rv v) = some (rv v, nb v) := by kernel_rfl) : GG P n n0 loose an r (zr P fn k rv nb r) (some v) s := by
 refine ⟨fun h => ?_⟩
 simp only [Option.some.injEq] at h
 subst h
 refine bY (an := an) ?_
 have : (run P n an s).ks = [] := List.isEmpty_iff.1 hk
 unfold XK
 rw [this]
 exact EJ (.inl rfl) he
def cQ (b : Bool) (P : Program) (n : Nat) (s : SS) : Option (Nat × List AV) := match s.ks with
 | .o ops l :: _ => (match xI P n ops l s.fr with
  | some (g, avs) => some (g, avs.map (Md b))
  | none => none)
 | _ => none
def KF (n : Nat) (av : AV) (st' : St) (s : SS) : SS := match s with
 | ⟨.o ops (o :: l) :: k, fr, _, kn⟩ => fA av fun av => fS st' fun st' => rC n o.dst av fr (fun fr' => vm false o.dst kn fun kn' => ⟨.o ops l :: k, fr', st', kn'⟩) s
 | s => s
theorem At {av : AV} {st' : St} {o : Oper} {k : List It} {kn : List Nat} : (∃ fr' kn', ox n o.dst av fr = some fr' ∧ KF n av st' ⟨.o ops (o :: l) :: k, fr, st, kn⟩ = ⟨.o ops l :: k, fr', st', kn'⟩) ∨ KF n av st' ⟨.o ops (o :: l) :: k, fr, st, kn⟩ = ⟨.o ops (o :: l) :: k, fr, st, kn⟩ := by
 simp only [KF, rg, qE]
 rcases jR (n := n) o.dst av fr (fun fr' => vm false o.dst kn fun kn' => (⟨.o ops l :: k, fr', st', kn'⟩ : SS)) ⟨.o ops (o :: l) :: k, fr, st, kn⟩ with ⟨fr', hp, e⟩ | e
 ·obtain ⟨kn', ek⟩ := j5 false o.dst kn fun kn' => (⟨.o ops l :: k, fr', st', kn'⟩ : SS)
  exact .inl ⟨fr', kn', hp, by rw [e, ek]⟩
 ·exact .inr e
theorem XO.calmS (g : Nat) (avs avs0 : List AV) (sc sc' : St) (r : AV) (rs : List Nat) (fr' : Fr) (st' : St) (hc : xI P n ops l fr = some (g, avs0)) (b : Bool) (hs : avs0.map (Md b) = avs.map (tJ (pd rs st.length))) (h : MC P g avs sc r sc') (hb : DZ st.length rs sc sc' avs = true)
  (hst : rs.map (fun x => st[x]?) = sc.map (fun o => some (qJ (pd rs st.length) o))) (hst' : eF st rs (sc'.map (qJ (pd rs st.length))) = st') (hput : Bs n l (tJ (pd rs st.length) r) fr = some fr')
  (hk : XO P n n0 loose ops (l.drop 1) Q fr' st') : XO P n n0 loose ops l Q fr st := by
 cases l with
 | nil => simp [xI] at hc
 | cons o rest =>
  simp only [xI] at hc
  split at hc
  ·rename_i hg
   intro ι w a hR hF
   obtain ⟨vs, hrun, hA⟩ := pG hc hF
   have hA := hA.soft b
   rw [hs] at hA
   have hw := dj hg hF
   refine wpList_step fun K hK => ?_
   rw [if_pos hw]
   simp only [Oper.wp, hrun, Oper.upon]
   refine (h.use' rs (Fq hb) hst hR hA).mono ?_
   rintro e w' ⟨v, ι', rfl, hR', hv, k⟩
   rw [hst'] at hR' hv k
   exact hK _ _ (eX (fun e a w h => h.trans (k.weaken (fun _ _ => trivial))) (hk ι' w' _ hR' (j8 hput (hF.mono' k) hv)))
  ·simp at hc
theorem mX (b : Bool) (rs : List Nat) {o : Option α} {f : α → Option β} {g : Nat} {avs : List AV} {sc : St} {rv : α → AV} {nb : α → St} (c : CM P g avs sc o rv nb)
  (k : ∀ v, o = some v → GG P n n0 loose an r Q (f v) (KF n (tJ (pd rs (run P n an s).st.length) (rv v)) (eF (run P n an s).st rs ((nb v).map (qJ (pd rs (run P n an s).st.length)))) (run P n an s)))
  (h1 : cQ b P n (run P n an s) = some (g, avs.map (tJ (pd rs (run P n an s).st.length))) := by kernel_rfl) (h2 : ∀ v, DZ (run P n an s).st.length rs sc (nb v) avs = true := by intro v; kernel_rfl)
  (h3 : rs.map (fun x => (run P n an s).st[x]?) = sc.map (fun o => some (qJ (pd rs (run P n an s).st.length) o)) := by kernel_rfl) : GG P n n0 loose an r Q (az o f) s := by
 refine ⟨fun h => ?_⟩
 obtain ⟨v, ho, h⟩ := re h
 refine bY (an := an) ?_
 have k := k v ho h
 have h2 := h2 v
 generalize run P n an s = s' at *
 obtain ⟨ks, fr, st, kn⟩ := s'
 unfold cQ at h1
 split at h1
 ·rename_i ops l k' hk
  simp only at hk
  subst hk
  split at h1
  ·rename_i g' avs' hc
   simp only [Option.some.injEq, Prod.mk.injEq] at h1
   obtain ⟨rfl, h1⟩ := h1
   cases l with
   | nil => simp [xI] at hc
   | cons o' l =>
    rcases At (n := n) (av := tJ (pd rs st.length) (rv v)) (st' := eF st rs ((nb v).map (qJ (pd rs st.length)))) (o := o') (ops := ops) (l := l) (fr := fr) (st := st) (k := k') (kn := kn) with ⟨fr', kn', hp, e⟩ | e
    ·rw [e] at k
     exact XO.calmS _ _ _ _ _ _ _ fr' _ hc b h1 (c v ho) h2 h3 rfl hp k
    ·rw [e] at k; exact k
  ·cases h1
 ·cases h1
def NM (P : Program) (s : SS) : Option ByteArray := match s.ks with
 | .o ops l :: _ => BX P ops l s.fr
 | _ => none
theorem Nt (t : ByteArray) (k : GG P n n0 loose an r Q T (KF n (.one (.pt (run P n an s).st.length 0 0 0)) ((run P n an s).st ++ [.raw (.stringIter t 0)]) (run P n an s))) (he : NM P (run P n an s) = some t := by kernel_rfl) : GG P n n0 loose an r Q T s := by
 refine ⟨fun h => bY (an := an) ?_⟩
 have k := k h
 generalize run P n an s = s' at *
 obtain ⟨ks, fr, st, kn⟩ := s'
 unfold NM at he
 split at he
 ·rename_i ops l k' hk
  simp only at hk
  subst hk
  cases l with
  | nil => simp [BX] at he
  | cons o' l =>
   rcases At (n := n) (av := .one (.pt st.length 0 0 0)) (st' := st ++ [.raw (.stringIter t 0)]) (o := o') (ops := ops) (l := l) (fr := fr) (st := st) (k := k') (kn := kn) with ⟨fr', kn', hp, e⟩ | e
   ·rw [e] at k
    exact XO.rng t fr' _ he hp rfl k
   ·rw [e] at k; exact k
 ·cases he
def Na (s : SS) : Option Nat := match s.ks with
 | .o ops l :: _ => uy ops l s.fr
 | _ => none
theorem Nv (id : Nat) {t : ByteArray} {pos : Nat}
  (k1 : decide (pos < t.size) = true → GG P n n0 loose an r Q x (KF n (.tp [.one (.pv (.s (.bool true))), .one (.pv (.s (.int .i64 (Int.ofNat pos)))), .one (.pv (.s (.int .i32 (Int.ofNat (Utf8.decode t pos).1))))]) ((run P n an s).st.set id (.raw (.stringIter t (pos + (Utf8.decode t pos).2)))) (run P n an s)))
  (k2 : decide (pos < t.size) = false → GG P n n0 loose an r Q y (KF n (.tp [.one (.pv (.s (.bool false)))]) (run P n an s).st (run P n an s)))
  (he : Na (run P n an s) = some id := by kernel_rfl) (ho : (run P n an s).st[id]? = some (.raw (.stringIter t pos)) := by kernel_rfl) : GG P n n0 loose an r Q (ax (decide (pos < t.size)) x y) s := by
 refine ⟨fun h => bY (an := an) ?_⟩
 cases hp0 : decide (pos < t.size) with
 | true =>
  rw [hp0] at h
  have k := k1 hp0 h
  generalize run P n an s = s' at *
  obtain ⟨ks, fr, st, kn⟩ := s'
  unfold Na at he
  split at he
  ·rename_i ops l k' hk
   simp only at hk
   subst hk
   cases l with
   | nil => simp [uy] at he
   | cons o' l =>
    rcases At (n := n) (av := .tp [.one (.pv (.s (.bool true))), .one (.pv (.s (.int .i64 (Int.ofNat pos)))), .one (.pv (.s (.int .i32 (Int.ofNat (Utf8.decode t pos).1))))]) (st' := st.set id (.raw (.stringIter t (pos + (Utf8.decode t pos).2)))) (o := o') (ops := ops) (l := l) (fr := fr) (st := st) (k := k') (kn := kn) with ⟨fr', kn', hp, e⟩ | e
    ·rw [e] at k
     exact XO.nxt id t pos fr' _ he ho hp rfl hp0 k
    ·rw [e] at k; exact k
  ·cases he
 | false =>
  rw [hp0] at h
  have k := k2 hp0 h
  generalize run P n an s = s' at *
  obtain ⟨ks, fr, st, kn⟩ := s'
  unfold Na at he
  split at he
  ·rename_i ops l k' hk
   simp only at hk
   subst hk
   cases l with
   | nil => simp [uy] at he
   | cons o' l =>
    rcases At (n := n) (av := .tp [.one (.pv (.s (.bool false)))]) (st' := st) (o := o') (ops := ops) (l := l) (fr := fr) (st := st) (k := k') (kn := kn) with ⟨fr', kn', hp, e⟩ | e
    ·rw [e] at k
     exact XO.nxtE id t pos fr' he ho hp hp0 k
    ·rw [e] at k; exact k
  ·cases he
end
end Go.SX
namespace Go.SX
open Go
section
variable {P : Program} {n n0 : Nat} {loose an : List Nat} {Q Q1 : QT} {α β : Type} {T x y : Option β} {r : β} {s : SS} {fr : Fr} {st : St} {ops : Array Oper} {l : List Oper}
inductive BF (st : St) (q : Nat → Bool) : br → br → Prop where
 | same (o : br) (h : jn q o = true) : BF st q o o
 | box {cells cells' : List CV} (h : LF st q cells cells') : BF st q (.box cells) (.box cells')
structure zZ (q : Nat → Bool) (st st' : St) : Prop where
 old : ∀ (id : Nat) o', st'[id]? = some o' → o' = .dead ∨ (q id = true ∧ ∃ o, st[id]? = some o ∧ BF st q o o')
 keep : ∀ id, q id = true → id < st.length → id < st'.length
theorem BF.alive {q : Nat → Bool} {o o' : br} (h : BF st q o o') (ha : o'.alive) : o.alive := by
 cases h with
 | same => exact ha
 | box => simp [br.alive]
theorem zZ.own {q : Nat → Bool} {st' : St} (h : zZ q st st') {ι : IM} {b : Nat} (ho : nX ι st' b) : ∃ id o, q id = true ∧ st[id]? = some o ∧ o.alive ∧ ι id = some b := by
 obtain ⟨id, o, h1, h2, h3⟩ := ho
 rcases h.old id o h1 with rfl | ⟨h4, o0, h5, h6⟩
 ·exact absurd rfl h2
 ·exact ⟨id, o0, h4, h5, h6.alive h2, h3⟩
theorem zZ.keeps {q : Nat → Bool} {st' : St} (h : zZ q st st') {ι : IM} {w : World} : bi (fun id => q id = true) ι w st ι w st' :=
 ⟨rfl, rfl, rfl, Nat.le_refl _, rfl, fun b _ hm => ⟨rfl, fun ho => by
  obtain ⟨id, o, _, h2, h3, h4⟩ := h.own ho
  exact hm ⟨id, o, h2, h3, h4⟩⟩, fun id hq hid => ⟨h.keep id hq hid, rfl⟩, fun _ c _ _ h => ⟨c, h, rfl⟩⟩
theorem b8.fzF {q : Nat → Bool} {st' : St} {ι : IM} {w : World} (r : eg ι w st) (hs : zZ q st st') {v : Value} {c c' : CV} (h : b8 ι w st v c) (hf : CF st q c c') : b8 ι w st' v c' := by
 have k := hs.keeps (ι := ι) (w := w)
 cases hf with
 | rfl _ hc => exact h.mono k (q := q) (fun _ h _ => h) hc
 | nl =>
  have := bj (aK.one _ _ h)
  subst this
  exact .pv _ _ .nl
 | pt hid hq => exact h.boxed r (fun b => hs.own) (fun _ _ => k.pure) hid hq
 | fnp hid hq => exact h.boxfn r (fun b => hs.own) (fun _ _ => k.pure) hid hq
 | @sl id sz off len els els' ho hq hl he =>
  subst he
  have hlen : ((els.drop off).take len).length = len := by simp; omega
  cases h with
  | sn _ _ hid hb =>
   have : (els.drop 0).take 0 = [] := by simp
   rw [this]
   exact .pv _ _ .nl
  | sl _ _ _ _ b cap hid hb hcap hc =>
   rcases r.obj id _ ho with ⟨e1, _⟩ | ⟨b', c, ty, e1, e2, hcs, hsz, hcell⟩
   ·rw [hb] at e1; cases e1
   ·rw [hb] at e1; cases e1
    have hown : nX ι st b := ⟨id, _, ho, by simp [br.alive], hb⟩
    have := ei.ro (μ := gV ι st') (w := w) ⟨b, off * sz, none⟩ cap sz ((els.drop off).take len) (fun i j => c.getD ((off + i) * sz + j) undef) (by rw [hlen]; exact hcap)
     (fun e he => hsz e (List.mem_of_mem_drop (List.mem_of_mem_take he)))
     (fun _ => ⟨cM e2, fun hm => by
      rcases hm with hm | hm
      ·exact r.dis b hown hm
      ·obtain ⟨id', o', hq', h5, h6, h7⟩ := hs.own hm
       have := r.inj id id' _ o' b ho h5 (by simp [br.alive]) h6 hb h7
       subst this
       rw [hq] at hq'; cases hq'⟩)
     (fun i e j p h1 h2 => by
      rw [List.getElem?_take] at h1
      split at h1
      ·rw [List.getElem?_drop] at h1
       obtain ⟨u, a1, a2⟩ := hcell _ e j p h1 h2
       rw [add_lit, lM e2]
       rw [show off * sz + (i * sz + j) = (off + i) * sz + j by rw [Nat.add_mul]; omega, a1]
       simp [a1]
      ·cases h1)
     (fun i e j p h1 h2 => by
      rw [List.getElem?_take] at h1
      split at h1
      ·rw [List.getElem?_drop] at h1
       obtain ⟨u, a1, a2⟩ := hcell _ e j p h1 h2
       have : c.getD ((off + i) * sz + j) undef = u := by simp [a1]
       rw [this]
       exact k.pure a2
      ·cases h1)
    rw [hlen] at this
    exact .pv _ _ this
theorem dr.fzF {q : Nat → Bool} {st' : St} {ι : IM} {w : World} (r : eg ι w st) (hs : zZ q st st') {cs cs' : List CV} (hf : LF st q cs cs') : ∀ {vs : List Value}, dr ι w st vs cs → dr ι w st' vs cs' := by
 induction hf with
 | nil => exact fun h => ⟨h.1, fun j v c h1 h2 => by simp at h2⟩
 | @cons c c' l l' hc hk ih =>
  intro vs hL
  match vs, hL with
  | [], hL => have := hL.1; simp at this
  | u :: us, hL =>
   have h0 := hL.2 0 u c rfl rfl
   have ht := ih (vs := us) ⟨by have := hL.1; simpa using this, fun j v c h1 h2 => hL.2 (j + 1) v c (by simpa using h1) (by simpa using h2)⟩
   refine ⟨by simp [ht.1], fun j v c h1 h2 => ?_⟩
   cases j with
   | zero => simp at h1 h2; subst h1; subst h2; exact h0.fzF r hs hc
   | succ j => exact ht.2 j v c (by simpa using h1) (by simpa using h2)
theorem aK.fzF {q : Nat → Bool} {st' : St} {ι : IM} {w : World} (r : eg ι w st) (hs : zZ q st st') {v : Value} {a a' : AV} (h : aK ι w st v a) (hf : AF st q a a') : aK ι w st' v a' := by
 induction hf generalizing v with
 | j a => exact .j _
 | one hc => exact .one _ _ ((jD h).fzF r hs hc)
 | @ag cs cs' hl =>
  obtain ⟨vs, rfl, hL⟩ := BC h
  exact .ag _ _ (hL.fzF r hs hl)
 | tp0 =>
  cases h with
  | tp vs _ hl h => exact .tp _ _ hl (fun j v a h1 h2 => by simp at h2)
 | @tpc a a' l l' ha hk ih1 ih2 =>
  cases h with
  | tp vs _ hl h =>
   match vs, hl with
   | [], hl => simp at hl
   | u :: us, hl =>
    have h0 := ih1 (h 0 u a rfl rfl)
    have ht := ih2 (.tp us l (by simpa using hl) (fun j v c h1 h2 => h (j + 1) v c (by simpa using h1) (by simpa using h2)))
    generalize hx : Value.tuple us.toArray = xv at ht
    generalize hy : AV.tp l' = ya at ht
    cases ht with
    | tp vs2 as2 hl2 h2 =>
     cases hy
     have : us = vs2 := by
      have := congrArg (fun v : Value => match v with | .tuple a => a.toList | _ => []) hx
      simpa using this
     subst this
     refine .tp _ _ (by simp [hl2]) (fun j v c h1 h3 => ?_)
     cases j with
     | zero => simp at h1 h3; subst h1; subst h3; exact h0
     | succ j => exact h2 j v c (by simpa using h1) (by simpa using h3)
    | _ => cases hy
theorem eg.frz {q : Nat → Bool} {st' : St} {ι : IM} {w : World} (r : eg ι w st) (h : zZ q st st') : eg ι w st' := by
 have k := h.keeps (ι := ι) (w := w)
 refine ⟨fun id o ho => ?_, r.amb, fun b ho => ?_, fun id id' o o' b h1 h2 a1 a2 e1 e2 => ?_, r.glk k⟩
 ·rcases h.old id o ho with rfl | ⟨hq, o0, ho', hbf⟩
  ·trivial
  ·have := r.obj id o0 ho'
   cases hbf with
   | box hl =>
    obtain ⟨b', vs, ty, e', hb', hL⟩ := this
    exact ⟨b', vs, ty, e', hb', hL.fzF r h hl⟩
   | same _ hb =>
    cases o with
    | dead => trivial
    | box cells =>
     obtain ⟨b', vs, ty, e', hb', hl⟩ := this
     exact ⟨b', vs, ty, e', hb', hl.mono k (q := q) (fun _ h _ => h) hb⟩
    | rel Rm ps =>
     obtain ⟨b', ob, vs0, e', hb', hr0, hl0⟩ := this
     exact ⟨b', ob, vs0, e', hb', hr0, hl0.map fun _ _ h0 => k.pure h0⟩
    | arr sz els =>
     rcases this with ⟨e', he⟩ | ⟨b', c, ty, e', hb', h1, h2, h3⟩
     ·exact .inl ⟨e', he⟩
     ·refine .inr ⟨b', c, ty, e', hb', h1, h2, fun i e' j cv a1 a2 => ?_⟩
      obtain ⟨v, hv, hr⟩ := h3 i e' j cv a1 a2
      exact ⟨v, hv, k.pure hr⟩
 ·obtain ⟨id, o, _, h2, h3, h4⟩ := h.own ho
  exact r.dis b ⟨id, o, h2, h3, h4⟩
 ·rcases h.old id o h1 with rfl | ⟨_, o0, h5, q1⟩
  ·exact absurd rfl a1
  rcases h.old id' o' h2 with rfl | ⟨_, o1, h6, q2⟩
  ·exact absurd rfl a2
  exact r.inj id id' o0 o1 b h5 h6 (q1.alive a1) (q2.alive a2) e1 e2
theorem mF.frz {q : Nat → Bool} {fr' : Fr} {st' : St} (h : zZ q st st') (hf : ∀ t, AF st q (lk fr t) (lk fr' t)) (hq : ∀ id, om n0 loose id = true → q id = true) : mF n n0 loose fr st fr' st' :=
 fun ι w a hR hF => ⟨ι, hR.frz h, ⟨hF.defers, hF.size, fun t => (hF.slot t).fzF hR h (hf t)⟩, h.keeps.weaken hq⟩
def LL (id : Nat) (els : List (List PV)) : CV → CV
 | .sl i sz off len => bif Nat.beq i id then .pv (.ro els) else .sl i sz off len
 | c => c
def MD (id : Nat) (els : List (List PV)) : List CV → List CV
 | [] => []
 | c :: l => LL id els c :: MD id els l
def NE (id : Nat) (els : List (List PV)) : AV → AV
 | .one c => .one (LL id els c)
 | .ag l => .ag (MD id els l)
 | a => a
def MQ (id : Nat) : CV → List (Nat × Nat × Nat)
 | .sl i sz off len => bif Nat.beq i id then [(sz, off, len)] else []
 | _ => []
def LA (id : Nat) : List CV → List (Nat × Nat × Nat)
 | [] => []
 | c :: l => MQ id c ++ LA id l
def Nw (id : Nat) : AV → List (Nat × Nat × Nat)
 | .one c => MQ id c
 | .ag l => LA id l
 | _ => []
def Nk (id : Nat) (els : List (List PV)) : br → br
 | .box l => .box (MD id els l)
 | b => b
def NB (id : Nat) : br → List (Nat × Nat × Nat)
 | .box l => LA id l
 | _ => []
def DU (id : Nat) (els : List (List PV)) : Nat → St → St
 | _, [] => []
 | i, b :: l => (bif Nat.beq i id then .dead else Nk id els b) :: DU id els (i + 1) l
def Hu (id : Nat) : St → List (Nat × Nat × Nat)
 | [] => []
 | b :: l => NB id b ++ Hu id l
def FJ (id : Nat) : Nat → Bool := fun i => !Nat.beq i id
def M4 (id : Nat) (c : CV) : Bool := match c with
 | .sl .. => true
 | c => ld (FJ id) c
def Mf (id : Nat) : List CV → Bool
 | [] => true
 | c :: l => M4 id c && Mf id l
def NO (id : Nat) : AV → Bool
 | .one c => M4 id c
 | .ag l => Mf id l
 | a => cN (FJ id) a
def NA (id : Nat) : br → Bool
 | .box l => Mf id l
 | _ => true
theorem Ex {E : so α} {xs : List α} {id : Nat} {L : List (Nat × Nat × Nat)} (h : ∀ p ∈ L, p = (E.sz, 0, xs.length)) {st : St} (hid : st[id]? = some (.arr E.sz (E.els xs))) {c : CV} (hc : ∀ p ∈ MQ id c, p ∈ L) (ho : M4 id c = true) : CF st (FJ id) c (LL id (E.els xs) c) := by
 cases c with
 | sl i sz off len =>
  cases hb : Nat.beq i id with
  | true =>
   have := Nat.eq_of_beq_eq_true hb
   subst this
   have hp := h _ (hc (sz, off, len) (by simp [MQ]))
   simp only [Prod.mk.injEq] at hp
   obtain ⟨rfl, rfl, rfl⟩ := hp
   simp only [LL, hb, cond_true]
   exact Ml E xs hid (by simp [FJ]) rfl
  | false =>
   simp only [LL, hb, cond_false]
   exact .rfl _ (by simp [ld, FJ, hb])
 | _ => exact .rfl _ ho
theorem Df {E : so α} {xs : List α} {id : Nat} {L : List (Nat × Nat × Nat)} (h : ∀ p ∈ L, p = (E.sz, 0, xs.length)) {st : St} (hid : st[id]? = some (.arr E.sz (E.els xs))) : ∀ {l : List CV}, (∀ p ∈ LA id l, p ∈ L) → Mf id l = true → LF st (FJ id) l (MD id (E.els xs) l)
 | [], _, _ => .nil
 | c :: l, hc, ho => by
  simp only [Mf, Bool.and_eq_true] at ho
  exact .cons (Ex h hid (fun p hp => hc p (by simp [LA, hp])) ho.1) (Df h hid (fun p hp => hc p (by simp [LA, hp])) ho.2)
theorem Kr {E : so α} {xs : List α} {id : Nat} {L : List (Nat × Nat × Nat)} (h : ∀ p ∈ L, p = (E.sz, 0, xs.length)) {st : St} (hid : st[id]? = some (.arr E.sz (E.els xs))) {a : AV} (hc : ∀ p ∈ Nw id a, p ∈ L) (ho : NO id a = true) : AF st (FJ id) a (NE id (E.els xs) a) := by
 cases a with
 | one c => exact .one (Ex h hid hc ho)
 | ag l => exact .ag (Df h hid hc ho)
 | _ => exact AF.same ho
theorem xQ (id : Nat) (els : List (List PV)) : ∀ (st : St) (i j : Nat), (DU id els i st)[j]? = (st[j]?).map fun b => bif Nat.beq (i + j) id then br.dead else Nk id els b
 | [], i, j => by simp [DU]
 | b :: l, i, 0 => by simp [DU]
 | b :: l, i, j + 1 => by simp only [DU, List.getElem?_cons_succ]; rw [xQ id els l (i + 1) j, show i + 1 + j = i + (j + 1) by omega]
theorem BQ {id : Nat} : ∀ {st : St} {j : Nat} {b : br}, st[j]? = some b → ∀ p ∈ NB id b, p ∈ Hu id st
 | [], j, b, h, p, hp => by simp at h
 | x :: l, 0, b, h, p, hp => by simp at h; subst h; simp [Hu, hp]
 | x :: l, j + 1, b, h, p, hp => by simp only [Hu, List.mem_append]; exact .inr (BQ (by simpa using h) p hp)
def H0 (id : Nat) (els : List (List PV)) (fr : Fr) : List Nat → Fr
 | [] => lL (FJ id) fr
 | t :: ts => (t, NE id els (lk fr t)) :: H0 id els fr ts
def H4 (id : Nat) (fr : Fr) : List Nat → List (Nat × Nat × Nat)
 | [] => []
 | t :: ts => Nw id (lk fr t) ++ H4 id fr ts
def Hb (id : Nat) (fr : Fr) : List Nat → Bool
 | [] => true
 | t :: ts => NO id (lk fr t) && Hb id fr ts
theorem EO {E : so α} {xs : List α} {id : Nat} {L : List (Nat × Nat × Nat)} (h : ∀ p ∈ L, p = (E.sz, 0, xs.length)) {st : St} (hid : st[id]? = some (.arr E.sz (E.els xs))) : ∀ {ts : List Nat}, (∀ p ∈ H4 id fr ts, p ∈ L) → Hb id fr ts = true → ∀ t, AF st (FJ id) (lk fr t) (lk (H0 id (E.els xs) fr ts) t)
 | [], _, _, t => by
  simp only [H0]
  rw [rM]
  cases hi : cN (FJ id) (lk fr t) with
  | false => exact .j _
  | true => exact AF.same hi
 | u :: ts, hc, ho, t => by
  simp only [Hb, Bool.and_eq_true] at ho
  simp only [H0, lk]
  cases hb : Nat.beq u t with
  | true =>
   have := Nat.eq_of_beq_eq_true hb
   subst this
   exact Kr h hid (fun p hp => hc p (by simp [H4, hp])) ho.1
  | false => exact EO h hid (fun p hp => hc p (by simp [H4, hp])) ho.2 t
def DY (n0 id : Nat) (ts : List Nat) (s : SS) : Option (Nat × List (List PV) × List (Nat × Nat × Nat)) :=
 match s.st[id]? with
 | some (.arr sz els) => bif Nat.ble n0 id && (Hb id s.fr ts && s.st.all (NA id)) then some (sz, els, H4 id s.fr ts ++ Hu id s.st) else none
 | _ => none
def yc (id : Nat) (els : List (List PV)) (ts : List Nat) (s : SS) : SS := match s with
 | ⟨ks, fr, st, kn⟩ => fF (H0 id els fr ts) fun fr => fS (DU id els 0 st) fun st => ⟨ks, fr, st, kn⟩
theorem GN {E : so α} {xs : List α} {id : Nat} {ts : List Nat} {L : List (Nat × Nat × Nat)} (he : DY n0 id ts s = some (E.sz, E.els xs, L)) (hL : ∀ p ∈ L, p = (E.sz, 0, xs.length)) :
  mF n n0 loose s.fr s.st (yc id (E.els xs) ts s).fr (yc id (E.els xs) ts s).st := by
 unfold DY at he
 split at he
 ·rename_i sz els hid
  cases hb : Nat.ble n0 id && (Hb id s.fr ts && s.st.all (NA id)) with
  | false => simp [hb] at he
  | true =>
   simp only [hb, cond_true, Option.some.injEq, Prod.mk.injEq] at he
   obtain ⟨rfl, rfl, rfl⟩ := he
   simp only [Bool.and_eq_true] at hb
   obtain ⟨h1, h2, h3⟩ := hb
   obtain ⟨ks, fr, st, kn⟩ := s
   simp only [yc, wy, qE]
   simp only at hid h2 h3 hL
   refine mF.frz (q := FJ id) ⟨fun i o' ho => ?_, fun i hq hi => ?_⟩ (EO hL hid (fun p hp => by simp [hp]) h2) (fun i hi => ?_)
   ·rw [xQ, Nat.zero_add, Option.map_eq_some_iff] at ho
    obtain ⟨b, hb, e⟩ := ho
    cases hbi : Nat.beq i id with
    | true => simp only [hbi, cond_true] at e; exact .inl e.symm
    | false =>
     simp only [hbi, cond_false] at e
     refine .inr ⟨by simp [FJ, hbi], b, hb, ?_⟩
     subst e
     have hok := List.all_eq_true.1 h3 b (List.mem_of_getElem? hb)
     cases b with
     | box l => exact .box (Df hL hid (fun p hp => by simp only [List.mem_append]; exact .inr (BQ hb p hp)) hok)
     | _ => exact .same _ rfl
   ·have : (DU id (E.els xs) 0 st)[i]? ≠ none := by
     rw [xQ]
     simp [hi]
    simp only [ne_eq, List.getElem?_eq_none_iff] at this
    omega
   ·have h4 := Nat.le_of_ble_eq_true h1
    simp only [om, Bool.and_eq_true] at hi
    have h5 := Nat.le_of_ble_eq_true hi.1
    have : i ≠ id := by omega
    simp only [FJ, vT this, Bool.not_false]
 ·cases he
theorem Io {id : Nat} {els : List (List PV)} {ts : List Nat} : (yc id els ts s).ks = s.ks := by
 obtain ⟨ks, fr, st, kn⟩ := s
 simp only [yc, wy, qE]
def IH {γ : Type} (y : γ) (l : List γ) : List γ := l.map fun _ => y
theorem IW {γ : Type} {y : γ} {l : List γ} (h : l = IH y l) : ∀ p ∈ l, p = y := by
 intro p hp
 rw [h] at hp
 simp only [IH, List.mem_map] at hp
 obtain ⟨_, _, e⟩ := hp
 exact e.symm
def El (n0 id : Nat) (ts : List Nat) (s : SS) : List (Nat × Nat × Nat) := match DY n0 id ts s with
 | some (_, _, L) => L
 | none => []
theorem DW (E : so α) (xs : List α) (id : Nat) (ts : List Nat) (k : GG P n n0 loose an r Q T (yc id (E.els xs) ts (run P n an s))) (he : DY n0 id ts (run P n an s) = some (E.sz, E.els xs, IH (E.sz, 0, xs.length) (El n0 id ts (run P n an s))) := by kernel_rfl)
  (ht : uk (run P n an s).ks = true := by kernel_rfl) : GG P n n0 loose an r Q T s := by
 refine ⟨fun h => bY (an := an) ?_⟩
 have hL := he
 have e : El n0 id ts (run P n an s) = IH (E.sz, 0, xs.length) (El n0 id ts (run P n an s)) := by
  conv => lhs; unfold El; rw [he]
 have hs := GN (n := n) (loose := loose) he (by rw [← e]; exact IW e)
 have k := k h
 refine QK.sub ht hs ?_
 have : XK P n n0 loose Q (yc id (E.els xs) ts (run P n an s)) := k
 unfold XK at this
 rw [Io] at this
 exact this
def Ny : List CV → List PV
 | .pv p :: l => p :: Ny l
 | _ => []
def NY (id : Nat) (ps : List PV) : CV → CV
 | .pt i sz k off => bif Nat.beq i id then .pv (.rp [ps] k off) else .pt i sz k off
 | .fn f [.pt i sz k off] => bif Nat.beq i id then .fn f [.pv (.rp [ps] k off)] else .fn f [.pt i sz k off]
 | c => c
def N0 (id : Nat) (ps : List PV) : AV → AV
 | .one c => .one (NY id ps c)
 | a => a
def N1 (id : Nat) (s : SS) : List PV := match s.st[id]? with
 | some (.box cells) => Ny cells
 | _ => []
inductive Cv where
 | li (t sz : Nat)
 | sf (t : Nat)
 | lb (bx j sz : Nat)
 | sb (bx j : Nat)
 | stl (bx j : Nat)
 | sw (a b : Nat)
 | dd (k : Nat)
def IK (n0 : Nat) (loose : List Nat) (c : Cv) (fr : Fr) (st : St) : Option (Fr × St) := match c with
 | .li t sz => (match lk fr t with
  | .one (.pv (.s (.slice none 0 0))) => some ((t, .one (.sl st.length sz 0 0)) :: fr, st ++ [.arr sz []])
  | _ => none)
 | .sf t => some ((t, Ln (lk fr t)) :: fr, st)
 | .lb bx j sz => (match st[bx]? with
  | some (.box cells) => (match cells[j]? with
   | some (.pv (.s (.slice none 0 0))) => some (fr, (st ++ [br.arr sz []]).set bx (.box (cells.set j (.sl st.length sz 0 0))))
   | _ => none)
  | _ => none)
 | .sb bx j => (match st[bx]? with
  | some (.box cells) => (match cells[j]? with
   | some (.pv (.s (.slice none 0 0))) => some (fr, st.set bx (.box (cells.set j (.pv (.ro [])))))
   | _ => none)
  | _ => none)
 | .stl bx j => (match st[bx]? with
  | some (.box cells) => (match cells[j]? with
   | some (.sl id sz off len) => some (fr, (st ++ [br.dead]).set bx (.box (cells.set j (.sl st.length sz off len))))
   | _ => none)
  | _ => none)
 | .dd k => some (fr, st ++ List.replicate k .dead)
 | .sw a b => bif (Nat.ble (a + 1) st.length && Nat.ble (b + 1) st.length) && !(om n0 loose a || om n0 loose b) then some (D6 a b fr, sV a b st) else none
theorem H3 {c : Cv} {fr' : Fr} {st' : St} (h : IK n0 loose c fr st = some (fr', st')) : mF n n0 loose fr st fr' st' := by
 unfold IK at h
 cases c with
 | li t sz =>
  simp only at h
  split at h
  ·rename_i hl
   simp only [Option.some.injEq, Prod.mk.injEq] at h
   obtain ⟨rfl, rfl⟩ := h
   exact mF.list hl
  ·cases h
 | sf t =>
  simp only [Option.some.injEq, Prod.mk.injEq] at h
  obtain ⟨rfl, rfl⟩ := h
  intro ι w a hR hF
  refine ⟨ι, hR, ⟨hF.defers, hF.size, fun t' => ?_⟩, .refl⟩
  simp only [lk]
  cases hb : Nat.beq t t' with
  | true =>
   have := Nat.eq_of_beq_eq_true hb
   subst this
   exact (hF.slot t).le (G3 _)
  | false => exact hF.slot t'
 | lb bx j sz =>
  simp only at h
  split at h
  ·rename_i cells hb
   split at h
   ·rename_i hj
    simp only [Option.some.injEq, Prod.mk.injEq] at h
    obtain ⟨rfl, rfl⟩ := h
    exact mF.listb bx j sz cells hb hj _ rfl
   ·cases h
  ·cases h
 | sb bx j =>
  simp only at h
  split at h
  ·rename_i cells hb
   split at h
   ·rename_i hj
    simp only [Option.some.injEq, Prod.mk.injEq] at h
    obtain ⟨rfl, rfl⟩ := h
    exact mF.softb bx j cells hb hj _ rfl
   ·cases h
  ·cases h
 | stl bx j =>
  simp only at h
  split at h
  ·rename_i cells hb
   split at h
   ·rename_i id sz off len hj
    simp only [Option.some.injEq, Prod.mk.injEq] at h
    obtain ⟨rfl, rfl⟩ := h
    exact mF.stale bx j id sz off len cells hb hj _ rfl
   ·cases h
  ·cases h
 | dd k =>
  simp only [Option.some.injEq, Prod.mk.injEq] at h
  obtain ⟨rfl, rfl⟩ := h
  exact mF.dead k
 | sw a b =>
  simp only at h
  cases hb : (Nat.ble (a + 1) st.length && Nat.ble (b + 1) st.length) && !(om n0 loose a || om n0 loose b) with
  | false => rw [hb] at h; cases h
  | true =>
   rw [hb] at h
   simp only [cond_true, Option.some.injEq, Prod.mk.injEq] at h
   obtain ⟨rfl, rfl⟩ := h
   simp only [Bool.and_eq_true, Bool.not_eq_true'] at hb
   exact mF.swap a b _ _ (by simp only [Bool.and_eq_true]; exact hb.1) hb.2 rfl rfl
def Lv (n0 : Nat) (loose : List Nat) (c : Cv) (s : SS) : SS := match s with
 | ⟨ks, fr, st, kn⟩ => match IK n0 loose c fr st with
  | some (fr', st') => fF fr' fun fr' => fS st' fun st' => ⟨ks, fr', st', kn⟩
  | none => ⟨ks, fr, st, kn⟩
theorem GE (c : Cv) (s : SS) : (Lv n0 loose c s).ks = s.ks ∧ mF n n0 loose s.fr s.st (Lv n0 loose c s).fr (Lv n0 loose c s).st := by
 obtain ⟨ks, fr, st, kn⟩ := s
 unfold Lv
 simp only
 cases hd : IK n0 loose c fr st with
 | none => exact ⟨rfl, fun ι w a hR hF => ⟨ι, hR, hF, .refl⟩⟩
 | some p =>
  obtain ⟨fr', st'⟩ := p
  simp only [wy, qE]
  exact ⟨trivial, H3 hd⟩
theorem F8 (c : Cv) (k : GG P n n0 loose an r Q T (Lv n0 loose c (run P n an s))) (ht : uk (run P n an s).ks = true := by kernel_rfl) : GG P n n0 loose an r Q T s := by
 refine ⟨fun h => bY (an := an) ?_⟩
 have k := k h
 obtain ⟨e, hs⟩ := GE (n := n) (n0 := n0) (loose := loose) c (run P n an s)
 unfold XK at k
 rw [e] at k
 exact QK.sub ht hs k
theorem Ds {K : KP n n0 loose} (c : Cv) (k : GG P n n0 loose an r (jm K.p Q1) T (Lv n0 loose c (run P n an s))) (ht : (run P n an s).ks.isEmpty = true := by kernel_rfl) : GG P n n0 loose an r (jm K.p Q1) T s := by
 refine ⟨fun h => bY (an := an) ?_⟩
 have k := k h
 obtain ⟨e, hs⟩ := GE (n := n) (n0 := n0) (loose := loose) c (run P n an s)
 have hk : (run P n an s).ks = [] := List.isEmpty_iff.1 ht
 unfold XK at k ⊢
 rw [e] at k
 rw [hk] at k ⊢
 exact K.cl hs k
end
end Go.SX
namespace Go.SX
open Go
section
variable {P : Program} {n n0 : Nat} {loose an : List Nat} {Q Q1 : QT} {α β : Type} {T x y : Option β} {r : β} {s : SS} {fr : Fr} {st : St} {ops : Array Oper} {l : List Oper}
def Iz (X : List Nat) (ops : Array Oper) (o : Oper) (fr : Fr) (st : St) (mv : Option Nat) : List Nat × List Nat := match mv with
 | none => (pm X (bu ops o fr), bu ops o fr ++ [])
 | some id => (match st[id]? with
  | some .dead => (pm X (id :: bu ops o fr), (id :: bu ops o fr) ++ [id + 1000])
  | _ => (pm X (bu ops o fr), bu ops o fr ++ [id + 1000]))
def Dr (st : St) (mv : Option Nat) : Bool := match mv with
 | none => true
 | some id => (match st[id]? with
  | some .dead => false
  | _ => true)
def dN (o : Oper) : Nat := match o.dst with
 | some d => d + 1
 | none => 0
def KD (P : Program) (an X : List Nat) (ops : Array Oper) (o : Oper) (fr : Fr) (st : St) (hs : HS) : Option sP :=
 match ev P (qd an o) o (co ops o fr) (ic (aN (bu ops o fr)) 0 st) hs with
 | some out => bif Nat.beq out.st.length st.length then
   bif (!qd an o && JP (dN o) ops X o fr st (bu ops o fr) out) && (Ga st (bu ops o fr) && Dr st out.mv) then some ⟨out.av, fm (aN (bu ops o fr)) 0 st out.st, out.ob, out.hs, out.mv⟩ else none
  else (match FZ X st, out.st.drop st.length with
   | some id, [b] => bif Jc (dN o) ops X id o fr st (bu ops o fr) out b && Ga st (id :: bu ops o fr) then some ⟨tJ (yt st.length id) out.av, (fm (aN (bu ops o fr)) 0 st (out.st.take st.length)).set id b, out.ob, out.hs, some id⟩ else none
   | _, _ => none)
 | none => none
theorem Gd {o : Oper} (h : ∀ d, o.dst = some d → d < n) : oi n o = true := by
 unfold oi
 cases hd : o.dst with
 | none => rfl
 | some d => exact Nat.ble_eq_true_of_le (h d hd)
theorem L8 {X T : List Nat} {o : Oper} {out : sP} (h : JP (dN o) ops X o fr st T out = true) (hd : oi n o = true) : JP n ops X o fr st T out = true := by
 unfold JP at h ⊢
 simp only [Bool.and_eq_true] at h ⊢
 exact ⟨⟨⟨hd, h.1.1.2⟩, h.1.2⟩, h.2⟩
theorem LQ {X T : List Nat} {id : Nat} {o : Oper} {out : sP} {b : br} (h : Jc (dN o) ops X id o fr st T out b = true) (hd : oi n o = true) : Jc n ops X id o fr st T out b = true := by
 unfold Jc at h ⊢
 simp only [Bool.and_eq_true] at h ⊢
 exact ⟨⟨⟨⟨⟨hd, h.1.1.1.1.2⟩, h.1.1.1.2⟩, h.1.1.2⟩, h.1.2⟩, h.2⟩
theorem EE (m : Nat) : (fun id => !aN [m] id) = iz (some m) := by funext id; simp [aN, iz]
def Kd (P : Program) (an : List Nat) (hs : HS) (s : SS) : Option sP := match s.ks with
 | .g X ops (o :: _) _ :: _ => (match IB ops s.kn o (co ops o s.fr) with
  | some true => KD P an X ops o s.fr s.st hs
  | _ => none)
 | .o ops (o :: _) :: _ => (match IB ops s.kn o s.fr with
  | some true => ev P (qd an o) o s.fr s.st hs
  | _ => none)
 | _ => none
def Be {β : Type} (q : Nat → Bool) : Fr → (Fr → β) → β
 | [], K => K []
 | (d, av) :: fr, K => match cN q av with
  | true => Be q fr fun fr => K ((d, av) :: fr)
  | false => Be q fr fun fr => K ((d, .j) :: fr)
theorem BA {β : Type} (q : Nat → Bool) : ∀ (fr : Fr) (K : Fr → β), Be q fr K = K (lL q fr)
 | [], K => rfl
 | (d, av) :: fr, K => by
  simp only [Be, lL]
  cases cN q av <;> simp only [BA q fr, cond_true, cond_false]
def M9 {β : Type} (mv : Option Nat) (fr : Fr) (K : Fr → β) : β := match mv with
 | none => K fr
 | some m => Be (iz (some m)) fr K
theorem Ik {β : Type} (mv : Option Nat) (fr : Fr) (K : Fr → β) : M9 mv fr K = K (IC mv fr) := by
 cases mv with
 | none => rfl
 | some m => exact BA _ _ _
def J1 (n : Nat) (av : AV) (st' : St) (mv : Option Nat) (s : SS) : SS := match s with
 | ⟨.o ops (o :: l) :: k, fr, _, kn⟩ => fA av fun av => fS st' fun st' => M9 mv fr fun fr => rC n o.dst av fr (fun fr' => vm false o.dst kn fun kn' => ⟨.o ops l :: k, fr', st', kn'⟩) s
 | ⟨.g X ops (o :: l) tw :: k, fr, st, kn⟩ => fA av fun av => fS st' fun st' => M9 mv fr fun fr' => rC n o.dst av fr' (fun fr2 => vm false o.dst kn fun kn' => ⟨.g X ops l (tw ++ [Iz X ops o fr st mv]) :: k, fr2, st', kn'⟩) s
 | s => s
theorem GK.ev {X : List Nat} {tw : List (List Nat × List Nat)} {R : Fr → St → Prop} {o : Oper} {hs : HS} {out : sP} {fr2 : Fr} (hg : cF ops o (co ops o fr) = some true) (he : KD P an X ops o fr st hs = some out) (hob : el out.ob) (hp : ox n o.dst out.av (IC out.mv fr) = some fr2)
  (k : GK P n X ops l (tw ++ [Iz X ops o fr st out.mv]) R fr2 out.st) : GK P n X ops (o :: l) tw R fr st := by
 obtain ⟨p1, p2⟩ := po hp
 have hd := Gd (n := n) p1
 unfold KD at he
 split at he
 ·rename_i out0 hev
  cases hb : Nat.beq out0.st.length st.length with
  | true =>
   simp only [hb, cond_true] at he
   cases hc : (!qd an o && JP (dN o) ops X o fr st (bu ops o fr) out0) && (Ga st (bu ops o fr) && Dr st out0.mv) with
   | false => rw [hc] at he; cases he
   | true =>
    rw [hc] at he
    simp only [cond_true, Option.some.injEq] at he
    subst he
    simp only [Bool.and_eq_true, Bool.not_eq_true'] at hc
    obtain ⟨⟨c1, c2⟩, c3, c4⟩ := hc
    rw [c1] at hev
    have hw := L8 c2 hd
    have hE : LG P n ops X (o :: l) fr st hs = some (nq o ⟨out0.av, bu ops o fr, bu ops o fr, out0.mv.toList, fm (aN (bu ops o fr)) 0 st out0.st⟩ fr, bu ops o fr, out0.mv.toList, fm (aN (bu ops o fr)) 0 st out0.st, out0.ob) := by
     unfold LG
     simp only [CB, hg, hev, hw, cond_true]
    have hn : nq o ⟨out0.av, bu ops o fr, bu ops o fr, out0.mv.toList, fm (aN (bu ops o fr)) 0 st out0.st⟩ fr = fr2 := by
     unfold nq
     cases hm : out0.mv with
     | none => rw [hm] at p2; simp only [Option.toList, IC] at p2 ⊢; rw [vN]; exact p2
     | some m => rw [hm] at p2; simp only [Option.toList, IC] at p2 ⊢; rw [EE]; exact p2
    rw [hn] at hE
    have ht : Iz X ops o fr st out0.mv = (pm X (bu ops o fr), bu ops o fr ++ out0.mv.toList.map (· + 1000)) := by
     unfold Iz
     unfold Dr at c4
     cases hm : out0.mv with
     | none => rfl
     | some m =>
      rw [hm] at c4
      simp only at c4 ⊢
      split
      ·rename_i hd'; rw [hd'] at c4; cases c4
      ·rfl
    refine GK.of (tw1 := Iz X ops o fr st out0.mv) (fun h2 => ?_) k
    rw [ht]
    exact GX.wr hs fr2 _ _ _ _ hE hob c3 h2
  | false =>
   simp only [hb, cond_false] at he
   split at he
   ·rename_i id b hf hd2
    cases hc : Jc (dN o) ops X id o fr st (bu ops o fr) out0 b && Ga st (id :: bu ops o fr) with
    | false => rw [hc] at he; cases he
    | true =>
     rw [hc] at he
     simp only [cond_true, Option.some.injEq] at he
     subst he
     rw [Bool.and_eq_true] at hc
     have hw := LQ hc.1 hd
     have hdd : st[id]? = some .dead := by
      have h := hc.1
      unfold Jc at h
      simp only [Bool.and_eq_true] at h
      exact xZ h.1.2.1.1.1.1
     have hE : LJ P n ops X (qd an o) id (o :: l) fr st hs = some (nq o ⟨tJ (yt st.length id) out0.av, id :: bu ops o fr, id :: bu ops o fr, [id], (fm (aN (bu ops o fr)) 0 st (out0.st.take st.length)).set id b⟩ fr, id :: bu ops o fr, (fm (aN (bu ops o fr)) 0 st (out0.st.take st.length)).set id b, out0.ob) := by
      unfold LJ
      simp only [CB, hg, hev, hd2, hw, cond_true]
     have hn : nq o ⟨tJ (yt st.length id) out0.av, id :: bu ops o fr, id :: bu ops o fr, [id], (fm (aN (bu ops o fr)) 0 st (out0.st.take st.length)).set id b⟩ fr = fr2 := by
      unfold nq
      simp only [IC] at p2
      rw [← p2]
      simp only
      rw [EE]
     rw [hn] at hE
     have ht : Iz X ops o fr st (some id) = (pm X (id :: bu ops o fr), (id :: bu ops o fr) ++ [id + 1000]) := by
      unfold Iz
      simp only [hdd]
     refine GK.of (tw1 := Iz X ops o fr st (some id)) (fun h2 => ?_) k
     rw [ht]
     exact GX.new _ id hs fr2 _ _ _ hE hob hc.2 h2
   ·cases he
 ·cases he
theorem HM {out : sP} {hs : HS} (he : Kd P an hs s = some out) (hob : el out.ob) (hm : xi n0 loose out.mv = true) (k : XK P n n0 loose Q (J1 n out.av out.st out.mv s)) : XK P n n0 loose Q s := by
 obtain ⟨ks, fr, st, kn⟩ := s
 unfold Kd at he
 split at he
 ·rename_i X ops o l tw k' hk
  simp only at hk
  subst hk
  split at he
  ·rename_i hg
   have hg := nc hg
   simp only [J1, rg, qE, Ik] at k
   rcases jR (n := n) o.dst out.av (IC out.mv fr) (fun fr' => vm false o.dst kn fun kn' => (⟨.g X ops l (tw ++ [Iz X ops o fr st out.mv]) :: k', fr', out.st, kn'⟩ : SS)) ⟨.g X ops (o :: l) tw :: k', fr, st, kn⟩ with ⟨fr', hp, e⟩ | e
   ·obtain ⟨kn', ek⟩ := j5 false o.dst kn fun kn' => (⟨.g X ops l (tw ++ [Iz X ops o fr st out.mv]) :: k', fr', out.st, kn'⟩ : SS)
    rw [e, ek] at k
    exact GK.ev hg he hob hp k
   ·rw [e] at k; exact k
  ·cases he
 ·rename_i ops o l k' hk
  simp only at hk
  subst hk
  split at he
  ·rename_i hg
   have hg := nc hg
   simp only [J1, rg, qE, Ik] at k
   rcases jR (n := n) o.dst out.av (IC out.mv fr) (fun fr' => vm false o.dst kn fun kn' => (⟨.o ops l :: k', fr', out.st, kn'⟩ : SS)) ⟨.o ops (o :: l) :: k', fr, st, kn⟩ with ⟨fr', hp, e⟩ | e
   ·obtain ⟨kn', ek⟩ := j5 false o.dst kn fun kn' => (⟨.o ops l :: k', fr', out.st, kn'⟩ : SS)
    rw [e, ek] at k
    have he : ev P (qd an o) o fr st hs = some out := he
    have hg : cF ops o fr = some true := hg
    have h0 : lF P n n0 loose an ops [o] fr st hs = some ⟨.normal, fr', out.st, out.hs, out.ob ++ []⟩ := by simp only [lF, hg, he, hm, cond_true, hp]
    exact XO.run (l := [o]) (rest := l) h0 (by rw [List.append_nil]; exact hob) k
   ·rw [e] at k; exact k
  ·cases he
 ·cases he
theorem Mw {hs hs' : HS} {av av' : AV} {st1 st' : St} {ob : List Prop} {mv : Option Nat} (he : Kd P an hs (run P n an s) = some ⟨av, st1, ob, hs', mv⟩) (hob : el ob) (hm : xi n0 loose mv = true) (e1 : av = av') (e2 : st1 = st')
  (k : GG P n n0 loose an r Q T (J1 n av' st' mv (run P n an s))) : GG P n n0 loose an r Q T s := by
 subst e1; subst e2
 exact ⟨fun h => bY (an := an) (HM he hob hm (k h))⟩
def MP (s : SS) : Nat := match s.ks with
 | .g X _ _ _ :: _ => (FZ X s.st).getD 0
 | _ => s.st.length
def Mt (s : SS) (b : br) : St := match s.ks with
 | .g X _ _ _ :: _ => s.st.set ((FZ X s.st).getD 0) b
 | _ => s.st ++ [b]
def Lr (s : SS) : Option Nat := match s.ks with
 | .g X _ _ _ :: _ => some ((FZ X s.st).getD 0)
 | _ => none
theorem CY (E : so α) (id : Nat) (xs : List α) {ys : List α} {N L : Nat} (k : GG P n n0 loose an r Q x (J1 n (.one (.sl id E.sz 0 (ys ++ xs).length)) ((run P n an s).st.set id (.arr E.sz (E.els (ys ++ xs)))) (some id) (run P n an s))) (hL : L = ys.length := by rfl) (hN : N = xs.length := by rfl)
  (he : Kd P an [] (run P n an s) = some ⟨.one (.sl id E.sz 0 (L + (E.els xs).length)), (run P n an s).st.set id (.arr E.sz (E.els ys ++ E.els xs)), [fi E.sz (E.els xs), L = (E.els ys).length, L + (E.els xs).length ≤ 4294967296], [], some id⟩ := by kernel_rfl)
  (hm : xi n0 loose (some id) = true := by kernel_rfl) : GG P n n0 loose an r Q (bI (ys.length + N ≤ 4294967296) x) s := by
 subst hL; subst hN
 refine ⟨fun h => ?_⟩
 obtain ⟨hp, h⟩ := gx h
 exact Mw he ⟨E.ok _, (E.len _).symm, by rw [E.len]; exact hp, trivial⟩ hm (by rw [E.len, List.length_append]) (by rw [E.app2]) k h
theorem NZ (E : so α) (xs : List α) (k : GG P n n0 loose an r Q T (J1 n (.one (.sl (MP (run P n an s)) E.sz 0 xs.length)) (Mt (run P n an s) (.arr E.sz (E.els xs))) (Lr (run P n an s)) (run P n an s))) (hN : xs.length ≤ 4294967296 := by first | decide | exact Nat.le_of_ble_eq_true rfl)
  (he : Kd P an [] (run P n an s) = some ⟨.one (.sl (MP (run P n an s)) E.sz 0 (E.els xs).length), Mt (run P n an s) (.arr E.sz (E.els xs)), [fi E.sz (E.els xs), (E.els xs).length ≤ 4294967296], [], Lr (run P n an s)⟩ := by kernel_rfl) (hm : xi n0 loose (Lr (run P n an s)) = true := by kernel_rfl) : GG P n n0 loose an r Q T s :=
 Mw he ⟨E.ok _, by rw [E.len]; exact hN, trivial⟩ hm (by rw [E.len]) rfl k
theorem Kl (E : so α) (id : Nat) {ys : List α} {i : Int} {L : Nat} {f : α → Option β} (k : ∀ e, at? ys i = some e → GG P n n0 loose an r Q (f e) (vI n (.one (.pt id E.sz (0 + i.toNat) 0)) (run P n an s))) (hL : L = ys.length := by rfl)
  (he : Eh P (run P n an s) = some (.one (.pt id E.sz (0 + i.toNat) 0), [0 ≤ i ∧ i < ((L : Nat) : Int)]) := by kernel_rfl) : GG P n n0 loose an r Q (az (at? ys i) f) s := by
 subst hL
 refine ⟨fun h => ?_⟩
 obtain ⟨e, ha, h⟩ := re h
 exact uV _ _ (ob := [_]) ⟨so.inb' ha, trivial⟩ rfl (k e ha) he h
theorem NW (E : so α) (id : Nat) {ys : List α} {i : Int} {e : α} {L : Nat} (ha : at? ys i = some e) (k : GG P n n0 loose an r Q T (vI n (.one (.pt id E.sz (0 + i.toNat) 0)) (run P n an s))) (hL : L = ys.length := by rfl)
  (he : Eh P (run P n an s) = some (.one (.pt id E.sz (0 + i.toNat) 0), [0 ≤ i ∧ i < ((L : Nat) : Int)]) := by kernel_rfl) : GG P n n0 loose an r Q T s := by
 subst hL
 exact uV _ _ (ob := [_]) ⟨so.inb' ha, trivial⟩ rfl k he
def Ib (P : Program) (hs : HS) (s : SS) : Option (AV × List Prop) :=
 match qX s with
 | some (o, f) => bif gK o.op then (match ev P false o f (xn s) hs with
  | some out => some (out.av, out.ob)
  | none => none) else none
 | none => none
theorem Jf {hs : HS} {av : AV} {ob : List Prop} (he : Ib P hs s = some (av, ob)) (hob : el ob) : ∃ o f, qX s = some (o, f) ∧ Yd P n (xn s) o f av := by
 unfold Ib at he
 split at he
 ·rename_i o f hd
  cases hq : gK o.op with
  | false => simp [hq] at he
  | true =>
   simp only [hq, cond_true] at he
   split at he
   ·rename_i out hev
    simp only [Option.some.injEq, Prod.mk.injEq] at he
    obtain ⟨rfl, rfl⟩ := he
    exact ⟨o, f, hd, Yd.ev hq hev hob⟩
   ·cases he
 ·cases he
def Mb (o : Option (AV × List Prop)) : AV := match o with
 | some (av, _) => av
 | none => .j
theorem Kn (E : so α) {ys : List α} {i : Int} {e : α} (ha : at? ys i = some e) (k : GG P n n0 loose an r Q T (vI n (Mb (Ib P [E.cells e] (run P n an s))) (run P n an s)))
  (he : Ib P [E.cells e] (run P n an s) = some (Mb (Ib P [E.cells e] (run P n an s)), [(E.els ys)[0 + i.toNat]? = some (E.cells e)]) := by kernel_rfl) : GG P n n0 loose an r Q T s := by
 refine ⟨fun h => ?_⟩
 obtain ⟨o, g, h1, h2⟩ := Jf (n := n) he ⟨E.get0 ha, trivial⟩
 exact bY (an := an) (lG h1 h2 (k h))
theorem NQ (E : so α) (id : Nat) {ys : List α} {i : Int} {e : α} (ha : at? ys i = some e) (v : α) (k : GG P n n0 loose an r Q T (J1 n .j ((run P n an s).st.set id (.arr E.sz (E.els (ys.set i.toNat v)))) none (run P n an s)))
  (he : Kd P an [E.cells e] (run P n an s) = some ⟨.j, (run P n an s).st.set id (.arr E.sz ((E.els ys).set (0 + i.toNat) (E.cells v))), [(E.els ys)[0 + i.toNat]? = some (E.cells e)], [], none⟩ := by kernel_rfl) : GG P n n0 loose an r Q T s :=
 Mw he ⟨E.get0 ha, trivial⟩ rfl rfl (by rw [E.set0]) k
theorem Ns (E : so α) (v : α) {N M : Int} (k : GG P n n0 loose an r Q x (J1 n (.one (.sl (MP (run P n an s)) E.sz 0 N.toNat)) (Mt (run P n an s) (.arr E.sz (E.els (List.replicate N.toNat v)))) (Lr (run P n an s)) (run P n an s)))
  (he : Kd P an [] (run P n an s) = some ⟨.one (.sl (MP (run P n an s)) E.sz 0 N.toNat), Mt (run P n an s) (.arr E.sz (List.replicate N.toNat (E.cells v))), [0 ≤ N, N ≤ M, M ≤ 4294967296], [], Lr (run P n an s)⟩ := by kernel_rfl) (hm : xi n0 loose (Lr (run P n an s)) = true := by kernel_rfl) : GG P n n0 loose an r Q (bI (0 ≤ N ∧ N ≤ M ∧ M ≤ 4294967296) x) s := by
 refine ⟨fun h => ?_⟩
 obtain ⟨⟨h1, h2, h3⟩, h⟩ := gx h
 exact Mw he ⟨h1, h2, h3, trivial⟩ hm rfl (by rw [E.rep]) k h
theorem uW (d : Nat) (E : so α) (xs : List α) (k : GG P n n0 loose an r Q T (vI n (vl E xs) (yL P n an d s))) (he : Eh P (yL P n an d s) = some (.one (.pv (.ro (xs.map E.cells))), []) := by kernel_rfl) : GG P n n0 loose an r Q T s := by
 refine ⟨fun h => ?_⟩
 rw [← E.hels] at he
 obtain ⟨o, g, h1, h2⟩ := Da (n := n) he trivial
 exact qp (lG h1 h2 (k h))
def NC (id : Nat) (m : Nat) : CV → CV
 | .sl i sz off len => bif Nat.beq i id then .sl i sz off m else .sl i sz off len
 | c => c
def NS (id m : Nat) : AV → AV
 | .one c => .one (NC id m c)
 | a => a
def NG (id m : Nat) : br → br
 | .box cs => .box (cs.map (NC id m))
 | b => b
def Nu (id m : Nat) (fr : Fr) : Fr := fr.map fun x => (x.1, NS id m x.2)
def Nq (id m : Nat) (s : SS) : SS := match s with
 | ⟨ks, fr, st, kn⟩ => fF (Nu id m fr) fun fr => fS (st.map (NG id m)) fun st => ⟨ks, fr, st, kn⟩
theorem NL (id : Nat) {L m : Nat} (h : L = m) (k : GG P n n0 loose an r Q T (Nq id m (run P n an s))) (he : (run P n an s).fr = Nu id L (run P n an s).fr := by kernel_rfl) (he' : (run P n an s).st = (run P n an s).st.map (NG id L) := by kernel_rfl) : GG P n n0 loose an r Q T s := by
 subst h
 refine ⟨fun h => bY (an := an) ?_⟩
 have k := k.go h
 generalize run P n an s = s' at *
 obtain ⟨ks, fr, st, kn⟩ := s'
 simp only [Nq, wy, qE] at k he he'
 rw [← he, ← he'] at k
 exact k
theorem Yd.ext {st : St} {o : Oper} {f : Fr} {g : Nat} {vs us : List Value} (hc : yj P o f = some (g, vs)) (h : AT P g vs (.tuple us.toArray)) (hp : us.all plain = true) : Yd P n st o f (D4 us) := by
 intro ι w a hR hF K Q hK
 have hrun := sr hc h hF (w := w)
 simp only [Oper.wp, hrun, Oper.upon]
 exact hK _ w ι (sB hp) hR .refl
def ML (P : Program) (s : SS) : Option (Nat × List Value) := match qX s with
 | some (o, f) => yj P o f
 | none => none
theorem Mp {p : Prop} [Decidable p] {g : Nat} {vs us : List Value} (h : p → AT P g vs (.tuple us.toArray)) (hp : us.all plain = true) (k : GG P n n0 loose an r Q x (vI n (D4 us) (run P n an s))) (he : ML P (run P n an s) = some (g, vs)) : GG P n n0 loose an r Q (bI p x) s := by
 refine ⟨fun h' => ?_⟩
 obtain ⟨hp', h'⟩ := gx h'
 unfold ML at he
 split at he
 ·rename_i o f hd
  exact bY (an := an) (lG hd (Yd.ext he (h hp') hp) (k h'))
 ·cases he
theorem Bq {a b c : Int} (g : Nat) (fn : Func) (k : GG P n n0 loose an r Q x (vI n (.tp [.one (.pv (.s (.int .u64 ((a + b + c) % 18446744073709551616)))), .one (.pv (.s (.int .u64 ((a + b + c) / 18446744073709551616))))]) (run P n an s)))
  (he : ML P (run P n an s) = some (g, [.int .u64 a, .int .u64 b, .int .u64 c]) := by kernel_rfl) (hf : P.funcs[g]? = some fn := by kernel_rfl)
  (hx : ((!(fn.name == "runtime.NumGoroutine") && fn.body.isNone) && (Extern.findNext fn).isNone) = true := by kernel_rfl) (hx' : Extern.find fn = some add64Entry := by kernel_rfl) : GG P n n0 loose an r Q (bI (0 ≤ a ∧ 0 ≤ b ∧ 0 ≤ c ∧ c ≤ 1) x) s := by
 simp only [Bool.and_eq_true, Bool.not_eq_true', Option.isNone_iff_eq_none] at hx
 exact Mp (fun h => F7 hf hx.1.1 (by rw [hx.1.2]; rfl) hx.2 hx' h.1 h.2.1 h.2.2.1 h.2.2.2) rfl k he
theorem IL {a b c : Int} (g : Nat) (fn : Func) (k : GG P n n0 loose an r Q x (vI n (.tp [.one (.pv (.s (.int .u64 ((a - b - c) % 18446744073709551616)))), .one (.pv (.s (.int .u64 (if a < b + c then (1 : Int) else (0 : Int)))))]) (run P n an s)))
  (he : ML P (run P n an s) = some (g, [.int .u64 a, .int .u64 b, .int .u64 c]) := by kernel_rfl) (hf : P.funcs[g]? = some fn := by kernel_rfl)
  (hx : ((!(fn.name == "runtime.NumGoroutine") && fn.body.isNone) && (Extern.findNext fn).isNone) = true := by kernel_rfl) (hx' : Extern.find fn = some Dc := by kernel_rfl) : GG P n n0 loose an r Q (bI (0 ≤ a ∧ 0 ≤ b ∧ b < 18446744073709551616 ∧ 0 ≤ c ∧ c ≤ 1) x) s := by
 simp only [Bool.and_eq_true, Bool.not_eq_true', Option.isNone_iff_eq_none] at hx
 exact Mp (fun h => Fd hf hx.1.1 (by rw [hx.1.2]; rfl) hx.2 hx' h.1 h.2.1 h.2.2.1 h.2.2.2.1 h.2.2.2.2) rfl k he
end
end Go.SX
namespace Go.SX
open Go
def zd (b : Bool) (e : Value) : Prop := (b = false ∧ e = .nilIface) ∨ (b = true ∧ ∃ t p, e = .iface t (.pointer p))
abbrev C8 (n : Int) (e : Value) : AV := .tp [vi n, .one (.pv (.s e))]
def CE (P : Program) (f : Nat) (args : List AV) (T : Option (Int × Bool)) : Prop :=
 ∀ r, T = some r → AC P f args [] [] fun av s => (∃ e, zd r.2 e ∧ av = C8 r.1 e) ∧ s = []
theorem zd.plain {b : Bool} {e : Value} (h : zd b e) : plain e = true := by
 rcases h with ⟨_, rfl⟩ | ⟨_, t, p, rfl⟩ <;> rfl
theorem AC.use {P : Program} {st : St} {g : Nat} {asv : List AV} {R : AV → Prop} (h : AC P g asv [] [] fun av s => R av ∧ s = []) (hp : np asv = true) (hr : ∀ av, R av → sX av = true) {ι : IM} {w : World} {vs : List Value} (hR : eg ι w st) (hA : pA ι w st vs asv) :
  Calls P g vs.toArray w fun e w' => ∃ v av, e = .returned v ∧ R av ∧ eg ι w' st ∧ aK ι w' st v av ∧ bi all ι w st ι w' st := by
 let ι0 : IM := ⟨fun _ => none, gV ι st⟩
 have hno : ∀ (ι1 : IM) b, ¬ nX ι1 [] b := by
  rintro ι1 b ⟨id, o, h1, _⟩
  simp at h1
 have hR0 : eg ι0 w [] := ⟨fun id o h => by simp at h, fun b hb => hR.mut_lt hb, fun b hb => absurd hb (hno _ b), fun id id' o o' b h => by simp at h, fun b o h => ⟨fun hm => (hR.gl b o h).1 (hm.elim id (fun ho => absurd ho (hno _ b))), (hR.gl b o h).2⟩⟩
 have hA0 : pA ι0 w [] vs asv := ⟨hA.1, fun j v a h1 h2 => (hA.2 j v a h1 h2).conv (fun b hb hm => hb (hm.elim id (fun ho => absurd ho (hno _ b)))) (tk hp j a h2)⟩
 refine (h ι0 w vs hR0 hA0).mono ?_
 rintro e w' ⟨v, av, st', ι', he, ⟨hav, rfl⟩, hR', hv, k⟩
 have hx : lV w w' := ⟨k.os, k.tape, k.output, k.size, fun b hb => (k.blk b hb (hno _ b)).1⟩
 refine ⟨v, av, he, hav, hR.ext hx, ?_, hx.keeps ι st⟩
 exact hv.conv (fun b hb hm => hb (.inl (by rw [k.amb]; exact hm))) (hr av hav)
section
variable {P : Program} {n n0 : Nat} {loose an : List Nat} {β : Type} {r : β} {Q : QT} {s : SS}
def JX (s : SS) : Bool := match s.ks with
 | .o _ (_ :: _) :: _ => true
 | _ => false
theorem Gy {o : Option (Int × Bool)} {v : Int × Bool} {g : Nat} {avs : List AV} (he : LB P s = some (g, avs)) (hs : JX s = true) (h : CE P g avs o) (ho : o = some v) (hp : np avs = true)
  (k : ∀ e, zd v.2 e → XK P n n0 loose Q (vI n (C8 v.1 e) s)) : XK P n n0 loose Q s := by
 obtain ⟨ks, fr, st, kn⟩ := s
 unfold LB at he
 split at he
 case h_2 => cases he
 rename_i o1 f1 hd
 match ks, hs with
 | .o ops (o' :: l) :: ks, hs =>
  simp only [qX] at hd
  split at hd
  case h_2 => cases hd
  rename_i hg
  have hg := nc hg
  simp only [Option.some.injEq, Prod.mk.injEq] at hd
  obtain ⟨rfl, rfl⟩ := hd
  have e0 : ∃ e, zd v.2 e := by
   cases hb : v.2 with
   | false => exact ⟨.nilIface, .inl ⟨rfl, rfl⟩⟩
   | true => exact ⟨.iface 0 (.pointer none), .inr ⟨rfl, 0, none, rfl⟩⟩
  obtain ⟨e0, he0⟩ := e0
  by_cases hput : ∃ d, o'.dst = some d ∧ Nat.ble (d + 1) n = false
  ·obtain ⟨d, hd1, hd2⟩ := hput
   have := k e0 he0
   simp only [vI, rg] at this
   unfold rC at this
   rw [hd1] at this
   simp only [hd2, cond_false] at this
   exact this
  ·have hpf : ∀ av, ∃ fr', ox n o'.dst av fr = some fr' := by
    intro av
    cases hd : o'.dst with
    | none => exact ⟨fr, rfl⟩
    | some d =>
     cases hb : Nat.ble (d + 1) n with
     | true => exact ⟨(d, av) :: fr, by simp [ox, hb]⟩
     | false => exact absurd ⟨d, hd, hb⟩ hput
   show XO P n n0 loose ops (o' :: l) _ fr st
   intro ι w a hR hF
   have hw := dj hg hF
   refine wpList_step fun K hK => ?_
   rw [if_pos hw]
   obtain ⟨vs, hrun, hA⟩ := pG he hF
   simp only [Oper.wp, hrun, Oper.upon]
   refine ((h v ho).use hp (fun av ⟨e, h1, h2⟩ => by rw [h2]; rfl) hR hA).mono ?_
   rintro e w' ⟨x, av, rfl, ⟨er, h1, rfl⟩, hR', hv, kk⟩
   obtain ⟨fr', hp'⟩ := hpf (C8 v.1 er)
   have k1 := k er h1
   simp only [vI, rg] at k1
   rcases jR (n := n) o'.dst (C8 v.1 er) fr (fun fr' => vm false o'.dst kn fun kn' => (⟨.o ops l :: ks, fr', st, kn'⟩ : SS)) ⟨.o ops (o' :: l) :: ks, fr, st, kn⟩ with ⟨fr2, hp2, e2⟩ | e2
   ·obtain ⟨kn', ek⟩ := j5 false o'.dst kn fun kn' => (⟨.o ops l :: ks, fr2, st, kn'⟩ : SS)
    rw [e2, ek] at k1
    exact hK _ _ (eX (fun e a w h => h.trans (kk.weaken (fun _ _ => trivial))) (k1 ι w' _ hR' (j8 hp2 (hF.mono' kk) hv)))
   ·exfalso
    unfold rC at e2
    unfold ox at hp'
    cases hd : o'.dst with
    | none => rw [hd] at e2; simp only at e2; obtain ⟨kn', ek⟩ := j5 false (none : Option Nat) kn fun kn' => (⟨.o ops l :: ks, fr, st, kn'⟩ : SS); rw [ek] at e2; simp at e2
    | some d =>
     cases hb : Nat.ble (d + 1) n with
     | false => exact hput ⟨d, hd, hb⟩
     | true => rw [hd] at e2; simp only [hb, cond_true] at e2; obtain ⟨kn', ek⟩ := j5 false (some d) kn fun kn' => (⟨.o ops l :: ks, (d, C8 v.1 er) :: fr, st, kn'⟩ : SS); rw [ek] at e2; simp at e2
theorem NV {o : Option (Int × Bool)} {fa fb : Int × Bool → Option β} {g : Nat} {avs : List AV} (c : CE P g avs o)
  (ka : ∀ v t p, o = some v → GG P n n0 loose an r Q (fa v) (vI n (C8 v.1 (.iface t (.pointer p))) (run P n an s)))
  (kb : ∀ v, o = some v → GG P n n0 loose an r Q (fb v) (vI n (C8 v.1 .nilIface) (run P n an s)))
  (he : LB P (run P n an s) = some (g, avs) := by kernel_rfl) (hs : JX (run P n an s) = true := by kernel_rfl) (hp : np avs = true := by kernel_rfl) :
  GG P n n0 loose an r Q (az o fun v => ax v.2 (fa v) (fb v)) s := by
 refine ⟨fun h => ?_⟩
 obtain ⟨v, ho, h⟩ := re h
 refine bY (an := an) (Gy he hs c ho hp fun e hE => ?_)
 rcases hE with ⟨hb, rfl⟩ | ⟨hb, t, p, rfl⟩
 ·rw [hb] at h; exact kb v ho h
 ·rw [hb] at h; exact ka v t p ho h
end
end Go.SX
namespace Go.SX
open Go
structure dJ where
 year : Int
 month : Int
 day : Int
 hour : Int
 minute : Int
 second : Int
 deriving DecidableEq
structure yp where
 month : Int
 week : Int
 weekday : Int
 minute : Int
 deriving DecidableEq
structure qP where
 name : ByteArray
 offset : Int
 summer : Int
 start : yp
 stop : yp
 deriving DecidableEq
structure aF where
 neg : Bool
 size : Int × Int × Int × Int
 deriving DecidableEq
structure cc where
 leaves : Int
 deriving DecidableEq
structure aO where
 s : ByteArray
 bad : Bool
 deriving DecidableEq
structure dD where
 below : Bool
 d : List Int
 deriving DecidableEq
structure nj (α : Type) where
 id : Int
 name : ByteArray
 need : Bool
 type : α
structure af where
 kind : Int
 scale : Int
 fields : List (nj af)
abbrev aL := nj af
structure ac where
 kind : Int
 n : Int
 scale : Int
 s : ByteArray
 items : List ac
mutual
def af.cells : af → List PV
 | ⟨k, s, fs⟩ => [pi k, pi s, .ro (af.fcells fs)]
def af.fcells : List (nj af) → List (List PV)
 | [] => []
 | f :: l => af.fcell f :: af.fcells l
def af.fcell : nj af → List PV
 | ⟨i, n, q, t⟩ => pi i :: .s (.string n) :: .s (.bool q) :: af.cells t
end
mutual
def ac.cells : ac → List PV
 | ⟨k, n, sc, s, it⟩ => [pi k, pi n, pi sc, .s (.string s), .ro (ac.lcells it)]
def ac.lcells : List ac → List (List PV)
 | [] => []
 | v :: l => ac.cells v :: ac.lcells l
end
theorem af.fcells_eq : ∀ l : List (nj af), af.fcells l = l.map af.fcell
 | [] => rfl
 | f :: l => by rw [af.fcells, af.fcells_eq l]; rfl
theorem ac.lcells_eq : ∀ l : List ac, ac.lcells l = l.map ac.cells
 | [] => rfl
 | f :: l => by rw [ac.lcells, ac.lcells_eq l]; rfl
abbrev Gg (f : aL) : List PV := [pi f.id, .s (.string f.name), .s (.bool f.need), pi f.type.kind, pi f.type.scale, .ro (af.fcells f.type.fields)]
abbrev Hr (v : ac) : List PV := [pi v.kind, pi v.n, pi v.scale, .s (.string v.s), .ro (ac.lcells v.items)]
theorem FL : af.fcell = Gg := funext fun ⟨_, _, _, ⟨_, _, _⟩⟩ => rfl
theorem Fe : ac.cells = Hr := funext fun ⟨_, _, _, _, _⟩ => rfl
def ay : so aL := ⟨6, Gg, af.fcells, fun l => by rw [af.fcells_eq, FL], fun _ => rfl⟩
def aj : so ac := ⟨5, Hr, ac.lcells, fun l => by rw [ac.lcells_eq, Fe], fun _ => rfl⟩
end Go.SX
namespace Go.SX
open Go Go.Shelf Go.Lib Go.Proofs Go.RowKit
theorem pV {ι : IM} {w : World} {st : St} : ∀ {us vs : List Value}, vs.length = us.length → (∀ (j : Nat) v a, vs[j]? = some v → (us.map fun u => AV.one (.pv (.s u)))[j]? = some a → aK ι w st v a) → vs = us
 | [], [], _, _ => rfl
 | [], _ :: _, h, _ => by simp at h
 | _ :: _, [], h, _ => by simp at h
 | u :: us, v :: vs, h, hA => by
  have h0 := bj (hA 0 v _ rfl rfl)
  subst h0
  rw [pV (us := us) (vs := vs) (by simpa using h) (fun j x a h1 h2 => hA (j + 1) x a (by simpa using h1) (by simpa using h2))]
theorem PC.below {P : Program} {f : Nat} {us : List Value} {v : Value} (hv : plain v = true)
  (h : ∀ w : World, (∀ (b : Nat) (l : List Value), xU b = some l → ID w b l) → Calls P f us.toArray w fun e w' => e = .returned v ∧ Below w.heap.size w w') :
  PC P f (us.map fun u => .one (.pv (.s u))) (.one (.pv (.s v))) := by
 intro ι w vs hR hA
 obtain rfl := pV (by simpa using hA.1) hA.2
 refine (h w (fun b l hb => (hR.gl b l hb).2.2)).mono ?_
 rintro e w' ⟨rfl, hb⟩
 have hx : lV w w' := ⟨hb.os, hb.tape, hb.output, hb.size, fun b hlt => hb.block b hlt⟩
 exact ⟨v, _, [], ι, rfl, ⟨rfl, rfl⟩, hR.ext hx, .one _ _ (.pv _ _ (.s _ hv)), (hx.keeps ι []).weaken (fun _ _ => trivial)⟩
theorem I0 {g3 g4 : Nat} {w : World} (h3 : ∀ (i : Nat) x, qW[i]? = some x → w.cell? ⟨g3, i, none⟩ = some x) (h4 : ∀ (i : Nat) x, zS[i]? = some x → w.cell? ⟨g4, i, none⟩ = some x) : Utf8Tabs g3 g4 w := by
 refine ⟨fun c hc => h3 c _ ?_, fun i hi => ⟨h4 _ _ ?_, h4 _ _ ?_⟩⟩
 ·simp [qW, hc]
 ·simp [zS, show 2 * i < 32 by omega]
 ·simp [zS, show 2 * i + 1 < 32 by omega, show (2 * i + 1) / 2 = i by omega]
theorem Ja {g3 g4 : Nat} {w : World} (h : Utf8Tabs g3 g4 w) : (∀ (i : Nat) x, qW[i]? = some x → w.cell? ⟨g3, i, none⟩ = some x) ∧ (∀ (i : Nat) x, zS[i]? = some x → w.cell? ⟨g4, i, none⟩ = some x) := by
 refine ⟨fun i x hx => ?_, fun i x hx => ?_⟩
 ·by_cases hi : i < 256
  ·simp [qW, hi] at hx; subst hx; exact h.1 i hi
  ·simp [qW, hi] at hx
 ·by_cases hi : i < 32
  ·simp only [zS, List.getElem?_map, List.getElem?_range hi, Option.map_some, Option.some.injEq] at hx
   by_cases e : i % 2 = 0
   ·rw [if_pos e] at hx
    have := (h.2 (i / 2) (by omega)).1
    rw [show 2 * (i / 2) = i by omega, hx] at this
    exact this
   ·rw [if_neg e] at hx
    have := (h.2 (i / 2) (by omega)).2
    rw [show 2 * (i / 2) + 1 = i by omega, hx] at this
    exact this
  ·simp [zS, hi] at hx
theorem xz {P : Program} {ρ : Ren} (L : Lays.n196 P ρ) (h3 : xU (ρ.g 3) = some qW) (h4 : xU (ρ.g 4) = some zS) (s : ByteArray) (hs : s.size ≤ 9223372036854775807) :
  PC P (ρ.f 196) [.one (.pv (.s (.string s)))] (.one (.pv (.s (.bool (validD s.data.toList))))) :=
 PC.below (us := [.string s]) rfl fun w hw => Go.Proofs.Any.utf8_ValidString L s w hs (I0 (hw _ _ h3).1 (hw _ _ h4).1)
end Go.SX
namespace Go.SX
open Go
section
variable {P : Program} {n n0 : Nat} {loose : List Nat} {Q : QT} {fr : Fr} {st : St} {ops : Array Oper}
end
section
variable {P : Program} {n n0 : Nat} {loose an : List Nat} {Q : QT} {β : Type} {T : Option β} {r : β} {s : SS}
end
end Go.SX
namespace Go.SX
open Go Go.RowKit
structure j0 (w w' : World) (b : Nat) (c : List Value) (ty : TypeId) : Prop where
 os : w'.os = w.os
 tape : w'.tape = w.tape
 output : w'.output = w.output
 size : w.heap.size ≤ w'.heap.size
 oth : ∀ x : Nat, x < w.heap.size → x ≠ b → w'.heap[x]? = w.heap[x]?
 at' : w'.heap[b]? = some (.cells c.toArray ty (0, 0))
theorem j0.trans {w w' w'' : World} {b : Nat} {c c' : List Value} {ty ty' : TypeId} (h : j0 w w' b c ty) (k : j0 w' w'' b c' ty') : j0 w w'' b c' ty' :=
 ⟨k.os.trans h.os, k.tape.trans h.tape, k.output.trans h.output, Nat.le_trans h.size k.size, fun x hx hb => (k.oth x (Nat.lt_of_lt_of_le hx h.size) hb).trans (h.oth x hx hb), k.at'⟩
def wh (w : World) (b : Nat) : Prop := ∀ (g : Nat) (l : List Value), xU g = some l → g ≠ b ∧ g < w.heap.size ∧ ID w g l
theorem ID.same {w w' : World} {g : Nat} {l : List Value} (h : ID w g l) (e : w'.heap[g]? = w.heap[g]?) : ID w' g l := by
 have hc : ∀ i, w'.cell? ⟨g, i, none⟩ = w.cell? ⟨g, i, none⟩ := fun i => by simp [World.cell?, e]
 exact ⟨fun i v hv => by rw [hc]; exact h.1 i v hv, fun hi => by rw [hc]; exact h.2.1 hi, fun hi => by rw [e]; exact h.2.2 hi⟩
theorem wh.to {w w' : World} {b : Nat} {c : List Value} {ty : TypeId} (h : wh w b) (k : j0 w w' b c ty) : wh w' b := fun g l hg => by
 obtain ⟨h1, h2, h3⟩ := h g l hg
 exact ⟨h1, Nat.lt_of_lt_of_le h2 k.size, h3.same (k.oth g h2 h1)⟩
def ET (s : ByteArray) (q : Bool) : br := .box [eQ s, cb q]
theorem JK {ι : IM} {w : World} {st : St} {s : ByteArray} {q : Bool} : dr ι w st [.string s, .bool q] [eQ s, cb q] := by
 refine ⟨rfl, fun j v c h1 h2 => ?_⟩
 match j with
 | 0 => simp at h1 h2; subst h1; subst h2; exact .pv _ _ (.s _ rfl)
 | 1 => simp at h1 h2; subst h1; subst h2; exact .pv _ _ (.s _ rfl)
 | j + 2 => simp at h1
theorem Bj {ι : IM} {w : World} {st : St} {vs : List Value} {s : ByteArray} {q : Bool} (h : dr ι w st vs [eQ s, cb q]) : vs = [.string s, .bool q] := by
 obtain ⟨hl, h⟩ := h
 match vs, hl with
 | [x, y], _ =>
  have h0 := h 0 x _ rfl rfl
  have h1 := h 1 y _ rfl rfl
  cases h0 with
  | pv _ _ h0 => cases h0 with
   | s _ _ => cases h1 with
    | pv _ _ h1 => cases h1 with
     | s _ _ => rfl
def Lt (b : Nat) : IM := ⟨fun id => if id = 0 then some b else none, fun _ => False⟩
theorem Kh {w : World} {b : Nat} {ty : TypeId} {s : ByteArray} {q : Bool} (hb : w.heap[b]? = some (.cells #[.string s, .bool q] ty (0, 0))) (hg : wh w b) : eg (Lt b) w [ET s q] where
 obj id o ho := by
  match id with
  | 0 => simp at ho; subst ho; exact ⟨b, [.string s, .bool q], ty, rfl, hb, JK⟩
  | id + 1 => simp at ho
 amb b h := h.elim
 dis b _ h := h
 inj id id' o o' x h1 h2 _ _ _ _ := by
  have a := (List.getElem?_eq_some_iff.1 h1).1
  have c := (List.getElem?_eq_some_iff.1 h2).1
  simp at a c; omega
 gl g l h := by
  obtain ⟨h1, h2, h3⟩ := hg g l h
  refine ⟨fun hm => hm.elim id ?_, h2, h3⟩
  rintro ⟨id, o, a1, _, a3⟩
  have a := (List.getElem?_eq_some_iff.1 a1).1
  simp at a
  subst a
  simp only [Lt, if_true, Option.some.injEq] at a3
  exact h1 a3.symm
theorem MC.box2 {P : Program} {f : Nat} {us : List Value} {u : Value} {s s' : ByteArray} {q q' : Bool} (hpl : us.all plain = true)
  (h : MC P f (.one (.pt 0 0 0 0) :: us.map fun u => .one (.pv (.s u))) [ET s q] (.one (.pv (.s u))) [ET s' q']) {w : World} {b : Nat} {ty : TypeId}
  (hb : w.heap[b]? = some (.cells #[.string s, .bool q] ty (0, 0))) (hg : wh w b) :
  Calls P f (.pointer (some ⟨b, 0, none⟩) :: us).toArray w fun e w' => e = .returned u ∧ j0 w w' b [.string s', .bool q'] ty := by
 have hA : pA (Lt b) w [ET s q] (.pointer (some ⟨b, 0, none⟩) :: us) (.one (.pt 0 0 0 0) :: us.map fun u => .one (.pv (.s u))) := by
  refine ⟨by simp, fun j v a h1 h2 => ?_⟩
  match j with
  | 0 => simp at h1 h2; subst h1; subst h2; exact .one _ _ (.pt 0 0 0 0 b (by simp [ET]) rfl)
  | j + 1 =>
   simp at h1 h2
   obtain ⟨u', h3, rfl⟩ := h2
   rw [h1] at h3; cases h3
   exact .one _ _ (.pv _ _ (.s _ (List.all_eq_true.1 hpl v (List.mem_of_getElem? h1))))
 refine (h (Lt b) w _ (Kh hb hg) hA).mono ?_
 rintro e w' ⟨v, av, st', ι', rfl, ⟨rfl, rfl⟩, hR', hv, k⟩
 obtain ⟨hm1, hm2⟩ := k.map 0 (by simp) (by simp)
 obtain ⟨b', vs, ty', e1, e2, e3⟩ := hR'.obj 0 _ rfl
 have hbb : b' = b := by rw [e1] at hm2; simpa [Lt] using hm2
 subst hbb
 obtain rfl := Bj e3
 obtain ⟨c', e4, _⟩ := k.shp b' _ _ _ hb
 rw [e2] at e4
 injection e4 with e4
 injection e4 with e5 e6
 refine ⟨by rw [bj hv], k.os, k.tape, k.output, k.size, fun x hx hn => (k.blk x hx ?_).1, by rw [e2, e6]⟩
 rintro ⟨id, o, a1, _, a3⟩
 have a := (List.getElem?_eq_some_iff.1 a1).1
 simp at a
 subst a
 simp only [Lt, if_true, Option.some.injEq] at a3
 exact hn a3.symm
theorem MC.ofBox {P : Program} {f : Nat} {us : List Value} {u : Value} {s s' : ByteArray} {q q' : Bool} (hpl : plain u = true)
  (h : ∀ (w : World) (b : Nat) (ty : TypeId), w.heap[b]? = some (.cells #[.string s, .bool q] ty (0, 0)) → wh w b →
   Calls P f (.pointer (some ⟨b, 0, none⟩) :: us).toArray w fun e w' => e = .returned u ∧ j0 w w' b [.string s', .bool q'] ty) :
  MC P f (.one (.pt 0 0 0 0) :: us.map fun u => .one (.pv (.s u))) [ET s q] (.one (.pv (.s u))) [ET s' q'] := by
 intro ι w vs hR hA
 obtain ⟨b, ws, ty, e1, e2, e3⟩ := hR.obj 0 _ rfl
 obtain rfl := Bj e3
 have hown : ∀ (st2 : br) x, nX ι [st2] x → ι 0 = some x := by
  rintro st2 x ⟨id, o, a1, _, a3⟩
  have a := (List.getElem?_eq_some_iff.1 a1).1
  simp at a
  subst a
  exact a3
 have hvs : vs = .pointer (some ⟨b, 0, none⟩) :: us := by
  obtain ⟨hl, hA⟩ := hA
  match vs, hl with
  | v :: vs, hl =>
   have h0 := hA 0 v _ rfl rfl
   cases h0 with
   | one _ _ h0 => cases h0 with
    | pt id sz i off b2 hid hb2 =>
     rw [e1] at hb2
     have : b2 = b := by simpa using hb2.symm
     subst this
     congr 1
     exact pV (ι := ι) (w := w) (by simpa using hl) (fun j v a h1 h2 => hA (j + 1) v a (by simpa using h1) (by simpa using h2))
 subst hvs
 have hg : wh w b := fun g l hgl => by
  obtain ⟨h1, h2, h3⟩ := hR.gl g l hgl
  exact ⟨fun e => h1 (.inr ⟨0, _, rfl, by simp [br.alive, ET], by rw [e1, e]⟩), h2, h3⟩
 refine (h w b ty e2 hg).mono ?_
 rintro e w' ⟨rfl, hB⟩
 have k : bi all ι w [ET s q] ι w' [ET s' q'] := by
  refine ⟨hB.os, hB.tape, hB.output, hB.size, rfl, fun x hx hm => ⟨hB.oth x hx ?_, ?_⟩, fun id _ hid => ⟨by simpa using hid, rfl⟩, fun x c ty2 fz hx => ?_⟩
  ·rintro rfl
   exact hm ⟨0, _, rfl, by simp [br.alive, ET], e1⟩
  ·intro ho
   exact hm ⟨0, _, rfl, by simp [br.alive, ET], hown _ _ ho⟩
  ·by_cases e : x = b
   ·subst e
    rw [e2] at hx
    cases hx
    exact ⟨_, hB.at', rfl⟩
   ·have hlt := (Array.getElem?_eq_some_iff.1 hx).1
    exact ⟨c, (hB.oth x hlt e).trans hx, rfl⟩
 refine ⟨u, _, [ET s' q'], ι, rfl, ⟨rfl, rfl⟩, ⟨fun id o ho => ?_, fun x hx => Nat.lt_of_lt_of_le (hR.amb x hx) hB.size, fun x hx => hR.dis x ⟨0, _, rfl, by simp [br.alive, ET], hown _ _ hx⟩, fun id id' o o' x h1 h2 _ _ _ _ => ?_, hR.glk k⟩, .one _ _ (.pv _ _ (.s _ hpl)), k.weaken (fun _ _ => trivial)⟩
 ·match id with
  | 0 => simp at ho; subst ho; exact ⟨b, [.string s', .bool q'], ty, e1, hB.at', JK⟩
  | id + 1 => simp at ho
 ·have a := (List.getElem?_eq_some_iff.1 h1).1
  have c := (List.getElem?_eq_some_iff.1 h2).1
  simp at a c; omega
theorem sj {T e : TypeId} {B k : Nat} {bs : List Value} {w w' : World} (h : Lib.IsBuilderF T e B k bs w) (hx : ∀ x : Nat, B ≤ x → x < w.heap.size → w'.heap[x]? = w.heap[x]?) : Lib.IsBuilderF T e B k bs w' := by
 have key : ∀ p, Lib.BuilderAtF T e B k p bs w → Lib.BuilderAtF T e B k p bs w' := by
  rintro p ⟨hB, v, hb, hown, hne⟩
  have g1 : ∀ (x : Nat) o, B ≤ x → w.heap[x]? = some o → w'.heap[x]? = some o := fun x o h1 h2 => (hx x h1 (Array.getElem?_eq_some_iff.1 h2).1).trans h2
  refine ⟨hB, v, g1 _ _ hB hb, ⟨hown.1, ?_⟩, hne⟩
  rcases hown.2 with hn | ⟨g, cap, cur, fz, hv, hbg, hg, rest⟩
  ·exact .inl hn
  ·exact .inr ⟨g, cap, cur, fz, hv, hbg, g1 _ _ hbg hg, rest⟩
 exact h.elim (fun x => .inl (key _ x)) (fun x => .inr (key _ x))
theorem j0.below {w w1 w2 : World} {b : Nat} {c : List Value} {ty : TypeId} (h : j0 w w1 b c ty) (hb : b < w.heap.size) (k : Below w.heap.size w1 w2) : j0 w w2 b c ty :=
 ⟨k.os.trans h.os, k.tape.trans h.tape, k.output.trans h.output, Nat.le_trans h.size k.size, fun x hx hn => (k.block x hx).trans (h.oth x hx hn), (k.block b hb).trans h.at'⟩
theorem j0.set0 {w w1 : World} {b : Nat} {x y z : Value} {ty : TypeId} (h : j0 w w1 b [x, y] ty) : j0 w (w1.setCell ⟨b, 0, none⟩ z) b [z, y] ty := by
 refine ⟨h.os, h.tape, h.output, by simpa [World.setCell] using h.size, fun i hi hn => ?_, ?_⟩
 ·rw [Below.heap_setCell _ _ _ _ (fun e => hn e)]; exact h.oth i hi hn
 ·have := h.at'
  simp [World.setCell, Array.getElem?_modify, this]
theorem j0.set1 {w w1 : World} {b : Nat} {x y z : Value} {ty : TypeId} (h : j0 w w1 b [x, y] ty) : j0 w (w1.setCell ⟨b, 1, none⟩ z) b [x, z] ty := by
 refine ⟨h.os, h.tape, h.output, by simpa [World.setCell] using h.size, fun i hi hn => ?_, ?_⟩
 ·rw [Below.heap_setCell _ _ _ _ (fun e => hn e)]; exact h.oth i hi hn
 ·have := h.at'
  simp [World.setCell, Array.getElem?_modify, this]
end Go.SX
namespace Go.SX
open Go
structure BL where
 f : {H : Type} → DataW H → Nat
 one : ∀ {H : Type} (d : DataW H), 1 ≤ f d
 str : ∀ {H : Type} (b : List UInt8), b.length + 1 ≤ f (DataW.lit (H := H) (.string b))
 sl : ∀ {H : Type} (e s : List (DataW H)), (e.map f).sum + 1 ≤ f (.slice e s)
 ag : ∀ {H : Type} (ps : List (DataW H)), (ps.map f).sum + 1 ≤ f (.agg ps)
abbrev Bm : Nat → Prop := fun _ => False
def sK (w : World) (cs : List Value) (ps : List PV) : Prop :=
 cs.length = ps.length ∧ ∀ (j : Nat) v p, cs[j]? = some v → ps[j]? = some p → ei Bm w v p
theorem sK.one {w : World} {v : Value} {p : PV} (h : ei Bm w v p) : sK w [v] [p] := by
 refine ⟨rfl, fun j v' p' h1 h2 => ?_⟩
 cases j with
 | zero => simp at h1 h2; subst h1; subst h2; exact h
 | succ j => simp at h1
theorem sK.nil {w : World} : sK w [] [] := ⟨rfl, fun j v p h => by simp at h⟩
theorem sK.app {w : World} {cs : List Value} {p q : List PV} {n : Nat} (h : sK w (cs.take n) p) (k : sK w (cs.drop n) q) (hn : p.length = n) : sK w cs (p ++ q) := by
 have e : cs = cs.take n ++ cs.drop n := (List.take_append_drop n cs).symm
 refine ⟨?_, fun j v x h1 h2 => ?_⟩
 ·have h1 := h.1; have h2 := k.1
  rw [List.length_append, ← h1, ← h2, ← List.length_append, ← e]
 ·by_cases hj : j < n
  ·rw [List.getElem?_append_left (by omega)] at h2
   refine h.2 j v x ?_ h2
   rw [List.getElem?_take, if_pos hj]; exact h1
  ·rw [List.getElem?_append_right (by omega)] at h2
   refine k.2 (j - n) v x ?_ (by rw [← hn]; exact h2)
   rw [List.getElem?_drop, show n + (j - n) = j by omega]; exact h1
section
variable (B : BL) (P : Program)
def qM (N : Nat) (t : TypeId) {α : Type} (cells : α → List PV) (wf : α → Prop) (size : α → Nat) : Prop :=
 ∀ ⦃H : Type⦄ ⦃enc : TypeId × Value → H⦄ ⦃w : World⦄ ⦃base : Nat⦄ ⦃spare : Nat → Bool⦄ ⦃held : Bool⦄ ⦃fuel : Nat⦄ ⦃cs : List Value⦄ ⦃d : DataW H⦄ ⦃ps : List MemPlace⦄,
  DataW.trod enc P w base spare held fuel t cs = some (d, ps) → B.f d ≤ N → ∃ x, sK w cs (cells x) ∧ wf x ∧ size x ≤ B.f d
variable {B P}
theorem qM.int {N : Nat} {t : TypeId} {k : IntKind} (ht : P.underlying t = some (.int k)) : qM B P N t (fun n : Int => [.s (.int k n)]) (fun n => k.min ≤ n ∧ n ≤ k.max) (fun _ => 1) := by
 intro H enc w base spare held fuel cs d ps h hN
 obtain ⟨n, rfl, hx, hw⟩ := DataW.trod_int ht h
 refine ⟨n, .one (.s _ rfl), ?_, B.one d⟩
 simpa [Lit.wf] using hw
theorem qM.bool {N : Nat} {t : TypeId} (ht : P.underlying t = some .bool) : qM B P N t (fun b : Bool => [.s (.bool b)]) (fun _ => True) (fun _ => 1) := by
 intro H enc w base spare held fuel cs d ps h hN
 obtain ⟨b, rfl, hx⟩ := DataW.trod_bool ht h
 exact ⟨b, .one (.s _ rfl), trivial, B.one d⟩
theorem qM.str {N : Nat} {t : TypeId} (ht : P.underlying t = some .string) : qM B P N t (fun s : ByteArray => [.s (.string s)]) (fun _ => True) (fun s => s.size + 1) := by
 intro H enc w base spare held fuel cs d ps h hN
 obtain ⟨s, rfl, hx, hs⟩ := DataW.trod_string ht h
 simp only [Prod.mk.injEq] at hx
 obtain ⟨rfl, rfl⟩ := hx
 refine ⟨s, .one (.s _ rfl), trivial, ?_⟩
 have := B.str (H := H) s.data.toList
 simpa using this
theorem IZ {w : World} {a : Addr} {v : Value} (h : w.cell? a = some v) : a.block < w.heap.size := by
 unfold World.cell? at h
 split at h
 ·rename_i h1; exact (Array.getElem?_eq_some_iff.1 h1).1
 ·cases h
theorem KE {α : Type} {f : α → Nat} {l : List α} {x : α} (h : x ∈ l) : f x ≤ (l.map f).sum := by
 induction l with
 | nil => cases h
 | cons y l ih =>
  simp only [List.map_cons, List.sum_cons]
  rcases List.mem_cons.1 h with rfl | h
  ·omega
  ·have := ih h; omega
theorem B2 {α β : Type} {q : Nat → α → β → Prop} : ∀ {l : List α} , (∀ (i : Nat) a, l[i]? = some a → ∃ b, q i a b) → ∃ bs : List β, bs.length = l.length ∧ ∀ (i : Nat) a b, l[i]? = some a → bs[i]? = some b → q i a b := by
 intro l
 induction l generalizing q with
 | nil => intro _; exact ⟨[], rfl, fun i a b h => by simp at h⟩
 | cons x l ih =>
  intro h
  obtain ⟨b0, h0⟩ := h 0 x rfl
  obtain ⟨bs, hl, hb⟩ := ih (q := fun i => q (i + 1)) (fun i a hi => h (i + 1) a (by simpa using hi))
  refine ⟨b0 :: bs, by simp [hl], fun i a b h1 h2 => ?_⟩
  cases i with
  | zero => simp at h1 h2; subst h1; subst h2; exact h0
  | succ i => exact hb i a b (by simpa using h1) (by simpa using h2)
theorem zq {α β : Type} {f : α → Nat} {g : β → Nat} : ∀ {l : List α} {m : List β}, m.length = l.length → (∀ (i : Nat) a b, l[i]? = some a → m[i]? = some b → g b ≤ f a) → (m.map g).sum ≤ (l.map f).sum
 | [], [], _, _ => by simp
 | [], _ :: _, h, _ => by simp at h
 | _ :: _, [], h, _ => by simp at h
 | a :: l, b :: m, h, hk => by
  have h0 := hk 0 a b rfl rfl
  have := zq (f := f) (g := g) (l := l) (m := m) (by simpa using h) (fun i x y h1 h2 => hk (i + 1) x y (by simpa using h1) (by simpa using h2))
  simp only [List.map_cons, List.sum_cons]
  omega
theorem qM.slice {N : Nat} {t e : TypeId} {α : Type} {cells : α → List PV} {wf : α → Prop} {size : α → Nat} (ht : P.underlying t = some (.slice e)) (hc : ∀ x, (cells x).length = P.cellsOf e)
  (hpos : 0 < P.cellsOf e) (h : ∀ N', N' < N → qM B P N' e cells wf size) :
  qM B P N t (fun xs : List α => [.ro (xs.map cells)]) (fun xs => ∀ x ∈ xs, wf x) (fun xs => (xs.map size).sum + 1) := by
 intro H enc w base spare held fuel cs d ps hd hN
 rcases DataW.trod_slice ht hd with ⟨rfl, hx⟩ | ⟨a, len, cap, elems, rest, n, _, rfl, hx, hb, hl, hm, hlen, hel, _, _⟩
 ·exact ⟨[], .one .nl, by simp, by simpa using B.one d⟩
 simp only [Prod.mk.injEq] at hx
 obtain ⟨rfl, rfl⟩ := hx
 have hsum := B.sl (elems.map (·.1)) (rest.map (·.1))
 have hel' : ∀ (i : Nat) z, elems[i]? = some z → ∃ x : α, (∃ cs', w.cells? base (a.add (i * P.cellsOf e)) (P.cellsOf e) = some cs' ∧ sK w cs' (cells x)) ∧ wf x ∧ size x ≤ B.f z.1 := by
  intro i z hz
  have hi : i < len := by rw [← hlen]; exact (List.getElem?_eq_some_iff.1 hz).1
  have hk := hel i hi
  rw [hz] at hk
  obtain ⟨cs', h1, h2⟩ := Option.bind_eq_some_iff.1 hk
  have hle : B.f z.1 ≤ ((elems.map (·.1)).map B.f).sum := KE (f := B.f) (List.mem_map.2 ⟨z, List.mem_of_getElem? hz, rfl⟩)
  obtain ⟨x, k1, k2, k3⟩ := h (B.f z.1) (by omega) (d := z.1) (ps := z.2) h2 (Nat.le_refl _)
  exact ⟨x, ⟨cs', h1, k1⟩, k2, k3⟩
 obtain ⟨xs, hxl, hxs⟩ := B2 hel'
 have hxlen : xs.length = len := by omega
 have key : ∀ (i : Nat) x, xs[i]? = some x → ∃ z, elems[i]? = some z ∧ (∃ cs', w.cells? base (a.add (i * P.cellsOf e)) (P.cellsOf e) = some cs' ∧ sK w cs' (cells x)) ∧ wf x ∧ size x ≤ B.f z.1 := by
  intro i x hx
  have hi : i < elems.length := by rw [← hxl]; exact (List.getElem?_eq_some_iff.1 hx).1
  exact ⟨_, List.getElem?_eq_getElem hi, hxs i _ x (List.getElem?_eq_getElem hi) hx⟩
 refine ⟨xs, .one ?_, ?_, ?_⟩
 ·have hcell : ∀ (i : Nat) (ee : List PV) (j : Nat) c, (xs.map cells)[i]? = some ee → ee[j]? = some c → ∃ v, w.cell? (a.add (i * P.cellsOf e + j)) = some v ∧ ei Bm w v c := by
   intro i ee j c h1 h2
   rw [List.getElem?_map, Option.map_eq_some_iff] at h1
   obtain ⟨x, hx, rfl⟩ := h1
   obtain ⟨z, _, ⟨cs', hcs, hrd⟩, _, _⟩ := key i x hx
   obtain ⟨_, hcl, hcc⟩ := World.cells?_some hcs
   have hj : j < P.cellsOf e := by rw [← hc x]; exact (List.getElem?_eq_some_iff.1 h2).1
   have := hcc j hj
   rw [pR] at this
   have hget : cs'[j]? = some cs'[j] := List.getElem?_eq_getElem (by omega)
   exact ⟨cs'[j], this.trans hget, hrd.2 j _ c hget h2⟩
  have := ei.ro (μ := Bm) (w := w) a cap (P.cellsOf e) (xs.map cells) (fun i j => (w.cell? (a.add (i * P.cellsOf e + j))).getD undef) (by simpa [hxlen] using hl)
   (fun ee he => by obtain ⟨x, _, rfl⟩ := List.mem_map.1 he; exact hc x)
   (fun hne => by
    refine ⟨?_, fun h => h⟩
    cases xs with
    | nil => simp at hne
    | cons x0 r0 =>
     have h0 : 0 < (cells x0).length := by rw [hc]; exact hpos
     obtain ⟨v, hv, _⟩ := hcell 0 (cells x0) 0 _ rfl (List.getElem?_eq_getElem h0)
     have := IZ hv
     rwa [pq] at this)
   (fun i ee j c h1 h2 => by obtain ⟨v, hv, _⟩ := hcell i ee j c h1 h2; simp [hv])
   (fun i ee j c h1 h2 => by obtain ⟨v, hv, hr⟩ := hcell i ee j c h1 h2; simpa [hv] using hr)
  rw [List.length_map, hxlen] at this
  exact this
 ·intro x hx
  obtain ⟨i, hi, rfl⟩ := List.getElem_of_mem hx
  obtain ⟨_, _, _, k, _⟩ := key i _ (List.getElem?_eq_getElem hi)
  exact k
 ·have : (xs.map size).sum ≤ ((elems.map (·.1)).map B.f).sum := by
   rw [List.map_map]
   exact zq (f := B.f ∘ Prod.fst) (g := size) hxl (fun i z x h1 h2 => (hxs i z x h1 h2).2.2)
  show (xs.map size).sum + 1 ≤ _
  omega
def yB (B : BL) (P : Program) (N : Nat) (off : Nat) (fs : List Field) {α : Type} (cells : α → List PV) (wf : α → Prop) (size : α → Nat) : Prop :=
 ∀ ⦃H : Type⦄ ⦃enc : TypeId × Value → H⦄ ⦃w : World⦄ ⦃base : Nat⦄ ⦃spare : Nat → Bool⦄ ⦃held : Bool⦄ ⦃n : Nat⦄ ⦃cs : List Value⦄ ⦃xs : List (DataW H × List MemPlace)⦄,
  xs.length = fs.length → (∀ (i : Nat) f, fs[i]? = some f → DataW.trod enc P w base spare held n f.type ((cs.drop f.offset).take (P.cellsOf f.type)) = xs[i]?) → ((xs.map (·.1)).map B.f).sum ≤ N →
  cs.length = off + (fs.map fun f => P.cellsOf f.type).sum →
  ∃ x, sK w (cs.drop off) (cells x) ∧ wf x ∧ size x ≤ ((xs.map (·.1)).map B.f).sum
theorem yB.nil {N off : Nat} : yB B P N off [] (fun _ : Unit => []) (fun _ => True) (fun _ => 0) := by
 intro H enc w base spare held n cs xs hl h hN hc
 refine ⟨(), ?_, trivial, Nat.zero_le _⟩
 have : cs.drop off = [] := by simp at hc ⊢; omega
 rw [this]
 exact .nil
theorem yB.cons {N off : Nat} {f : Field} {fs : List Field} {α β : Type} {c1 : α → List PV} {w1 : α → Prop} {s1 : α → Nat} {c2 : β → List PV} {w2 : β → Prop} {s2 : β → Nat} (ho : f.offset = off) (hc : ∀ x, (c1 x).length = P.cellsOf f.type)
  (h : qM B P N f.type c1 w1 s1) (k : yB B P N (off + P.cellsOf f.type) fs c2 w2 s2) : yB B P N off (f :: fs) (fun p : α × β => c1 p.1 ++ c2 p.2) (fun p => w1 p.1 ∧ w2 p.2) (fun p => s1 p.1 + s2 p.2) := by
 intro H enc w base spare held n cs xs hl hx hN hlen
 match xs, hl with
 | z :: zs, hl =>
  simp only [List.map_cons, List.sum_cons] at hN hlen ⊢
  have h0 := hx 0 f rfl
  obtain ⟨x, a1, a2, a3⟩ := h (d := z.1) (ps := z.2) h0 (by omega)
  obtain ⟨y, b1, b2, b3⟩ := k (xs := zs) (cs := cs) (by simpa using hl) (fun i g hg => hx (i + 1) g (by simpa using hg)) (by omega) (by omega)
  refine ⟨(x, y), ?_, ⟨a2, b2⟩, by simp only; omega⟩
  rw [ho] at a1
  refine sK.app (n := P.cellsOf f.type) a1 ?_ (hc x)
  rw [List.drop_drop]
  exact b1
theorem qM.struct {N : Nat} {t : TypeId} {fs : Array Field} {α β : Type} {c : β → List PV} {wf : β → Prop} {s : β → Nat} {cells : α → List PV} {wf' : α → Prop} {size : α → Nat} (ht : P.underlying t = some (.struct fs)) (hsz : P.cellsOf t = 0 + (fs.toList.map fun f => P.cellsOf f.type).sum)
  (h : ∀ N', N' < N → yB B P N' 0 fs.toList c wf s) (mk : β → α) (h1 : ∀ y, cells (mk y) = c y) (h2 : ∀ y, wf y → wf' (mk y)) (h3 : ∀ y, size (mk y) ≤ s y + 1) : qM B P N t cells wf' size := by
 intro H enc w base spare held fuel cs d ps hd hN
 obtain ⟨xs, n, _, hx, hlen, hxl, hf⟩ := DataW.trod_struct ht hd
 simp only [Prod.mk.injEq] at hx
 obtain ⟨rfl, rfl⟩ := hx
 have hag := B.ag (xs.map (·.1))
 obtain ⟨y, a1, a2, a3⟩ := h _ (show ((xs.map (·.1)).map B.f).sum < N by omega) (xs := xs) (cs := cs) (by simpa using hxl) (fun i f hi => hf i f (by simpa using hi)) (Nat.le_refl _) (hlen.trans hsz)
 refine ⟨mk y, ?_, h2 y a2, ?_⟩
 ·rw [h1]; simpa using a1
 ·have := h3 y; omega
theorem qM.conv {N : Nat} {t : TypeId} {α : Type} {c c' : α → List PV} {wf wf' : α → Prop} {s s' : α → Nat} (h : qM B P N t c wf s) (h1 : ∀ x, c' x = c x) (h2 : ∀ x, wf x → wf' x) (h3 : ∀ x, s' x ≤ s x) : qM B P N t c' wf' s' := by
 intro H enc w base spare held fuel cs d ps hd hN
 obtain ⟨x, a1, a2, a3⟩ := h hd hN
 exact ⟨x, by rw [h1]; exact a1, h2 x a2, Nat.le_trans (h3 x) a3⟩
end
theorem ei.toVRel {w : World} {v : Value} {p : PV} (h : ei Bm w v p) : b8 ⟨fun _ => none, fun _ => False⟩ w [] v (.pv p) :=
 .pv v p (h.mono (Nat.le_refl _) (fun b _ _ => ⟨rfl, fun hm => by
  rcases hm with hm | ⟨id, o, h1, _, _⟩
  ·exact hm
  ·simp at h1⟩))
theorem Ky {w : World} {cs : List Value} {ps : List PV} (h : sK w cs ps) : aK ⟨fun _ => none, fun _ => False⟩ w [] (.agg cs.toArray) (.ag (ps.map .pv)) := by
 refine .ag _ _ ⟨by simpa using h.1, fun j v c h1 h2 => ?_⟩
 rw [List.getElem?_map, Option.map_eq_some_iff] at h2
 obtain ⟨p, h2, rfl⟩ := h2
 exact (h.2 j v p h1 h2).toVRel
theorem yg {B : BL} {P : Program} {H : Type} {enc : TypeId × Value → H} {w : World} {base b0 : Nat} {spare : Nat → Bool} {held : Bool} {r : Reach} {t : TypeId} {v : Value} {d : DataW H} {ps : List MemPlace} {α : Type} {cells : α → List PV} {wf : α → Prop} {size : α → Nat}
  (h : ∀ N, qM B P N t cells wf size) (hval : Value.okWide P w r b0 t v) (hd : DataW.Trod enc P w base spare held t v d ps) :
  ∃ x, sK w v.cells.toList (cells x) ∧ wf x ∧ size x ≤ B.f d := by
 obtain ⟨fuel, hd⟩ := hd
 exact h _ hd (Nat.le_refl _)
theorem F6 {P : Program} {w : World} {r : Reach} {b0 : Nat} {t : TypeId} {v : Value} {fs : Array Field} (ht : P.underlying t = some (.struct fs)) (hval : Value.okWide P w r b0 t v) : v = .agg v.cells := by
 simp only [Value.okWide, ht] at hval
 obtain ⟨cs, rfl, _⟩ := hval
 rfl
theorem tE {w : World} {v : Value} {ps : List PV} (hv : v = .agg v.cells) (h : sK w v.cells.toList ps) : aK ⟨fun _ => none, fun _ => False⟩ w [] v (.ag (ps.map .pv)) := by
 have := Ky h
 rw [hv]
 simpa [Value.cells] using this
structure Dp (w w' : World) : Prop where
 os : w'.os = w.os
 output : w'.output = w.output
 size : w.heap.size ≤ w'.heap.size
 blk : ∀ b : Nat, b < w.heap.size → w'.heap[b]? = w.heap[b]?
theorem PC.call {P : Program} {f : Nat} {args : List AV} {r : AV} (h : PC P f args r) {w : World} {vs : List Value} (hl : vs.length = args.length) (hA : ∀ (j : Nat) v a, vs[j]? = some v → args[j]? = some a → aK ⟨fun _ => none, fun _ => False⟩ w [] v a) (hg : ∀ (b : Nat) (l : List Value), xU b = some l → b < w.heap.size ∧ ID w b l) :
  Calls P f vs.toArray w fun e w' => ∃ v ι', e = .returned v ∧ aK ι' w' [] v r ∧ Dp w w' := by
 refine (h ⟨fun _ => none, fun _ => False⟩ w vs ⟨fun id o h => by simp at h, fun b h => h.elim, fun b h => fun h' => h', fun id id' o o' b h => by simp at h, fun b o h => ⟨fun hm => hm.elim id (fun ⟨_, _, h1, _⟩ => by simp at h1), hg b o h⟩⟩ ⟨hl, hA⟩).mono ?_
 rintro e w' ⟨v, av, st', ι', rfl, ⟨rfl, rfl⟩, hR, hv, k⟩
 refine ⟨v, ι', rfl, hv, k.os, k.output, k.size, fun b hb => (k.blk b hb ?_).1⟩
 rintro ⟨id, o, h1, _⟩
 simp at h1
theorem Dp.keptBut {w w' : World} (k : Dp w w') (may : MemPlace → Prop) : w.keptBut w' may := by
 refine ⟨k.os, k.output, fun i hi => ?_⟩
 rw [k.blk i hi]
 have : w.heap[i]? = some w.heap[i] := Array.getElem?_eq_getElem hi
 rw [this]
 cases w.heap[i] with
 | cells c t fr => exact ⟨rfl, rfl, rfl, fun _ _ => rfl⟩
 | map es clock => exact .inr ⟨rfl, rfl⟩
 | _ => rfl
theorem Dp.frozen {w w' : World} (k : Dp w w') {b off : Nat} (hb : b < w.heap.size) : w'.frozen? ⟨b, off, none⟩ = w.frozen? ⟨b, off, none⟩ := by
 simp [World.frozen?, k.blk b hb]
open Go.ChangeShapes Go.WideElems Go.WideShapes in
theorem zx {H : Type} {enc : TypeId × Value → H} {P : Program} {W W' : World} (hl : laidOutB P = true) (k : Dp W W') {sp : Nat → Bool} : ∀ {ts : List TypeId} {vs : List Value} {ds : List (DataW H)} {ps : List MemPlace}, (ts.all fun t => P.readableRec t && Nat.ble (t + 1) P.types.size) = true →
  DataW.TrodAll enc P W 0 (fun _ => true) true ts vs ds ps → (∀ p ∈ ps, p.block < W.heap.size) → (∀ p ∈ ps, sp p.block = true) → DataW.TrodAll enc P W' 0 sp true ts vs ds ps
 | [], _, _, _, _, h, _, _ => by
  obtain ⟨rfl, rfl, rfl⟩ := trodAll_nil h
  exact rfl
 | t :: ts, _, _, _, hr, h, hp, hs => by
  obtain ⟨v, vs1, d, ds1, a, b, rfl, rfl, rfl, h1, h2⟩ := trodAll_cons h
  simp only [List.all_cons, Bool.and_eq_true] at hr
  refine ⟨a, b, Trod_stays hl hr.1.1 (Nat.le_of_ble_eq_true hr.1.2) h1 (fun p hpa => ?_) (fun p hpa => hs p (by simp [hpa])), zx hl k hr.2 h2 (fun p hpa => hp p (by simp [hpa])) (fun p hpa => hs p (by simp [hpa])), rfl⟩
  have := hp p (by simp [hpa])
  cases p with
  | cell b off => exact cell?_same (k.blk b this)
  | map b => exact k.blk b this
open Go.ChangeShapes Go.RowKit Go.WideShapes Go.ChangeAt in
theorem E9 {H : Type} {enc : TypeId × Value → H} {P : Program} {f : Func} {s : ChangeSpec} {apart fresh handsOn again : Bool} {W W' : World} {args : Array Value} {ds gs : List (DataW H)} {before : List MemPlace}
  (hW : DataW.Whole enc P f.params.toList s.vars apart W args.toList ds gs before) (hl : laidOutB P = true) (hr : (f.params.toList.all fun t => P.readableRec t && Nat.ble (t + 1) P.types.size) = true) (k : Dp W W')
  (hvars : s.vars = []) (t : TypeId) (ht : f.resultTypes = #[t]) (hb : P.underlying t = some .bool) (hsp : s.fn H ds = { results := [.lit (.bool true)], args := ds }) :
  s.post enc P f apart fresh handsOn again W args (.bool true) W' := by
 have hW' := hW
 have hlt : ∀ p ∈ before, p.block < W.heap.size := fun p hp => hW.lt p hp
 obtain ⟨p, q, hA, hV, rfl, hz, hn⟩ := hW'
 rw [hvars] at hV
 obtain ⟨rfl, rfl⟩ := trodVars_none hV
 have hres : ∀ (b : Nat) (sp : Nat → Bool) (hd : Bool), DataW.TrodAll enc P W' b sp hd f.resultTypes.toList ((Value.bool true).resultList f.resultTypes.size) [.lit (.bool true)] [] := by
  intro b sp hd
  rw [ht]
  exact trodAll_cons_mk (shut_bool hb _) trodAll_mk0
 simp only [List.append_nil] at *
 have hargs : ∀ sp : Nat → Bool, (∀ x ∈ p, sp x.block = true) → DataW.TrodAll enc P W' 0 sp true f.params.toList args.toList ds p := fun sp hs => zx hl k hr hA hlt hs
 have hold : ∀ x ∈ p, (fun b => decide (b < W.heap.size)) x.block = true := fun x hx => by simpa using hlt x hx
 refine ⟨ds, [], p, [], p, [], by simpa using hW, ?_, ?_, ?_, k.keptBut _, fun _ => ⟨?_, [.lit (.bool true)] ++ ds, [], p, ⟨p, [], ?_, ?_, by simp, ?_, hn⟩, ?_⟩⟩
 ·simp only [List.append_nil, hsp]; exact hres _ _ _
 ·simp only [List.append_nil, hsp]; exact hargs _ hold
 ·simp only [List.append_nil, hsp, hvars]; rfl
 ·exact ok_one ht rfl (okWide_bool_mk hb _)
 ·have := trodAll_append (hargs (fun _ => true) (fun _ _ => rfl)) (hres 0 (fun _ => true) true)
  simpa using this
 ·rw [hvars]; rfl
 ·intro b off hp
  rw [k.frozen (b := b) (off := off) (hlt _ hp)]
  exact hz b off hp
 ·intro x hx _; exact hx
theorem Jg {ι : IM} {w : World} {v : Value} {b : Bool} (h : aK ι w [] v (.one (.pv (.s (.bool b))))) : v = .bool b := by
 cases h with
 | one _ _ h =>
  cases h with
  | pv _ _ h => cases h with | s => rfl
end Go.SX
namespace Go.SX
open Go
def fieldsOf (P : Program) (t : TypeId) : List Field := match P.underlying t with
 | some (.struct fs) => fs.toList
 | _ => []
def mS (P : Program) (t : TypeId) : Bool := match P.underlying t with
 | some (.struct _) => true
 | _ => false
def nP (P : Program) (t : TypeId) (i : Nat) : Field := (fieldsOf P t)[i]?.getD default
section
variable {B : BL} {P : Program}
theorem qM.structF {N : Nat} {t : TypeId} {L : List Field} {α β : Type} {c : β → List PV} {wf : β → Prop} {s : β → Nat} {cells : α → List PV} {wf' : α → Prop} {size : α → Nat} (hu : mS P t = true) (hL : fieldsOf P t = L) (hsz : P.cellsOf t = 0 + (L.map fun f => P.cellsOf f.type).sum)
  (h : ∀ N', N' < N → yB B P N' 0 L c wf s) (mk : β → α) (h1 : ∀ y, cells (mk y) = c y) (h2 : ∀ y, wf y → wf' (mk y)) (h3 : ∀ y, size (mk y) ≤ s y + 1) : qM B P N t cells wf' size := by
 unfold mS at hu
 unfold fieldsOf at hL
 cases hd : P.underlying t with
 | none => simp [hd] at hu
 | some d =>
  cases d <;> simp [hd] at hu
  rename_i fs
  simp only [hd] at hL
  subst hL
  exact qM.struct hd hsz h mk h1 h2 h3
theorem tG {w : World} {r : Reach} {b0 : Nat} {t : TypeId} {v : Value} (hu : mS P t = true) (hval : Value.okWide P w r b0 t v) : v = .agg v.cells := by
 unfold mS at hu
 cases hd : P.underlying t with
 | none => simp [hd] at hu
 | some d =>
  cases d <;> simp [hd] at hu
  exact F6 hd hval
end
end Go.SX
namespace Go.SX
open Go
abbrev xJ (n : Int) : Prop := IntKind.min .i64 ≤ n ∧ n ≤ IntKind.max .i64
theorem Jo {B : BL} {P : Program} {wf : ac → Prop} {sz : ac → Nat} (tv ti ts tl : TypeId) (hi : P.underlying ti = some (.int .i64)) (hs : P.underlying ts = some .string) (hl : P.underlying tl = some (.slice tv)) (hu : mS P tv = true)
  (hL : fieldsOf P tv = [nP P tv 0, nP P tv 1, nP P tv 2, nP P tv 3, nP P tv 4]) (hz : P.cellsOf tv = 5 ∧ P.cellsOf ti = 1 ∧ P.cellsOf ts = 1 ∧ P.cellsOf tl = 1)
  (ht : (nP P tv 0).type = ti ∧ (nP P tv 1).type = ti ∧ (nP P tv 2).type = ti ∧ (nP P tv 3).type = ts ∧ (nP P tv 4).type = tl)
  (ho : (nP P tv 0).offset = 0 ∧ (nP P tv 1).offset = 1 ∧ (nP P tv 2).offset = 2 ∧ (nP P tv 3).offset = 3 ∧ (nP P tv 4).offset = 4)
  (hwf : ∀ k n sc s it, xJ k → xJ n → xJ sc → (∀ x ∈ it, wf x) → wf ⟨k, n, sc, s, it⟩) (hsz : ∀ k n sc s it, sz ⟨k, n, sc, s, it⟩ ≤ s.size + (it.map sz).sum + 6) :
  ∀ N, qM B P N tv ac.cells wf sz := by
 obtain ⟨t0, t1, t2, t3, t4⟩ := ht
 obtain ⟨o0, o1, o2, o3, o4⟩ := ho
 obtain ⟨z0, z1, z2, z3⟩ := hz
 intro N
 induction N using Nat.strongRecOn with
 | _ N ih =>
  have I : ∀ (N : Nat) (f : Field), f.type = ti → qM B P N f.type (fun n : Int => [PV.s (.int .i64 n)]) (fun n => IntKind.min .i64 ≤ n ∧ n ≤ IntKind.max .i64) (fun _ => 1) := fun N f hf => qM.int (by rw [hf]; exact hi)
  have C : ∀ (f : Field), f.type = ti → ∀ x : Int, ([PV.s (.int .i64 x)] : List PV).length = P.cellsOf f.type := fun f hf x => by rw [hf, z1]; rfl
  refine qM.structF (α := ac) (cells := ac.cells) (wf' := wf) (size := sz) hu hL (by simp [t0, t1, t2, t3, t4, z0, z1, z2, z3]) (fun N' hN' =>
   yB.cons o0 (C _ t0) (I N' _ t0) (yB.cons (by rw [o1, t0, z1]) (C _ t1) (I N' _ t1) (yB.cons (by rw [o2, t0, t1, z1]) (C _ t2) (I N' _ t2)
    (yB.cons (c1 := fun s : ByteArray => [PV.s (.string s)]) (by rw [o3, t0, t1, t2, z1]) (fun x => by rw [t3, z2]; rfl) (qM.str (by rw [t3]; exact hs))
     (yB.cons (c1 := fun xs : List ac => [PV.ro (xs.map ac.cells)]) (by rw [o4, t0, t1, t2, t3, z1, z2]) (fun x => by rw [t4, z3]; rfl)
      (qM.slice (e := tv) (by rw [t4]; exact hl) (fun x => by rw [z0]; cases x; rfl) (by omega) (fun N'' hN'' => ih N'' (by omega))) yB.nil)))))
   (fun y => (⟨y.1, y.2.1, y.2.2.1, y.2.2.2.1, y.2.2.2.2.1⟩ : ac)) (fun y => ?_) (fun y h => hwf _ _ _ _ _ h.1 h.2.1 h.2.2.1 h.2.2.2.2.1) (fun y => ?_)
  ·simp only [ac.cells, ac.lcells_eq]
   rfl
  ·have := hsz y.1 y.2.1 y.2.2.1 y.2.2.2.1 y.2.2.2.2.1
   exact Nat.le_trans this (by show _ ≤ 1 + (1 + (1 + ((y.2.2.2.1).size + 1 + ((y.2.2.2.2.1.map sz).sum + 1 + 0)))) + 1; omega)
end Go.SX
namespace Go.SX
open Go
theorem IY {B : BL} {P : Program} {wfT : af → Prop} {szT : af → Nat} {wfF : aL → Prop} {szF : aL → Nat} (tt tf ti ts tb : TypeId) (hi : P.underlying ti = some (.int .i64)) (hs : P.underlying ts = some .string) (hb : P.underlying tb = some .bool) (hu : mS P tf = true)
  (hL : fieldsOf P tf = [nP P tf 0, nP P tf 1, nP P tf 2, nP P tf 3]) (hz : P.cellsOf tf = 6 ∧ P.cellsOf tt = 3 ∧ P.cellsOf ti = 1 ∧ P.cellsOf ts = 1 ∧ P.cellsOf tb = 1)
  (ht : (nP P tf 0).type = ti ∧ (nP P tf 1).type = ts ∧ (nP P tf 2).type = tb ∧ (nP P tf 3).type = tt)
  (ho : (nP P tf 0).offset = 0 ∧ (nP P tf 1).offset = 1 ∧ (nP P tf 2).offset = 2 ∧ (nP P tf 3).offset = 3)
  (hwf : ∀ i n q t, xJ i → wfT t → wfF ⟨i, n, q, t⟩) (hsz : ∀ i n q t, szF ⟨i, n, q, t⟩ ≤ n.size + szT t + 4) {N : Nat} (ih : ∀ N', N' < N → qM B P N' tt af.cells wfT szT) :
  qM B P N tf af.fcell wfF szF := by
 obtain ⟨t0, t1, t2, t3⟩ := ht
 obtain ⟨o0, o1, o2, o3⟩ := ho
 obtain ⟨z0, z1, z2, z3, z4⟩ := hz
 refine qM.structF (α := aL) (cells := af.fcell) (wf' := wfF) (size := szF) hu hL (by simp [t0, t1, t2, t3, z0, z1, z2, z3, z4]) (fun N' hN' =>
  yB.cons (c1 := fun n : Int => [PV.s (.int .i64 n)]) o0 (fun x => by rw [t0, z2]; rfl) (qM.int (by rw [t0]; exact hi))
   (yB.cons (c1 := fun s : ByteArray => [PV.s (.string s)]) (by rw [o1, t0, z2]) (fun x => by rw [t1, z3]; rfl) (qM.str (by rw [t1]; exact hs))
    (yB.cons (c1 := fun b : Bool => [PV.s (.bool b)]) (by rw [o2, t0, t1, z2, z3]) (fun x => by rw [t2, z4]; rfl) (qM.bool (by rw [t2]; exact hb))
     (yB.cons (c1 := af.cells) (by rw [o3, t0, t1, t2, z2, z3, z4]) (fun x => by rw [t3, z1]; cases x; rfl) (by rw [t3]; exact ih N' hN') yB.nil))))
  (fun y => (⟨y.1, y.2.1, y.2.2.1, y.2.2.2.1⟩ : aL)) (fun y => ?_) (fun y h => hwf _ _ _ _ h.1 h.2.2.2.1) (fun y => ?_)
 ·simp only [af.fcell, List.append_nil]
  rfl
 ·have := hsz y.1 y.2.1 y.2.2.1 y.2.2.2.1
  exact Nat.le_trans this (by show _ ≤ 1 + ((y.2.1).size + 1 + (1 + (szT y.2.2.2.1 + 0))) + 1; omega)
theorem GM {B : BL} {P : Program} {wfT : af → Prop} {szT : af → Nat} {wfF : aL → Prop} {szF : aL → Nat} (tt tf ti ts tb tl : TypeId) (hi : P.underlying ti = some (.int .i64)) (hs : P.underlying ts = some .string) (hb : P.underlying tb = some .bool)
  (hl : P.underlying tl = some (.slice tf)) (hu : mS P tf = true) (hu' : mS P tt = true)
  (hL : fieldsOf P tf = [nP P tf 0, nP P tf 1, nP P tf 2, nP P tf 3]) (hL' : fieldsOf P tt = [nP P tt 0, nP P tt 1, nP P tt 2]) (hz : P.cellsOf tf = 6 ∧ P.cellsOf tt = 3 ∧ P.cellsOf ti = 1 ∧ P.cellsOf ts = 1 ∧ P.cellsOf tb = 1) (hzl : P.cellsOf tl = 1)
  (ht : (nP P tf 0).type = ti ∧ (nP P tf 1).type = ts ∧ (nP P tf 2).type = tb ∧ (nP P tf 3).type = tt)
  (ho : (nP P tf 0).offset = 0 ∧ (nP P tf 1).offset = 1 ∧ (nP P tf 2).offset = 2 ∧ (nP P tf 3).offset = 3)
  (ht' : (nP P tt 0).type = ti ∧ (nP P tt 1).type = ti ∧ (nP P tt 2).type = tl)
  (ho' : (nP P tt 0).offset = 0 ∧ (nP P tt 1).offset = 1 ∧ (nP P tt 2).offset = 2)
  (hwf : ∀ i n q t, xJ i → wfT t → wfF ⟨i, n, q, t⟩) (hsz : ∀ i n q t, szF ⟨i, n, q, t⟩ ≤ n.size + szT t + 4)
  (hwf' : ∀ k s fs, xJ k → xJ s → (∀ f ∈ fs, wfF f) → wfT ⟨k, s, fs⟩) (hsz' : ∀ k s fs, szT ⟨k, s, fs⟩ ≤ (fs.map szF).sum + 4) :
  ∀ N, qM B P N tt af.cells wfT szT := by
 intro N
 induction N using Nat.strongRecOn with
 | _ N ih =>
  have hF : ∀ N', N' ≤ N → qM B P N' tf af.fcell wfF szF := fun N' h => IY tt tf ti ts tb hi hs hb hu hL hz ht ho hwf hsz (fun N'' h'' => ih N'' (by omega))
  obtain ⟨t0, t1, t2⟩ := ht'
  obtain ⟨o0, o1, o2⟩ := ho'
  obtain ⟨z0, z1, z2, z3, z4⟩ := hz
  refine qM.structF (α := af) (cells := af.cells) (wf' := wfT) (size := szT) hu' hL' (by simp [t0, t1, t2, z1, z2, hzl]) (fun N' hN' =>
   yB.cons (c1 := fun n : Int => [PV.s (.int .i64 n)]) o0 (fun x => by rw [t0, z2]; rfl) (qM.int (by rw [t0]; exact hi))
    (yB.cons (c1 := fun n : Int => [PV.s (.int .i64 n)]) (by rw [o1, t0, z2]) (fun x => by rw [t1, z2]; rfl) (qM.int (by rw [t1]; exact hi))
     (yB.cons (c1 := fun xs : List aL => [PV.ro (xs.map af.fcell)]) (by rw [o2, t0, t1, z2]) (fun x => by rw [t2, hzl]; rfl)
      (qM.slice (e := tf) (by rw [t2]; exact hl) (fun x => by rw [z0]; obtain ⟨_, _, _, ⟨_, _, _⟩⟩ := x; rfl) (by omega) (fun N'' hN'' => hF N'' (by omega))) yB.nil)))
   (fun y => (⟨y.1, y.2.1, y.2.2.1⟩ : af)) (fun y => ?_) (fun y h => hwf' _ _ _ h.1 h.2.1 h.2.2.1) (fun y => ?_)
  ·simp only [af.cells, af.fcells_eq]
   rfl
  ·have := hsz' y.1 y.2.1 y.2.2.1
   exact Nat.le_trans this (by show _ ≤ 1 + (1 + ((y.2.2.1.map szF).sum + 1 + 0)) + 1; omega)
theorem B7 {w : World} {v : Value} {x : af} (h : aK ⟨fun _ => none, fun _ => False⟩ w [] v (.ag ((af.cells x).map .pv))) : aK ⟨fun _ => none, fun _ => False⟩ w [] v (.ag [ci x.kind, ci x.scale, cl ay x.fields]) := by
 cases x; exact h
end Go.SX
namespace Go.SX
open Go
end Go.SX
namespace Go.SX
open Go
end Go.SX
namespace Go.SX
open Go
end Go.SX
