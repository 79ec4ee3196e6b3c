/- The framework SX, first part: abstract values, their relation to the model's worlds, contracts. Nothing here speaks of one program. -/
import Derived.WalkKit
import Derived.ProofKit
import Derived.Test.YtdkmclmdemngfaaDoorSxGlob
namespace Go.SX
open Go
set_option linter.unusedVariables false
set_option linter.unusedSimpArgs false
set_option linter.unnecessarySimpa false

/-- pure one-cell values: scalars; read-only slices (elements, each a list of cells; nil counts as empty); pointers into read-only memory; closures over pure values -/
inductive PV where
  | s (v : Value)
  | ro (els : List (List PV))
  | rp (els : List (List PV)) (i off : Nat)
  | fn (f : Nat) (caps : List PV)
  deriving Inhabited

/-- one-cell values: pure ones; pointers and slices into mutable objects (by number); closures -/
inductive CV where
  | pv (p : PV)
  | pt (id sz i off : Nat)
  | sl (id sz off len : Nat)
  | fn (f : Nat) (caps : List CV)
  | mp (id : Nat)
  deriving Inhabited

inductive Body where
  | dead
  | box (cells : List CV)
  | arr (sz : Nat) (els : List (List PV))
  | raw (o : Obj)
  deriving Inhabited

abbrev St := List Body

inductive AV where
  | j
  | one (c : CV)
  | ag (cs : List CV)
  | tp (vs : List AV)
  deriving Inhabited

abbrev AV.sc (v : Value) : AV := .one (.pv (.s v))

abbrev Fr := List (Nat × AV)

def lk : Fr → Nat → AV
  | [], _ => .j
  | (d, av) :: fr, t => bif Nat.beq d t then av else lk fr t

/-- values without addresses -/
def plain : Value → Bool
  | .bool _ | .int _ _ | .float _ _ | .complex _ _ _ | .string _ => true
  | .pointer none | .map none | .chan none | .nilFunc | .nilIface => true
  | .slice none 0 0 => true
  | _ => false

theorem plain_one {v : Value} (h : plain v = true) : v.oneCell' = true := by
  cases v <;> simp_all [plain, Value.oneCell']

def Body.alive (o : Body) : Prop := o ≠ .dead

/-- where the objects lie; and blocks of the callers that may be written later -/
structure IM where
  m : Nat → Option Nat
  amb : Nat → Prop

instance : CoeFun IM (fun _ => Nat → Option Nat) := ⟨IM.m⟩

def Own (ι : IM) (st : St) (b : Nat) : Prop := ∃ id o, st[id]? = some o ∧ o.alive ∧ ι id = some b

def Mut (ι : IM) (st : St) (b : Nat) : Prop := ι.amb b ∨ Own ι st b

/-- pure values: μ tells which blocks may be written -/
inductive PRel (μ : Nat → Prop) (w : World) : Value → PV → Prop where
  | s (v : Value) (h : plain v = true) : PRel μ w v (.s v)
  | nl : PRel μ w (.slice none 0 0) (.ro [])
  | ro (a : Addr) (cap sz : Nat) (els : List (List PV)) (vf : Nat → Nat → Value) (hcap : els.length ≤ cap)
      (hsz : ∀ e ∈ els, e.length = sz)
      (hb : els ≠ [] → a.block < w.heap.size ∧ ¬ μ a.block)
      (hc : ∀ (i : Nat) e (j : Nat) c, els[i]? = some e → e[j]? = some c → w.cell? (a.add (i * sz + j)) = some (vf i j))
      (hv : ∀ (i : Nat) e (j : Nat) c, els[i]? = some e → e[j]? = some c → PRel μ w (vf i j) c) :
      PRel μ w (.slice (some a) els.length cap) (.ro els)
  | rp (a : Addr) (sz : Nat) (els : List (List PV)) (i off : Nat) (vf : Nat → Nat → Value)
      (hsz : ∀ e ∈ els, e.length = sz)
      (hb : els ≠ [] → a.block < w.heap.size ∧ ¬ μ a.block)
      (hc : ∀ (i : Nat) e (j : Nat) c, els[i]? = some e → e[j]? = some c → w.cell? (a.add (i * sz + j)) = some (vf i j))
      (hv : ∀ (i : Nat) e (j : Nat) c, els[i]? = some e → e[j]? = some c → PRel μ w (vf i j) c) :
      PRel μ w (.pointer (some (a.add (i * sz + off)))) (.rp els i off)
  | fn (f : Nat) (caps : List PV) (vs : List Value) (hl : vs.length = caps.length)
      (hv : ∀ (j : Nat) c v, caps[j]? = some c → vs[j]? = some v → PRel μ w v c) :
      PRel μ w (.func (.func f) #[] vs.toArray) (.fn f caps)

inductive VRel (ι : IM) (w : World) (st : St) : Value → CV → Prop where
  | pv (v : Value) (p : PV) (h : PRel (Mut ι st) w v p) : VRel ι w st v (.pv p)
  | pt (id sz i off b : Nat) (hid : id < st.length) (hb : ι id = some b) :
      VRel ι w st (.pointer (some ⟨b, i * sz + off, none⟩)) (.pt id sz i off)
  | sl (id sz off len b cap : Nat) (hid : id < st.length) (hb : ι id = some b) (hcap : len ≤ cap)
      (hc : ∃ (c : Array Value) (ty : TypeId) (fz : Nat × Nat), w.heap[b]? = some (.cells c ty fz) ∧ (off + cap) * sz ≤ c.size) :
      VRel ι w st (.slice (some ⟨b, off * sz, none⟩) len cap) (.sl id sz off len)
  | sn (id sz : Nat) (hid : id < st.length) (hb : ι id = none) : VRel ι w st (.slice none 0 0) (.sl id sz 0 0)
  | mp (id b : Nat) (hid : id < st.length) (hb : ι id = some b) : VRel ι w st (.map (some b)) (.mp id)
  | fn (f : Nat) (caps : List CV) (vs : List Value) (hl : vs.length = caps.length)
      (hv : ∀ (j : Nat) c v, caps[j]? = some c → vs[j]? = some v → VRel ι w st v c) :
      VRel ι w st (.func (.func f) #[] vs.toArray) (.fn f caps)

theorem PRel.oneCell {μ : Nat → Prop} {w : World} {v : Value} {p : PV} (h : PRel μ w v p) : v.oneCell' = true := by
  cases h with
  | s v h => exact plain_one h
  | _ => rfl

theorem VRel.oneCell {ι : IM} {w : World} {st : St} {v : Value} {c : CV} (h : VRel ι w st v c) : v.oneCell' = true := by
  cases h with
  | pv v p h => exact h.oneCell
  | _ => rfl

/-- cell by cell -/
def LRel (ι : IM) (w : World) (st : St) (vs : List Value) (cs : List CV) : Prop :=
  vs.length = cs.length ∧ ∀ (j : Nat) v c, vs[j]? = some v → cs[j]? = some c → VRel ι w st v c

inductive AVRel (ι : IM) (w : World) (st : St) : Value → AV → Prop where
  | j (v : Value) : AVRel ι w st v .j
  | one (v : Value) (c : CV) (h : VRel ι w st v c) : AVRel ι w st v (.one c)
  | ag (vs : List Value) (cs : List CV) (h : LRel ι w st vs cs) : AVRel ι w st (.agg vs.toArray) (.ag cs)
  | tp (vs : List Value) (as : List AV) (hl : vs.length = as.length) (h : ∀ (j : Nat) v a, vs[j]? = some v → as[j]? = some a → AVRel ι w st v a) :
      AVRel ι w st (.tuple vs.toArray) (.tp as)

def ObjRel (ι : IM) (w : World) (st : St) (id : Nat) : Body → Prop
  | .dead => True
  | .box cells => ∃ b vs ty, ι id = some b ∧ w.heap[b]? = some (.cells vs.toArray ty (0, 0)) ∧ LRel ι w st vs cells
  | .raw o => ∃ b, ι id = some b ∧ w.heap[b]? = some o
  | .arr sz els => (ι id = none ∧ els = []) ∨ ∃ b c ty, ι id = some b ∧ w.heap[b]? = some (.cells c ty (0, 0)) ∧ els.length * sz ≤ c.size ∧ (∀ e ∈ els, e.length = sz) ∧
      (∀ (i : Nat) e (j : Nat) p, els[i]? = some e → e[j]? = some p → ∃ v, c[i * sz + j]? = some v ∧ PRel (Mut ι st) w v p)

structure Rel (ι : IM) (w : World) (st : St) : Prop where
  obj : ∀ (id : Nat) o, st[id]? = some o → ObjRel ι w st id o
  amb : ∀ b, ι.amb b → b < w.heap.size
  dis : ∀ b, Own ι st b → ¬ ι.amb b
  inj : ∀ (id id' : Nat) o o' b, st[id]? = some o → st[id']? = some o' → o.alive → o'.alive → ι id = some b → ι id' = some b → id = id'
  gl : ∀ (b : Nat) (l : List Value), glob b = some l → ¬ Mut ι st b ∧ b < w.heap.size ∧ ∀ (i : Nat) v, l[i]? = some v → w.cell? ⟨b, i, none⟩ = some v

/-- what lies in no block that may be written stays; the numbers for which 'fix' holds stay where they are -/
structure Keeps (fix : Nat → Prop) (ι : IM) (w : World) (st : St) (ι' : IM) (w' : World) (st' : St) : Prop where
  os : w'.os = w.os
  tape : w'.tape = w.tape
  output : w'.output = w.output
  size : w.heap.size ≤ w'.heap.size
  amb : ι'.amb = ι.amb
  blk : ∀ b : Nat, b < w.heap.size → ¬ Own ι st b → w'.heap[b]? = w.heap[b]? ∧ ¬ Own ι' st' b
  map : ∀ id, fix id → id < st.length → id < st'.length ∧ ι' id = ι id
  shp : ∀ (b : Nat) (c : Array Value) (ty : TypeId) (fz : Nat × Nat), w.heap[b]? = some (.cells c ty fz) → ∃ c' : Array Value, w'.heap[b]? = some (.cells c' ty fz) ∧ c'.size = c.size

abbrev all : Nat → Prop := fun _ => True

/-- what the package's variables hold, they hold -/
theorem Rel.glk {fix : Nat → Prop} {ι ι' : IM} {w w' : World} {st st' : St} (r : Rel ι w st) (k : Keeps fix ι w st ι' w' st') (b : Nat) (l : List Value) (h : glob b = some l) :
    ¬ Mut ι' st' b ∧ b < w'.heap.size ∧ ∀ (i : Nat) v, l[i]? = some v → w'.cell? ⟨b, i, none⟩ = some v := by
  obtain ⟨h1, h2, h5⟩ := r.gl b l h
  obtain ⟨h3, h4⟩ := k.blk b h2 (fun ho => h1 (.inr ho))
  refine ⟨fun hm => hm.elim (fun ha => h1 (.inl (by rw [← k.amb]; exact ha))) h4, Nat.lt_of_lt_of_le h2 k.size, fun i v hv => ?_⟩
  rw [← h5 i v hv]
  simp [World.cell?, h3]

theorem Keeps.refl {fix : Nat → Prop} {ι : IM} {w : World} {st : St} : Keeps fix ι w st ι w st :=
  ⟨rfl, rfl, rfl, Nat.le_refl _, rfl, fun _ _ h => ⟨rfl, h⟩, fun _ _ h => ⟨h, rfl⟩, fun _ c _ _ h => ⟨c, h, rfl⟩⟩

theorem Keeps.trans {fix : Nat → Prop} {ι ι' ι'' : IM} {w w' w'' : World} {st st' st'' : St} (h : Keeps fix ι w st ι' w' st') (k : Keeps fix ι' w' st' ι'' w'' st'') :
    Keeps fix ι w st ι'' w'' st'' where
  os := k.os.trans h.os
  tape := k.tape.trans h.tape
  output := k.output.trans h.output
  size := Nat.le_trans h.size k.size
  amb := k.amb.trans h.amb
  blk b hb hm := by
    obtain ⟨e, n⟩ := h.blk b hb hm
    obtain ⟨e', n'⟩ := k.blk b (Nat.lt_of_lt_of_le hb h.size) n
    exact ⟨e'.trans e, n'⟩
  map id hf hid := by
    obtain ⟨a1, a2⟩ := h.map id hf hid
    obtain ⟨b1, b2⟩ := k.map id hf a1
    exact ⟨b1, b2.trans a2⟩
  shp b c ty fz hb := by
    obtain ⟨c1, e1, s1⟩ := h.shp b c ty fz hb
    obtain ⟨c2, e2, s2⟩ := k.shp b c1 ty fz e1
    exact ⟨c2, e2, s2.trans s1⟩

theorem Keeps.weaken {fix fix' : Nat → Prop} {ι ι' : IM} {w w' : World} {st st' : St} (h : Keeps fix ι w st ι' w' st') (hm : ∀ id, fix' id → fix id) : Keeps fix' ι w st ι' w' st' :=
  ⟨h.os, h.tape, h.output, h.size, h.amb, h.blk, fun id hf hid => h.map id (hm id hf) hid, h.shp⟩

theorem cell?_same {w w' : World} {a : Addr} (h : w'.heap[a.block]? = w.heap[a.block]?) : w'.cell? a = w.cell? a := by simp [World.cell?, h]

theorem add_block (a : Addr) (n : Nat) : (a.add n).block = a.block := by unfold Addr.add; split <;> rfl

theorem add_add (a : Addr) (m n : Nat) : (a.add m).add n = a.add (m + n) := by
  unfold Addr.add
  by_cases hm : m = 0 <;> by_cases hn : n = 0 <;> simp [hm, hn, Nat.add_assoc]

/-- pure values: what lies in blocks that are not written stays -/
theorem PRel.mono {μ μ' : Nat → Prop} {w w' : World} (hs : w.heap.size ≤ w'.heap.size) (hk : ∀ b : Nat, b < w.heap.size → ¬ μ b → w'.heap[b]? = w.heap[b]? ∧ ¬ μ' b) {v : Value} {p : PV} (h : PRel μ w v p) : PRel μ' w' v p := by
  induction h with
  | s v h => exact .s v h
  | nl => exact .nl
  | ro a cap sz els vf hcap hsz hb hc hv ih =>
    refine .ro a cap sz els vf hcap hsz (fun he => ?_) (fun i e j c h1 h2 => ?_) ih
    · obtain ⟨h1, h2⟩ := hb he
      exact ⟨Nat.lt_of_lt_of_le h1 hs, (hk _ h1 h2).2⟩
    · obtain ⟨h3, h4⟩ := hb (by rintro rfl; simp at h1)
      rw [cell?_same (w := w) (w' := w')]
      · exact hc i e j c h1 h2
      · rw [add_block]; exact (hk _ h3 h4).1
  | rp a sz els i off vf hsz hb hc hv ih =>
    refine .rp a sz els i off vf hsz (fun he => ?_) (fun i e j c h1 h2 => ?_) ih
    · obtain ⟨h1, h2⟩ := hb he
      exact ⟨Nat.lt_of_lt_of_le h1 hs, (hk _ h1 h2).2⟩
    · obtain ⟨h3, h4⟩ := hb (by rintro rfl; simp at h1)
      rw [cell?_same (w := w) (w' := w')]
      · exact hc i e j c h1 h2
      · rw [add_block]; exact (hk _ h3 h4).1
  | fn f caps vs hl hv ih => exact .fn f caps vs hl ih

theorem Keeps.pure {fix : Nat → Prop} {ι ι' : IM} {w w' : World} {st st' : St} (k : Keeps fix ι w st ι' w' st') {v : Value} {p : PV} (h : PRel (Mut ι st) w v p) : PRel (Mut ι' st') w' v p :=
  h.mono k.size (fun b hb hm => ⟨(k.blk b hb (fun ho => hm (.inr ho))).1, fun hm' => Or.elim hm' (fun ha => hm (.inl (by rw [← k.amb]; exact ha))) (fun ho => (k.blk b hb (fun ho' => hm (.inr ho'))).2 ho)⟩)

/-- the numbers in a value -/
def idsC (q : Nat → Bool) : CV → Bool
  | .pv _ => true
  | .pt id _ _ _ => q id
  | .mp id => q id
  | .sl id _ _ _ => q id
  | .fn _ caps => go caps
  where
  go : List CV → Bool
    | [] => true
    | c :: l => idsC q c && go l

def idsL (q : Nat → Bool) : List CV → Bool
  | [] => true
  | c :: l => idsC q c && idsL q l

def idsA (q : Nat → Bool) : AV → Bool
  | .j => true
  | .one c => idsC q c
  | .ag cs => idsL q cs
  | .tp vs => go vs
  where
  go : List AV → Bool
    | [] => true
    | a :: l => idsA q a && go l

theorem idsC_go {q : Nat → Bool} : ∀ {l : List CV}, idsC.go q l = true → ∀ (j : Nat) c, l[j]? = some c → idsC q c = true
  | [], _, j, c, h => by simp at h
  | x :: l, h, j, c, hj => by
    simp only [idsC.go, Bool.and_eq_true] at h
    cases j with
    | zero => simp at hj; subst hj; exact h.1
    | succ j => exact idsC_go h.2 j c (by simpa using hj)

theorem idsL_get {q : Nat → Bool} : ∀ {l : List CV}, idsL q l = true → ∀ (j : Nat) c, l[j]? = some c → idsC q c = true
  | [], _, j, c, h => by simp at h
  | x :: l, h, j, c, hj => by
    simp only [idsL, Bool.and_eq_true] at h
    cases j with
    | zero => simp at hj; subst hj; exact h.1
    | succ j => exact idsL_get h.2 j c (by simpa using hj)

theorem idsA_go {q : Nat → Bool} : ∀ {l : List AV}, idsA.go q l = true → ∀ (j : Nat) a, l[j]? = some a → idsA q a = true
  | [], _, j, c, h => by simp at h
  | x :: l, h, j, c, hj => by
    simp only [idsA.go, Bool.and_eq_true] at h
    cases j with
    | zero => simp at hj; subst hj; exact h.1
    | succ j => exact idsA_go h.2 j c (by simpa using hj)

/-- a value whose numbers stay, stays -/
theorem VRel.mono {fix : Nat → Prop} {ι ι' : IM} {w w' : World} {st st' : St} (k : Keeps fix ι w st ι' w' st') {q : Nat → Bool} (hq : ∀ id, q id = true → id < st.length → fix id) {v : Value} {c : CV} (h : VRel ι w st v c) : idsC q c = true → VRel ι' w' st' v c := by
  induction h with
  | pv v p h => exact fun _ => .pv v p (k.pure h)
  | pt id sz i off b hid hb =>
    intro hi
    obtain ⟨a1, a2⟩ := k.map id (hq id hi hid) hid
    exact .pt id sz i off b a1 (a2.trans hb)
  | sl id sz off len b cap hid hb hcap hc =>
    intro hi
    obtain ⟨a1, a2⟩ := k.map id (hq id hi hid) hid
    obtain ⟨c, ty, fz, h1, h2⟩ := hc
    obtain ⟨c', h3, h4⟩ := k.shp _ c ty fz h1
    exact .sl id sz off len b cap a1 (a2.trans hb) hcap ⟨c', ty, fz, h3, by omega⟩
  | sn id sz hid hb =>
    intro hi
    obtain ⟨a1, a2⟩ := k.map id (hq id hi hid) hid
    exact .sn id sz a1 (a2.trans hb)
  | mp id b hid hb =>
    intro hi
    obtain ⟨a1, a2⟩ := k.map id (hq id hi hid) hid
    exact .mp id b a1 (a2.trans hb)
  | fn f caps vs hl hv ih =>
    intro hi
    simp only [idsC] at hi
    exact .fn f caps vs hl (fun j c v h1 h2 => ih j c v h1 h2 (idsC_go hi j c h1))

theorem LRel.mono {fix : Nat → Prop} {ι ι' : IM} {w w' : World} {st st' : St} (k : Keeps fix ι w st ι' w' st') {q : Nat → Bool} (hq : ∀ id, q id = true → id < st.length → fix id) {vs : List Value} {cs : List CV} (h : LRel ι w st vs cs) (hi : idsL q cs = true) : LRel ι' w' st' vs cs :=
  ⟨h.1, fun j v c h1 h2 => (h.2 j v c h1 h2).mono k hq (idsL_get hi j c h2)⟩

theorem AVRel.mono {fix : Nat → Prop} {ι ι' : IM} {w w' : World} {st st' : St} (k : Keeps fix ι w st ι' w' st') {q : Nat → Bool} (hq : ∀ id, q id = true → id < st.length → fix id) {v : Value} {a : AV} (h : AVRel ι w st v a) : idsA q a = true → AVRel ι' w' st' v a := by
  induction h with
  | j v => exact fun _ => .j v
  | one v c h => exact fun hi => .one v c (h.mono k hq hi)
  | ag vs cs h => exact fun hi => .ag vs cs (h.mono k hq hi)
  | tp vs as hl h ih =>
    intro hi
    simp only [idsA] at hi
    exact .tp vs as hl (fun j v a h1 h2 => ih j v a h1 h2 (idsA_go hi j a h2))

/-! ### where every number stays -/

theorem idsC_true : ∀ c : CV, idsC (fun _ => true) c = true
  | .pv _ => rfl
  | .pt _ _ _ _ => rfl
  | .mp _ => rfl
  | .sl _ _ _ _ => rfl
  | .fn _ caps => by simp only [idsC]; exact go caps
  where
  go : ∀ l : List CV, idsC.go (fun _ => true) l = true
    | [] => rfl
    | c :: l => by simp only [idsC.go, idsC_true c, go l, Bool.and_self]

theorem idsL_true : ∀ l : List CV, idsL (fun _ => true) l = true
  | [] => rfl
  | c :: l => by simp only [idsL, idsC_true c, idsL_true l, Bool.and_self]

theorem idsA_true : ∀ a : AV, idsA (fun _ => true) a = true
  | .j => rfl
  | .one c => idsC_true c
  | .ag cs => idsL_true cs
  | .tp vs => by simp only [idsA]; exact go vs
  where
  go : ∀ l : List AV, idsA.go (fun _ => true) l = true
    | [] => rfl
    | c :: l => by simp only [idsA.go, idsA_true c, go l, Bool.and_self]

theorem VRel.mono' {ι ι' : IM} {w w' : World} {st st' : St} (k : Keeps all ι w st ι' w' st') {v : Value} {c : CV} (h : VRel ι w st v c) : VRel ι' w' st' v c :=
  h.mono k (q := fun _ => true) (fun _ _ _ => trivial) (idsC_true c)
theorem LRel.mono' {ι ι' : IM} {w w' : World} {st st' : St} (k : Keeps all ι w st ι' w' st') {vs : List Value} {cs : List CV} (h : LRel ι w st vs cs) : LRel ι' w' st' vs cs :=
  h.mono k (q := fun _ => true) (fun _ _ _ => trivial) (idsL_true cs)
theorem AVRel.mono' {ι ι' : IM} {w w' : World} {st st' : St} (k : Keeps all ι w st ι' w' st') {v : Value} {a : AV} (h : AVRel ι w st v a) : AVRel ι' w' st' v a :=
  h.mono k (q := fun _ => true) (fun _ _ _ => trivial) (idsA_true a)

/-- the frame: n slots -/
structure FRel (n : Nat) (ι : IM) (w : World) (st : St) (a : Act) (fr : Fr) : Prop where
  defers : a.defers = []
  size : a.tmps.size = n
  slot : ∀ t, AVRel ι w st (a.tmps.getD t undef) (lk fr t)

theorem FRel.mono' {n : Nat} {ι ι' : IM} {w w' : World} {st st' : St} (k : Keeps all ι w st ι' w' st') {a : Act} {fr : Fr} (h : FRel n ι w st a fr) : FRel n ι' w' st' a fr :=
  ⟨h.defers, h.size, fun t => (h.slot t).mono' k⟩

/-- the entries whose numbers stay -/
def keepF (q : Nat → Bool) : Fr → Fr
  | [] => []
  | (d, av) :: fr => (d, bif idsA q av then av else .j) :: keepF q fr

theorem lk_keepF (q : Nat → Bool) : ∀ (fr : Fr) (t : Nat), lk (keepF q fr) t = (bif idsA q (lk fr t) then lk fr t else .j)
  | [], t => rfl
  | (d, av) :: fr, t => by
    simp only [keepF, lk]
    cases Nat.beq d t with
    | true => rfl
    | false => exact lk_keepF q fr t

theorem FRel.keep {fix : Nat → Prop} {n : Nat} {ι ι' : IM} {w w' : World} {st st' : St} (k : Keeps fix ι w st ι' w' st') {q : Nat → Bool} (hq : ∀ id, q id = true → id < st.length → fix id) {a : Act} {fr : Fr} (h : FRel n ι w st a fr) :
    FRel n ι' w' st' a (keepF q fr) := by
  refine ⟨h.defers, h.size, fun t => ?_⟩
  rw [lk_keepF]
  cases hi : idsA q (lk fr t) with
  | false => exact .j _
  | true => exact (h.slot t).mono k hq hi

theorem FRel.put {n : Nat} {ι : IM} {w : World} {st : St} {a : Act} {fr : Fr} (h : FRel n ι w st a fr) {d : Nat} (hd : d < n) {v : Value} {av : AV} (hv : AVRel ι w st v av) :
    FRel n ι w st (a.put (some d) v) ((d, av) :: fr) := by
  refine ⟨h.defers, by simp [Act.put, h.size], fun t => ?_⟩
  simp only [lk, Act.put]
  by_cases e : d = t
  · subst e
    have : (a.tmps.setIfInBounds d v).getD d undef = v := by simp [h.size, hd]
    simp only [Nat.beq_refl, cond_true]
    rw [this]; exact hv
  · have h1 : (a.tmps.setIfInBounds d v).getD t undef = a.tmps.getD t undef := by simp [e]
    have h2 : Nat.beq d t = false := by cases hq : Nat.beq d t with | false => rfl | true => exact absurd (Nat.eq_of_beq_eq_true hq) e
    rw [h1, h2, cond_false]; exact h.slot t

/-- values of arguments -/
def ARel (ι : IM) (w : World) (st : St) (vs : List Value) (as : List AV) : Prop :=
  vs.length = as.length ∧ ∀ (j : Nat) v a, vs[j]? = some v → as[j]? = some a → AVRel ι w st v a

/-- THE CONTRACT of a function at abstract arguments and store: objects other than the 'loose' ones stay in their blocks -/
def AC (P : Program) (f : Nat) (args : List AV) (st : St) (loose : List Nat) (R : AV → St → Prop) : Prop :=
  ∀ ι w vs, Rel ι w st → ARel ι w st vs args →
    Calls P f vs.toArray w fun e w' => ∃ v av st' ι', e = .returned v ∧ R av st' ∧ Rel ι' w' st' ∧ AVRel ι' w' st' v av ∧ Keeps (fun id => id ∉ loose) ι w st ι' w' st'

theorem AC.mono {P : Program} {f : Nat} {args : List AV} {st : St} {loose : List Nat} {R R' : AV → St → Prop} (h : AC P f args st loose R) (hr : ∀ av s, R av s → R' av s) : AC P f args st loose R' :=
  fun ι w vs hR hA => (h ι w vs hR hA).mono fun _ _ ⟨v, av, st', ι', h1, h2, h3⟩ => ⟨v, av, st', ι', h1, hr _ _ h2, h3⟩

/-- a contract of a function of pure values -/
def PC (P : Program) (f : Nat) (args : List AV) (r : AV) : Prop := AC P f args [] [] fun av s => av = r ∧ s = []

end Go.SX
