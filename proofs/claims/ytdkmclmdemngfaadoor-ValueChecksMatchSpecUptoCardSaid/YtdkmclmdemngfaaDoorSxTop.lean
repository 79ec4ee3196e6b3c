/- SX: the way from a given row to a contract of pure values: reading the arguments, and closing the row. -/
import Derived.Test.YtdkmclmdemngfaaDoorSxGen
import Derived.OpenShut
import Derived.JoinedCond
import Derived.WideKeyArgs
namespace Go.SX
open Go
set_option linter.unusedVariables false
set_option linter.unusedSimpArgs false
set_option linter.unnecessarySimpa false

/-- a measure of readings -/
structure Bulk where
  f : {H : Type} → DataW H → Nat
  one : ∀ {H : Type} (d : DataW H), 1 ≤ f d
  str : ∀ {H : Type} (b : List UInt8), b.length + 1 ≤ f (DataW.lit (H := H) (.string b))
  sl : ∀ {H : Type} (e s : List (DataW H)), (e.map f).sum + 1 ≤ f (.slice e s)
  ag : ∀ {H : Type} (ps : List (DataW H)), (ps.map f).sum + 1 ≤ f (.agg ps)

/-- nothing is written -/
abbrev noMut : Nat → Prop := fun _ => False

/-- cells read as pure values -/
def RdOk (w : World) (cs : List Value) (ps : List PV) : Prop :=
  cs.length = ps.length ∧ ∀ (j : Nat) v p, cs[j]? = some v → ps[j]? = some p → PRel noMut w v p

theorem RdOk.one {w : World} {v : Value} {p : PV} (h : PRel noMut w v p) : RdOk w [v] [p] := by
  refine ⟨rfl, fun j v' p' h1 h2 => ?_⟩
  cases j with
  | zero => simp at h1 h2; subst h1; subst h2; exact h
  | succ j => simp at h1

theorem RdOk.nil {w : World} : RdOk w [] [] := ⟨rfl, fun j v p h => by simp at h⟩

theorem RdOk.app {w : World} {cs : List Value} {p q : List PV} {n : Nat} (h : RdOk w (cs.take n) p) (k : RdOk w (cs.drop n) q) (hn : p.length = n) : RdOk w cs (p ++ q) := by
  have e : cs = cs.take n ++ cs.drop n := (List.take_append_drop n cs).symm
  refine ⟨?_, fun j v x h1 h2 => ?_⟩
  · have h1 := h.1; have h2 := k.1
    rw [List.length_append, ← h1, ← h2, ← List.length_append, ← e]
  · by_cases hj : j < n
    · rw [List.getElem?_append_left (by omega)] at h2
      refine h.2 j v x ?_ h2
      rw [List.getElem?_take, if_pos hj]; exact h1
    · rw [List.getElem?_append_right (by omega)] at h2
      refine k.2 (j - n) v x ?_ (by rw [← hn]; exact h2)
      rw [List.getElem?_drop, show n + (j - n) = j by omega]; exact h1

section
variable (B : Bulk) (P : Program)

/-- a reading of type t, of measure at most N, is one of α -/
def RdB (N : Nat) (t : TypeId) {α : Type} (cells : α → List PV) (wf : α → Prop) (size : α → Nat) : Prop :=
  ∀ ⦃H : Type⦄ ⦃enc : TypeId × Value → H⦄ ⦃w : World⦄ ⦃base : Nat⦄ ⦃spare : Nat → Bool⦄ ⦃held : Bool⦄ ⦃fuel : Nat⦄ ⦃cs : List Value⦄ ⦃d : DataW H⦄ ⦃ps : List MemPlace⦄,
    DataW.trod enc P w base spare held fuel t cs = some (d, ps) → B.f d ≤ N → ∃ x, RdOk w cs (cells x) ∧ wf x ∧ size x ≤ B.f d

variable {B P}

theorem RdB.int {N : Nat} {t : TypeId} {k : IntKind} (ht : P.underlying t = some (.int k)) : RdB B P N t (fun n : Int => [.s (.int k n)]) (fun n => k.min ≤ n ∧ n ≤ k.max) (fun _ => 1) := by
  intro H enc w base spare held fuel cs d ps h hN
  obtain ⟨n, rfl, hx, hw⟩ := DataW.trod_int ht h
  refine ⟨n, .one (.s _ rfl), ?_, B.one d⟩
  simpa [Lit.wf] using hw

theorem RdB.bool {N : Nat} {t : TypeId} (ht : P.underlying t = some .bool) : RdB B P N t (fun b : Bool => [.s (.bool b)]) (fun _ => True) (fun _ => 1) := by
  intro H enc w base spare held fuel cs d ps h hN
  obtain ⟨b, rfl, hx⟩ := DataW.trod_bool ht h
  exact ⟨b, .one (.s _ rfl), trivial, B.one d⟩

theorem RdB.str {N : Nat} {t : TypeId} (ht : P.underlying t = some .string) : RdB B P N t (fun s : ByteArray => [.s (.string s)]) (fun _ => True) (fun s => s.size + 1) := by
  intro H enc w base spare held fuel cs d ps h hN
  obtain ⟨s, rfl, hx, hs⟩ := DataW.trod_string ht h
  simp only [Prod.mk.injEq] at hx
  obtain ⟨rfl, rfl⟩ := hx
  refine ⟨s, .one (.s _ rfl), trivial, ?_⟩
  have := B.str (H := H) s.data.toList
  simpa using this

theorem cell_lt {w : World} {a : Addr} {v : Value} (h : w.cell? a = some v) : a.block < w.heap.size := by
  unfold World.cell? at h
  split at h
  · rename_i h1; exact (Array.getElem?_eq_some_iff.1 h1).1
  · cases h

theorem sum_ge {α : Type} {f : α → Nat} {l : List α} {x : α} (h : x ∈ l) : f x ≤ (l.map f).sum := by
  induction l with
  | nil => cases h
  | cons y l ih =>
    simp only [List.map_cons, List.sum_cons]
    rcases List.mem_cons.1 h with rfl | h
    · omega
    · have := ih h; omega

theorem choose_list {α β : Type} {q : Nat → α → β → Prop} : ∀ {l : List α} , (∀ (i : Nat) a, l[i]? = some a → ∃ b, q i a b) → ∃ bs : List β, bs.length = l.length ∧ ∀ (i : Nat) a b, l[i]? = some a → bs[i]? = some b → q i a b := by
  intro l
  induction l generalizing q with
  | nil => intro _; exact ⟨[], rfl, fun i a b h => by simp at h⟩
  | cons x l ih =>
    intro h
    obtain ⟨b0, h0⟩ := h 0 x rfl
    obtain ⟨bs, hl, hb⟩ := ih (q := fun i => q (i + 1)) (fun i a hi => h (i + 1) a (by simpa using hi))
    refine ⟨b0 :: bs, by simp [hl], fun i a b h1 h2 => ?_⟩
    cases i with
    | zero => simp at h1 h2; subst h1; subst h2; exact h0
    | succ i => exact hb i a b (by simpa using h1) (by simpa using h2)

theorem sum_le_of {α β : Type} {f : α → Nat} {g : β → Nat} : ∀ {l : List α} {m : List β}, m.length = l.length → (∀ (i : Nat) a b, l[i]? = some a → m[i]? = some b → g b ≤ f a) → (m.map g).sum ≤ (l.map f).sum
  | [], [], _, _ => by simp
  | [], _ :: _, h, _ => by simp at h
  | _ :: _, [], h, _ => by simp at h
  | a :: l, b :: m, h, hk => by
    have h0 := hk 0 a b rfl rfl
    have := sum_le_of (f := f) (g := g) (l := l) (m := m) (by simpa using h) (fun i x y h1 h2 => hk (i + 1) x y (by simpa using h1) (by simpa using h2))
    simp only [List.map_cons, List.sum_cons]
    omega

theorem RdB.slice {N : Nat} {t e : TypeId} {α : Type} {cells : α → List PV} {wf : α → Prop} {size : α → Nat} (ht : P.underlying t = some (.slice e)) (hc : ∀ x, (cells x).length = P.cellsOf e)
    (hpos : 0 < P.cellsOf e) (h : ∀ N', N' < N → RdB B P N' e cells wf size) :
    RdB B P N t (fun xs : List α => [.ro (xs.map cells)]) (fun xs => ∀ x ∈ xs, wf x) (fun xs => (xs.map size).sum + 1) := by
  intro H enc w base spare held fuel cs d ps hd hN
  rcases DataW.trod_slice ht hd with ⟨rfl, hx⟩ | ⟨a, len, cap, elems, rest, n, _, rfl, hx, hb, hl, hm, hlen, hel, _, _⟩
  · exact ⟨[], .one .nl, by simp, by simpa using B.one d⟩
  simp only [Prod.mk.injEq] at hx
  obtain ⟨rfl, rfl⟩ := hx
  have hsum := B.sl (elems.map (·.1)) (rest.map (·.1))
  have hel' : ∀ (i : Nat) z, elems[i]? = some z → ∃ x : α, (∃ cs', w.cells? base (a.add (i * P.cellsOf e)) (P.cellsOf e) = some cs' ∧ RdOk w cs' (cells x)) ∧ wf x ∧ size x ≤ B.f z.1 := by
    intro i z hz
    have hi : i < len := by rw [← hlen]; exact (List.getElem?_eq_some_iff.1 hz).1
    have hk := hel i hi
    rw [hz] at hk
    obtain ⟨cs', h1, h2⟩ := Option.bind_eq_some_iff.1 hk
    have hle : B.f z.1 ≤ ((elems.map (·.1)).map B.f).sum := sum_ge (f := B.f) (List.mem_map.2 ⟨z, List.mem_of_getElem? hz, rfl⟩)
    obtain ⟨x, k1, k2, k3⟩ := h (B.f z.1) (by omega) (d := z.1) (ps := z.2) h2 (Nat.le_refl _)
    exact ⟨x, ⟨cs', h1, k1⟩, k2, k3⟩
  obtain ⟨xs, hxl, hxs⟩ := choose_list hel'
  have hxlen : xs.length = len := by omega
  have key : ∀ (i : Nat) x, xs[i]? = some x → ∃ z, elems[i]? = some z ∧ (∃ cs', w.cells? base (a.add (i * P.cellsOf e)) (P.cellsOf e) = some cs' ∧ RdOk w cs' (cells x)) ∧ wf x ∧ size x ≤ B.f z.1 := by
    intro i x hx
    have hi : i < elems.length := by rw [← hxl]; exact (List.getElem?_eq_some_iff.1 hx).1
    exact ⟨_, List.getElem?_eq_getElem hi, hxs i _ x (List.getElem?_eq_getElem hi) hx⟩
  refine ⟨xs, .one ?_, ?_, ?_⟩
  · have hcell : ∀ (i : Nat) (ee : List PV) (j : Nat) c, (xs.map cells)[i]? = some ee → ee[j]? = some c → ∃ v, w.cell? (a.add (i * P.cellsOf e + j)) = some v ∧ PRel noMut w v c := by
      intro i ee j c h1 h2
      rw [List.getElem?_map, Option.map_eq_some_iff] at h1
      obtain ⟨x, hx, rfl⟩ := h1
      obtain ⟨z, _, ⟨cs', hcs, hrd⟩, _, _⟩ := key i x hx
      obtain ⟨_, hcl, hcc⟩ := World.cells?_some hcs
      have hj : j < P.cellsOf e := by rw [← hc x]; exact (List.getElem?_eq_some_iff.1 h2).1
      have := hcc j hj
      rw [add_add] at this
      have hget : cs'[j]? = some cs'[j] := List.getElem?_eq_getElem (by omega)
      exact ⟨cs'[j], this.trans hget, hrd.2 j _ c hget h2⟩
    have := PRel.ro (μ := noMut) (w := w) a cap (P.cellsOf e) (xs.map cells) (fun i j => (w.cell? (a.add (i * P.cellsOf e + j))).getD undef) (by simpa [hxlen] using hl)
      (fun ee he => by obtain ⟨x, _, rfl⟩ := List.mem_map.1 he; exact hc x)
      (fun hne => by
        refine ⟨?_, fun h => h⟩
        cases xs with
        | nil => simp at hne
        | cons x0 r0 =>
          have h0 : 0 < (cells x0).length := by rw [hc]; exact hpos
          obtain ⟨v, hv, _⟩ := hcell 0 (cells x0) 0 _ rfl (List.getElem?_eq_getElem h0)
          have := cell_lt hv
          rwa [add_block] at this)
      (fun i ee j c h1 h2 => by obtain ⟨v, hv, _⟩ := hcell i ee j c h1 h2; simp [hv])
      (fun i ee j c h1 h2 => by obtain ⟨v, hv, hr⟩ := hcell i ee j c h1 h2; simpa [hv] using hr)
    rw [List.length_map, hxlen] at this
    exact this
  · intro x hx
    obtain ⟨i, hi, rfl⟩ := List.getElem_of_mem hx
    obtain ⟨_, _, _, k, _⟩ := key i _ (List.getElem?_eq_getElem hi)
    exact k
  · have : (xs.map size).sum ≤ ((elems.map (·.1)).map B.f).sum := by
      rw [List.map_map]
      exact sum_le_of (f := B.f ∘ Prod.fst) (g := size) hxl (fun i z x h1 h2 => (hxs i z x h1 h2).2.2)
    show (xs.map size).sum + 1 ≤ _
    omega

/-- fields one after the other from offset 'off' on: the readings of a struct's parts, laid side by side -/
def FldsAt (P : Program) : Nat → List Field → Bool
  | _, [] => true
  | off, f :: l => Nat.beq f.offset off && FldsAt P (off + P.cellsOf f.type) l

/-- parts of a struct: the first field and the others -/
def RdF (B : Bulk) (P : Program) (N : Nat) (off : Nat) (fs : List Field) {α : Type} (cells : α → List PV) (wf : α → Prop) (size : α → Nat) : Prop :=
  ∀ ⦃H : Type⦄ ⦃enc : TypeId × Value → H⦄ ⦃w : World⦄ ⦃base : Nat⦄ ⦃spare : Nat → Bool⦄ ⦃held : Bool⦄ ⦃n : Nat⦄ ⦃cs : List Value⦄ ⦃xs : List (DataW H × List MemPlace)⦄,
    xs.length = fs.length → (∀ (i : Nat) f, fs[i]? = some f → DataW.trod enc P w base spare held n f.type ((cs.drop f.offset).take (P.cellsOf f.type)) = xs[i]?) → ((xs.map (·.1)).map B.f).sum ≤ N →
    cs.length = off + (fs.map fun f => P.cellsOf f.type).sum →
    ∃ x, RdOk w (cs.drop off) (cells x) ∧ wf x ∧ size x ≤ ((xs.map (·.1)).map B.f).sum

theorem RdF.nil {N off : Nat} : RdF B P N off [] (fun _ : Unit => []) (fun _ => True) (fun _ => 0) := by
  intro H enc w base spare held n cs xs hl h hN hc
  refine ⟨(), ?_, trivial, Nat.zero_le _⟩
  have : cs.drop off = [] := by simp at hc ⊢; omega
  rw [this]
  exact .nil

theorem RdF.cons {N off : Nat} {f : Field} {fs : List Field} {α β : Type} {c1 : α → List PV} {w1 : α → Prop} {s1 : α → Nat} {c2 : β → List PV} {w2 : β → Prop} {s2 : β → Nat} (ho : f.offset = off) (hc : ∀ x, (c1 x).length = P.cellsOf f.type)
    (h : RdB B P N f.type c1 w1 s1) (k : RdF B P N (off + P.cellsOf f.type) fs c2 w2 s2) : RdF B P N off (f :: fs) (fun p : α × β => c1 p.1 ++ c2 p.2) (fun p => w1 p.1 ∧ w2 p.2) (fun p => s1 p.1 + s2 p.2) := by
  intro H enc w base spare held n cs xs hl hx hN hlen
  match xs, hl with
  | z :: zs, hl =>
    simp only [List.map_cons, List.sum_cons] at hN hlen ⊢
    have h0 := hx 0 f rfl
    obtain ⟨x, a1, a2, a3⟩ := h (d := z.1) (ps := z.2) h0 (by omega)
    obtain ⟨y, b1, b2, b3⟩ := k (xs := zs) (cs := cs) (by simpa using hl) (fun i g hg => hx (i + 1) g (by simpa using hg)) (by omega) (by omega)
    refine ⟨(x, y), ?_, ⟨a2, b2⟩, by simp only; omega⟩
    rw [ho] at a1
    refine RdOk.app (n := P.cellsOf f.type) a1 ?_ (hc x)
    rw [List.drop_drop]
    exact b1

theorem RdB.struct {N : Nat} {t : TypeId} {fs : Array Field} {α β : Type} {c : β → List PV} {wf : β → Prop} {s : β → Nat} {cells : α → List PV} {wf' : α → Prop} {size : α → Nat} (ht : P.underlying t = some (.struct fs)) (hsz : P.cellsOf t = 0 + (fs.toList.map fun f => P.cellsOf f.type).sum)
    (h : ∀ N', N' < N → RdF B P N' 0 fs.toList c wf s) (mk : β → α) (h1 : ∀ y, cells (mk y) = c y) (h2 : ∀ y, wf y → wf' (mk y)) (h3 : ∀ y, size (mk y) ≤ s y + 1) : RdB B P N t cells wf' size := by
  intro H enc w base spare held fuel cs d ps hd hN
  obtain ⟨xs, n, _, hx, hlen, hxl, hf⟩ := DataW.trod_struct ht hd
  simp only [Prod.mk.injEq] at hx
  obtain ⟨rfl, rfl⟩ := hx
  have hag := B.ag (xs.map (·.1))
  obtain ⟨y, a1, a2, a3⟩ := h _ (show ((xs.map (·.1)).map B.f).sum < N by omega) (xs := xs) (cs := cs) (by simpa using hxl) (fun i f hi => hf i f (by simpa using hi)) (Nat.le_refl _) (hlen.trans hsz)
  refine ⟨mk y, ?_, h2 y a2, ?_⟩
  · rw [h1]; simpa using a1
  · have := h3 y; omega

theorem RdB.conv {N : Nat} {t : TypeId} {α : Type} {c c' : α → List PV} {wf wf' : α → Prop} {s s' : α → Nat} (h : RdB B P N t c wf s) (h1 : ∀ x, c' x = c x) (h2 : ∀ x, wf x → wf' x) (h3 : ∀ x, s' x ≤ s x) : RdB B P N t c' wf' s' := by
  intro H enc w base spare held fuel cs d ps hd hN
  obtain ⟨x, a1, a2, a3⟩ := h hd hN
  exact ⟨x, by rw [h1]; exact a1, h2 x a2, Nat.le_trans (h3 x) a3⟩

end

/-! ### arguments -/

theorem PRel.toVRel {w : World} {v : Value} {p : PV} (h : PRel noMut w v p) : VRel ⟨fun _ => none, fun _ => False⟩ w [] v (.pv p) :=
  .pv v p (h.mono (Nat.le_refl _) (fun b _ _ => ⟨rfl, fun hm => by
    rcases hm with hm | ⟨id, o, h1, _, _⟩
    · exact hm
    · simp at h1⟩))

theorem arg_one {w : World} {v : Value} {p : PV} (h : RdOk w [v] [p]) : AVRel ⟨fun _ => none, fun _ => False⟩ w [] v (.one (.pv p)) := .one _ _ (h.2 0 v p rfl rfl).toVRel

theorem arg_ag {w : World} {cs : List Value} {ps : List PV} (h : RdOk w cs ps) : AVRel ⟨fun _ => none, fun _ => False⟩ w [] (.agg cs.toArray) (.ag (ps.map .pv)) := by
  refine .ag _ _ ⟨by simpa using h.1, fun j v c h1 h2 => ?_⟩
  rw [List.getElem?_map, Option.map_eq_some_iff] at h2
  obtain ⟨p, h2, rfl⟩ := h2
  exact (h.2 j v p h1 h2).toVRel

/-- an argument of a type: of one cell, or a struct -/
theorem arg_read {B : Bulk} {P : Program} {H : Type} {enc : TypeId × Value → H} {w : World} {base b0 : Nat} {spare : Nat → Bool} {held : Bool} {r : Reach} {t : TypeId} {v : Value} {d : DataW H} {ps : List MemPlace} {α : Type} {cells : α → List PV} {wf : α → Prop} {size : α → Nat}
    (h : ∀ N, RdB B P N t cells wf size) (hval : Value.okWide P w r b0 t v) (hd : DataW.Trod enc P w base spare held t v d ps) :
    ∃ x, RdOk w v.cells.toList (cells x) ∧ wf x ∧ size x ≤ B.f d := by
  obtain ⟨fuel, hd⟩ := hd
  exact h _ hd (Nat.le_refl _)

theorem ok_struct {P : Program} {w : World} {r : Reach} {b0 : Nat} {t : TypeId} {v : Value} {fs : Array Field} (ht : P.underlying t = some (.struct fs)) (hval : Value.okWide P w r b0 t v) : v = .agg v.cells := by
  simp only [Value.okWide, ht] at hval
  obtain ⟨cs, rfl, _⟩ := hval
  rfl

theorem arg_struct {w : World} {v : Value} {ps : List PV} (hv : v = .agg v.cells) (h : RdOk w v.cells.toList ps) : AVRel ⟨fun _ => none, fun _ => False⟩ w [] v (.ag (ps.map .pv)) := by
  have := arg_ag h
  rw [hv]
  simpa [Value.cells] using this

/-- one cell: not a struct, so the value itself -/
theorem arg_cell {w : World} {v : Value} {p : PV} (h : RdOk w v.cells.toList [p]) (hv : ∀ cs, v ≠ .agg cs) : AVRel ⟨fun _ => none, fun _ => False⟩ w [] v (.one (.pv p)) := by
  have e : v.cells = #[v] := by cases v <;> first | rfl | exact absurd rfl (hv _)
  rw [e] at h
  exact arg_one h

theorem ok_cell {P : Program} {w : World} {r : Reach} {b0 : Nat} {t : TypeId} {v : Value} (ht : (match P.underlying t with | some (.int _) => true | some .bool => true | some .string => true | some (.slice _) => true | _ => false) = true) (hval : Value.okWide P w r b0 t v) : ∀ cs, v ≠ .agg cs := by
  rintro cs rfl
  cases hu : P.underlying t with
  | none => simp [hu] at ht
  | some d =>
    cases d <;> simp [hu] at ht <;> simp [Value.okWide, hu, Cell.okWide, Cell.ok] at hval

/-! ### closing -/

structure Kept (w w' : World) : Prop where
  os : w'.os = w.os
  output : w'.output = w.output
  size : w.heap.size ≤ w'.heap.size
  blk : ∀ b : Nat, b < w.heap.size → w'.heap[b]? = w.heap[b]?

theorem PC.call {P : Program} {f : Nat} {args : List AV} {r : AV} (h : PC P f args r) {w : World} {vs : List Value} (hl : vs.length = args.length) (hA : ∀ (j : Nat) v a, vs[j]? = some v → args[j]? = some a → AVRel ⟨fun _ => none, fun _ => False⟩ w [] v a) (hg : ∀ (b : Nat) (l : List Value), glob b = some l → b < w.heap.size ∧ ∀ (i : Nat) v, l[i]? = some v → w.cell? ⟨b, i, none⟩ = some v) :
    Calls P f vs.toArray w fun e w' => ∃ v ι', e = .returned v ∧ AVRel ι' w' [] v r ∧ Kept w w' := by
  refine (h ⟨fun _ => none, fun _ => False⟩ w vs ⟨fun id o h => by simp at h, fun b h => h.elim, fun b h => fun h' => h', fun id id' o o' b h => by simp at h, fun b o h => ⟨fun hm => hm.elim id (fun ⟨_, _, h1, _⟩ => by simp at h1), hg b o h⟩⟩ ⟨hl, hA⟩).mono ?_
  rintro e w' ⟨v, av, st', ι', rfl, ⟨rfl, rfl⟩, hR, hv, k⟩
  refine ⟨v, ι', rfl, hv, k.os, k.output, k.size, fun b hb => (k.blk b hb ?_).1⟩
  rintro ⟨id, o, h1, _⟩
  simp at h1

theorem Kept.keptBut {w w' : World} (k : Kept w w') (may : MemPlace → Prop) : w.keptBut w' may := by
  refine ⟨k.os, k.output, fun i hi => ?_⟩
  rw [k.blk i hi]
  have : w.heap[i]? = some w.heap[i] := Array.getElem?_eq_getElem hi
  rw [this]
  cases w.heap[i] with
  | cells c t fr => exact ⟨rfl, rfl, rfl, fun _ _ => rfl⟩
  | map es clock => exact .inr ⟨rfl, rfl⟩
  | _ => rfl

theorem Kept.frozen {w w' : World} (k : Kept w w') {b off : Nat} (hb : b < w.heap.size) : w'.frozen? ⟨b, off, none⟩ = w.frozen? ⟨b, off, none⟩ := by
  simp [World.frozen?, k.blk b hb]

open Go.ChangeShapes Go.WideElems Go.WideShapes in
theorem stays_all {H : Type} {enc : TypeId × Value → H} {P : Program} {W W' : World} (hl : laidOutB P = true) (k : Kept W W') {sp : Nat → Bool} : ∀ {ts : List TypeId} {vs : List Value} {ds : List (DataW H)} {ps : List MemPlace}, (ts.all fun t => P.readableRec t && Nat.ble (t + 1) P.types.size) = true →
    DataW.TrodAll enc P W 0 (fun _ => true) true ts vs ds ps → (∀ p ∈ ps, p.block < W.heap.size) → (∀ p ∈ ps, sp p.block = true) → DataW.TrodAll enc P W' 0 sp true ts vs ds ps
  | [], _, _, _, _, h, _, _ => by
    obtain ⟨rfl, rfl, rfl⟩ := trodAll_nil h
    exact rfl
  | t :: ts, _, _, _, hr, h, hp, hs => by
    obtain ⟨v, vs1, d, ds1, a, b, rfl, rfl, rfl, h1, h2⟩ := trodAll_cons h
    simp only [List.all_cons, Bool.and_eq_true] at hr
    refine ⟨a, b, Trod_stays hl hr.1.1 (Nat.le_of_ble_eq_true hr.1.2) h1 (fun p hpa => ?_) (fun p hpa => hs p (by simp [hpa])), stays_all hl k hr.2 h2 (fun p hpa => hp p (by simp [hpa])) (fun p hpa => hs p (by simp [hpa])), rfl⟩
    have := hp p (by simp [hpa])
    cases p with
    | cell b off => exact cell?_same (k.blk b this)
    | map b => exact k.blk b this

open Go.ChangeShapes Go.RowKit Go.WideShapes Go.ChangeAt in
/-- the row's end: it returned true and left its arguments alone -/
theorem post_true {H : Type} {enc : TypeId × Value → H} {P : Program} {f : Func} {s : ChangeSpec} {apart fresh handsOn again : Bool} {W W' : World} {args : Array Value} {ds gs : List (DataW H)} {before : List MemPlace}
    (hW : DataW.Whole enc P f.params.toList s.vars apart W args.toList ds gs before) (hl : laidOutB P = true) (hr : (f.params.toList.all fun t => P.readableRec t && Nat.ble (t + 1) P.types.size) = true) (k : Kept W W')
    (hvars : s.vars = []) (t : TypeId) (ht : f.resultTypes = #[t]) (hb : P.underlying t = some .bool) (hsp : s.fn H ds = { results := [.lit (.bool true)], args := ds }) :
    s.post enc P f apart fresh handsOn again W args (.bool true) W' := by
  have hW' := hW
  have hlt : ∀ p ∈ before, p.block < W.heap.size := fun p hp => hW.lt p hp
  obtain ⟨p, q, hA, hV, rfl, hz, hn⟩ := hW'
  rw [hvars] at hV
  obtain ⟨rfl, rfl⟩ := trodVars_none hV
  have hres : ∀ (b : Nat) (sp : Nat → Bool) (hd : Bool), DataW.TrodAll enc P W' b sp hd f.resultTypes.toList ((Value.bool true).resultList f.resultTypes.size) [.lit (.bool true)] [] := by
    intro b sp hd
    rw [ht]
    exact trodAll_cons_mk (shut_bool hb _) trodAll_mk0
  simp only [List.append_nil] at *
  have hargs : ∀ sp : Nat → Bool, (∀ x ∈ p, sp x.block = true) → DataW.TrodAll enc P W' 0 sp true f.params.toList args.toList ds p := fun sp hs => stays_all hl k hr hA hlt hs
  have hold : ∀ x ∈ p, (fun b => decide (b < W.heap.size)) x.block = true := fun x hx => by simpa using hlt x hx
  refine ⟨ds, [], p, [], p, [], by simpa using hW, ?_, ?_, ?_, k.keptBut _, fun _ => ⟨?_, [.lit (.bool true)] ++ ds, [], p, ⟨p, [], ?_, ?_, by simp, ?_, hn⟩, ?_⟩⟩
  · simp only [List.append_nil, hsp]; exact hres _ _ _
  · simp only [List.append_nil, hsp]; exact hargs _ hold
  · simp only [List.append_nil, hsp, hvars]; rfl
  · exact ok_one ht rfl (okWide_bool_mk hb _)
  · have := trodAll_append (hargs (fun _ => true) (fun _ _ => rfl)) (hres 0 (fun _ => true) true)
    simpa using this
  · rw [hvars]; rfl
  · intro b off hp
    rw [k.frozen (b := b) (off := off) (hlt _ hp)]
    exact hz b off hp
  · intro x hx _; exact hx

theorem bool_of {ι : IM} {w : World} {v : Value} {b : Bool} (h : AVRel ι w [] v (.one (.pv (.s (.bool b))))) : v = .bool b := by
  cases h with
  | one _ _ h =>
    cases h with
    | pv _ _ h => cases h with | s => rfl

end Go.SX
