/- SX, ninth part: the evaluator of operations, and its soundness. -/
import Derived.Test.YtdkmclmdemngfaaDoorSxMem5
namespace Go.SX
open Go
set_option linter.unusedVariables false
set_option linter.unusedSimpArgs false
set_option linter.unnecessarySimpa false

variable {P : Program} {ι : IM} {w : World} {st : St}

/-! ### addresses and parts -/

def faAt (P : Program) (s : TypeId) (c : CV) (k : Nat) : Option CV :=
  match P.underlying s with
  | some (.struct fields) =>
    match fields[k]? with
    | some f =>
      match tsz P f.type with
      | some (n + 1) =>
        match c with
        | .pv (.rp els i off) => some (.pv (.rp els i (off + f.offset)))
        | .pt id sz i off => some (.pt id sz i (off + f.offset))
        | _ => none
      | _ => none
    | none => none
  | _ => none

theorem faAt_sound {s : TypeId} {c c' : CV} {k : Nat} (h : faAt P s c k = some c') {v : Value} (hv : VRel ι w st v c) :
    ∃ u, (Instr.fieldAt s v k).run P w = .ok u w ∧ VRel ι w st u c' := by
  unfold faAt at h
  cases hu : P.underlying s with
  | none => simp [hu] at h
  | some d =>
    cases d <;> try (simp [hu] at h; done)
    rename_i fields
    simp only [hu] at h
    cases hf : fields[k]? with
    | none => simp [hf] at h
    | some f =>
      simp only [hf] at h
      cases hn : tsz P f.type with
      | none => simp [hn] at h
      | some n =>
        cases n with
        | zero => simp [hn] at h
        | succ n =>
          simp only [hn] at h
          cases hv with
          | mp => simp at h
          | sl => simp at h
          | sn => simp at h
          | fn => simp at h
          | pv _ p hp =>
           cases hp with
           | s => simp at h
           | nl => simp at h
           | ro => simp at h
           | fn => simp at h
           | rp a sz els i off vf hsz hb hc hvv =>
            simp only [Option.some.injEq] at h
            subst h
            refine ⟨.pointer (some (a.add (i * sz + (off + f.offset)))), ?_, .pv _ _ (.rp a sz els i (off + f.offset) vf hsz hb hc hvv)⟩
            simp [Instr.fieldAt, run_underlying hu, hf, Instr.sureAddr, fieldPlace, run_sizeOf hn, add_add, Nat.add_assoc]
          | pt id sz i off b hid hb =>
            simp only [Option.some.injEq] at h
            subst h
            refine ⟨.pointer (some ⟨b, i * sz + (off + f.offset), none⟩), ?_, .pt id sz i (off + f.offset) b hid hb⟩
            simp [Instr.fieldAt, run_underlying hu, hf, Instr.sureAddr, fieldPlace, run_sizeOf hn, add_lit, Nat.add_assoc]

/-- an element's address: the index n, an Int -/
def iaAt (P : Program) (t : TypeId) (c : CV) (n : Int) : Option (CV × Prop) :=
  match P.underlying t with
  | some (.array len elem) =>
    match tsz P elem with
    | some es =>
      match c with
      | .pv (.rp els i off) => some (.pv (.rp els i (off + n.toNat * es)), 0 ≤ n ∧ n < len)
      | .pt id sz i off => some (.pt id sz i (off + n.toNat * es), 0 ≤ n ∧ n < len)
      | _ => none
    | none => none
  | some (.slice elem) =>
    match tsz P elem with
    | some es =>
      match c with
      | .pv (.ro els) => some (.pv (.rp els n.toNat 0), 0 ≤ n ∧ n < els.length ∧ elemsOk es els)
      | .sl id sz off len => bif Nat.beq sz es then some (.pt id sz (off + n.toNat) 0, 0 ≤ n ∧ n < len) else none
      | _ => none
    | none => none
  | _ => none

theorem iaAt_sound {t : TypeId} {c c' : CV} {n : Int} {k : IntKind} {ob : Prop} (h : iaAt P t c n = some (c', ob)) (hob : ob) {v : Value} (hv : VRel ι w st v c) :
    ∃ u, (Instr.indexAt t v (.int k n)).run P w = .ok u w ∧ VRel ι w st u c' := by
  unfold iaAt at h
  cases hu : P.underlying t with
  | none => simp [hu] at h
  | some d =>
    cases d <;> try (simp [hu] at h; done)
    case array len elem =>
      simp only [hu] at h
      cases hn : tsz P elem with
      | none => simp [hn] at h
      | some es =>
        simp only [hn] at h
        cases hv with
        | mp => simp at h
        | sl => simp at h
        | sn => simp at h
        | fn => simp at h
        | pv _ p hp =>
         cases hp with
         | s => simp at h
         | nl => simp at h
         | ro => simp at h
         | fn => simp at h
         | rp a sz els i off vf hsz hb hc hvv =>
          simp only [Option.some.injEq, Prod.mk.injEq] at h
          obtain ⟨rfl, rfl⟩ := h
          refine ⟨.pointer (some (a.add (i * sz + (off + n.toNat * es)))), ?_, .pv _ _ (.rp a sz els i _ vf hsz hb hc hvv)⟩
          simp [Instr.indexAt, asIntOf, run_underlying hu, Instr.sureAddr, hob, run_sizeOf hn, add_add, Nat.add_assoc]
        | pt id sz i off b hid hb =>
          simp only [Option.some.injEq, Prod.mk.injEq] at h
          obtain ⟨rfl, rfl⟩ := h
          refine ⟨.pointer (some ⟨b, i * sz + (off + n.toNat * es), none⟩), ?_, .pt id sz i _ b hid hb⟩
          simp [Instr.indexAt, asIntOf, run_underlying hu, Instr.sureAddr, hob, run_sizeOf hn, add_lit, Nat.add_assoc]
    case slice elem =>
      simp only [hu] at h
      cases hn : tsz P elem with
      | none => simp [hn] at h
      | some es =>
        simp only [hn] at h
        cases hv with
        | pt => simp at h
        | mp => simp at h
        | fn => simp at h
        | pv _ p hp =>
         cases hp with
         | s => simp at h
         | rp => simp at h
         | fn => simp at h
         | nl =>
          simp only [Option.some.injEq, Prod.mk.injEq] at h
          obtain ⟨rfl, rfl⟩ := h
          obtain ⟨h1, h2, _⟩ := hob
          simp at h2
          omega
         | ro a cap sz els vf hcap hsz hb hc hvv =>
          simp only [Option.some.injEq, Prod.mk.injEq] at h
          obtain ⟨rfl, rfl⟩ := h
          obtain ⟨h1, h2, h3⟩ := hob
          have hes : sz = es := by
            cases els with
            | nil => simp at h2; omega
            | cons e0 rest => rw [← hsz e0 (by simp), ← h3 e0 (by simp)]
          subst hes
          refine ⟨.pointer (some (a.add (n.toNat * sz))), ?_, by simpa using VRel.pv (ι := ι) (w := w) (st := st) _ _ (PRel.rp a sz els n.toNat 0 vf hsz hb hc hvv)⟩
          simp [Instr.indexAt, asIntOf, run_underlying hu, h1, h2, run_sizeOf hn]
        | sl id sz off len b cap hid hb hcap hc =>
          cases hz : Nat.beq sz es with
          | false => simp [hz] at h
          | true =>
            have := Nat.eq_of_beq_eq_true hz
            subst this
            simp only [hz, cond_true, Option.some.injEq, Prod.mk.injEq] at h
            obtain ⟨rfl, rfl⟩ := h
            refine ⟨.pointer (some ⟨b, (off + n.toNat) * sz + 0, none⟩), ?_, .pt id sz _ 0 b hid hb⟩
            simp [Instr.indexAt, asIntOf, run_underlying hu, hob, run_sizeOf hn, add_lit, Nat.add_mul]
        | sn id sz hid hb =>
          cases hz : Nat.beq sz es with
          | false => simp [hz] at h
          | true =>
            simp only [hz, cond_true, Option.some.injEq, Prod.mk.injEq] at h
            obtain ⟨rfl, rfl⟩ := h
            omega

/-- a part of a struct or an array -/
def partAt' (P : Program) (t : TypeId) (cs : List CV) (off : Nat) : Option AV :=
  match isAg P t, tsz P t with
  | some g, some n => (cutc cs off n).bind (mkAV g)
  | _, _ => none

theorem part_sound {t : TypeId} {cs : List CV} {off : Nat} {av : AV} (h : partAt' P t cs off = some av) {vs : List Value} (hl : LRel ι w st vs cs) :
    ∃ u, (part t vs.toArray off).run P w = .ok u w ∧ AVRel ι w st u av := by
  unfold partAt' at h
  cases hg : isAg P t with
  | none => simp [hg] at h
  | some g =>
    cases hn : tsz P t with
    | none => simp [hg, hn] at h
    | some n =>
      simp only [hg, hn, Option.bind_eq_some_iff] at h
      obtain ⟨cs', hcut, hmk⟩ := h
      obtain ⟨rfl, hle, hlen⟩ := cut_rel hcut
      refine ⟨mkVal g ((vs.drop off).take n), ?_, mkVal_rel ((hl.drop off).take n) hmk⟩
      cases g with
      | true =>
        have e : vs.toArray.extract off (off + n) = ((vs.drop off).take n).toArray := by
          simp [List.drop_take]
        simp only [part, Sem.run_bind, run_isAgg hg, Result.andThen_ok, if_true, run_sizeOf hn, Sem.run_pure, mkVal, e]
      | false =>
        have h1 := mkAV_one hmk
        have hn1 : n = 1 := by omega
        subst hn1
        have hlt : off < vs.length := by rw [hl.1]; omega
        have e : vs.toArray[off]? = some vs[off] := by simp [hlt]
        have e2 : (vs.drop off).take 1 = [vs[off]] := by
          rw [List.drop_eq_getElem_cons hlt]; rfl
        simp [part, run_isAgg hg, mkVal, e2, hlt]

def fieldOf (P : Program) (t : TypeId) (cs : List CV) (k : Nat) : Option AV :=
  match P.underlying t with
  | some (.struct fields) =>
    match fields[k]? with
    | some f => partAt' P f.type cs f.offset
    | none => none
  | _ => none

/-! ### slices of slices and strings -/

def intOf? : Option AV → Option (Option Int)
  | none => some none
  | some (.one (.pv (.s (.int _ n)))) => some (some n)
  | _ => none

/-- the bounds of a cut: low, high, max, what is asked -/
def cutB (len : Nat) (lo hi mx : Option Int) : Nat × Nat × Prop :=
  let h : Int := hi.getD len
  let l : Int := lo.getD 0
  (l.toNat, h.toNat, 0 ≤ l ∧ l ≤ h ∧ (match mx with | some m => h ≤ m ∧ m ≤ len | none => h ≤ len))

def slAt (P : Program) (t : TypeId) (c : CV) (lo hi mx : Option Int) : Option (CV × Prop) :=
  match P.underlying t with
  | some .string =>
    match c, mx with
    | .pv (.s (.string s)), none =>
      let (l, h, ob) := cutB s.size lo hi none
      some (CV.s (.string (s.extract l h)), ob)
    | _, _ => none
  | some (.slice elem) =>
    match tsz P elem with
    | some es =>
      match c with
      | .pv (.ro els) =>
        let (l, h, ob) := cutB els.length lo hi mx
        some (.pv (.ro ((els.drop l).take (h - l))), ob ∧ elemsOk es els)
      | .sl id sz off len =>
        let (l, h, ob) := cutB len lo hi mx
        bif Nat.beq sz es then some (.sl id sz (off + l) (h - l), ob ∧ (l = 0 ∨ (match mx with | some m => (l : Int) < m | none => l < len))) else none
      | .pv (.s (.slice none 0 0)) =>
        let (l, h, ob) := cutB 0 lo hi mx
        some (CV.s (.slice none 0 0), ob)
      | _ => none
    | none => none
  | _ => none

theorem run_bound {k : IntKind} {n : Int} {y : Nat} {code : BoundsCode} (h0 : 0 ≤ n) (h1 : n ≤ y) (w : World) : (Instr.sliceBound (.int k n) y code).run P w = .ok n.toNat w := by
  simp [Instr.sliceBound, asIntOf, h0, h1]

/-- values of the optional bounds -/
inductive BRel : Option Value → Option Int → Prop where
  | none : BRel none none
  | some (k : IntKind) (n : Int) : BRel (some (.int k n)) (some n)

theorem run_bounds {isS : Bool} {len cap : Nat} {lo hi mx : Option Value} {l h m : Option Int} (hl : BRel lo l) (hh : BRel hi h) (hm : BRel mx m) (hlc : len ≤ cap) (hob : (cutB len l h m).2.2)
    (hmh : m = none ∨ h ≠ none) (w : World) :
    (Instr.sliceBounds isS len cap lo hi mx).run P w = .ok ((cutB len l h m).1, (cutB len l h m).2.1, (m.map Int.toNat).getD cap) w := by
  cases hm with
  | none =>
    simp only [cutB] at hob ⊢
    cases hh with
    | none =>
      cases hl with
      | none => simp [Instr.sliceBounds]
      | some k n =>
        simp at hob
        simp [Instr.sliceBounds, run_bound (P := P) (w := w) (k := k) (n := n) (y := len) hob.1 hob.2]
    | some k2 n2 =>
      cases hl with
      | none =>
        simp at hob
        simp [Instr.sliceBounds, run_bound (P := P) (w := w) (k := k2) (n := n2) (y := cap) hob.1 (by omega)]
      | some k n =>
        simp at hob
        simp [Instr.sliceBounds, run_bound (P := P) (w := w) (k := k2) (n := n2) (y := cap) (by omega) (by omega), run_bound (P := P) (w := w) (k := k) (n := n) (y := n2.toNat) (by omega) (by omega)]
  | some k3 n3 =>
    simp only [cutB] at hob ⊢
    cases hh with
    | none => simp at hmh
    | some k2 n2 =>
      cases hl with
      | none =>
        simp at hob
        simp [Instr.sliceBounds, run_bound (P := P) (w := w) (k := k3) (n := n3) (y := cap) (by omega) (by omega), run_bound (P := P) (w := w) (k := k2) (n := n2) (y := n3.toNat) (by omega) (by omega)]
      | some k n =>
        simp at hob
        simp [Instr.sliceBounds, run_bound (P := P) (w := w) (k := k3) (n := n3) (y := cap) (by omega) (by omega), run_bound (P := P) (w := w) (k := k2) (n := n2) (y := n3.toNat) (by omega) (by omega), run_bound (P := P) (w := w) (k := k) (n := n) (y := n2.toNat) (by omega) (by omega)]

theorem slAt_sound {t : TypeId} {c c' : CV} {lo hi mx : Option Value} {l h m : Option Int} {ob : Prop} (hs : slAt P t c l h m = some (c', ob)) (hob : ob) (hl : BRel lo l) (hh : BRel hi h) (hm : BRel mx m)
    (hmh : m = none ∨ h ≠ none) {v : Value} (hv : VRel ι w st v c) : ∃ u, (Instr.sliceAt t v lo hi mx).run P w = .ok u w ∧ VRel ι w st u c' := by
  unfold slAt at hs
  cases hu : P.underlying t with
  | none => simp [hu] at hs
  | some d =>
    cases d <;> try (simp [hu] at hs; done)
    case string =>
      simp only [hu] at hs
      cases hv with
      | pv _ p hp =>
       cases hp with
       | s _ hp =>
        cases v <;> try (simp at hs; done)
        rename_i s
        cases hm with
        | some => simp at hs
        | none =>
          simp only [Option.some.injEq, Prod.mk.injEq] at hs
          obtain ⟨rfl, rfl⟩ := hs
          have hb := run_bounds (P := P) (isS := false) (len := s.size) (cap := s.size) hl hh .none (Nat.le_refl _) hob (.inl rfl) w
          refine ⟨_, ?_, .pv _ _ (.s (.string (s.extract _ _)) rfl)⟩
          simp [Instr.sliceAt, Instr.slice, run_underlying hu, hb]
       | _ => simp at hs
      | _ => simp at hs
    case slice elem =>
      simp only [hu] at hs
      cases hn : tsz P elem with
      | none => simp [hn] at hs
      | some es =>
        simp only [hn] at hs
        cases hv with
        | pt => simp at hs
        | mp => simp at hs
        | fn => simp at hs
        | pv _ p hp =>
         cases hp with
         | rp => simp at hs
         | fn => simp at hs
         | s _ hp =>
          cases v <;> try (simp at hs; done)
          rename_i ao n q
          cases ao with
          | some a => simp at hs
          | none =>
            cases n <;> cases q <;> try (simp at hs; done)
            simp only [Option.some.injEq, Prod.mk.injEq] at hs
            obtain ⟨rfl, rfl⟩ := hs
            have hb := run_bounds (P := P) (isS := true) (len := 0) (cap := 0) hl hh hm (Nat.le_refl _) hob hmh w
            have h1 : (cutB 0 l h m).1 = 0 := by simp only [cutB] at hob ⊢; cases m <;> simp at hob <;> omega
            have h2 : (cutB 0 l h m).2.1 = 0 := by simp only [cutB] at hob ⊢; cases m <;> simp at hob ⊢ <;> omega
            have h3 : (m.map Int.toNat).getD 0 = 0 := by cases m <;> simp [cutB] at hob ⊢; omega
            refine ⟨.slice none 0 0, ?_, .pv _ _ (.s _ rfl)⟩
            simp [Instr.sliceAt, Instr.slice, run_underlying hu, hb, run_sizeOf hn, h1, h2, h3]
         | nl =>
          simp only [Option.some.injEq, Prod.mk.injEq] at hs
          obtain ⟨rfl, rfl⟩ := hs
          obtain ⟨hob, _⟩ := hob
          simp only [List.length_nil] at hob
          have hb := run_bounds (P := P) (isS := true) (len := 0) (cap := 0) hl hh hm (Nat.le_refl _) hob hmh w
          have h1 : (cutB 0 l h m).1 = 0 := by simp only [cutB] at hob ⊢; cases m <;> simp at hob <;> omega
          have h2 : (cutB 0 l h m).2.1 = 0 := by simp only [cutB] at hob ⊢; cases m <;> simp at hob ⊢ <;> omega
          have h3 : (m.map Int.toNat).getD 0 = 0 := by cases m <;> simp [cutB] at hob ⊢; omega
          refine ⟨.slice none 0 0, ?_, by simpa using VRel.pv (ι := ι) (w := w) (st := st) _ _ PRel.nl⟩
          simp [Instr.sliceAt, Instr.slice, run_underlying hu, hb, run_sizeOf hn, h1, h2, h3]
         | ro a cap sz els vf hcap hsz hb0 hc hvv =>
          simp only [Option.some.injEq, Prod.mk.injEq] at hs
          obtain ⟨rfl, rfl⟩ := hs
          obtain ⟨hob, hel⟩ := hob
          have hb := run_bounds (P := P) (isS := true) (len := els.length) (cap := cap) hl hh hm hcap hob hmh w
          have hord : (cutB els.length l h m).1 ≤ (cutB els.length l h m).2.1 ∧ (cutB els.length l h m).2.1 ≤ els.length ∧ (cutB els.length l h m).2.1 ≤ (m.map Int.toNat).getD cap := by
            simp only [cutB] at hob ⊢
            cases m <;> simp at hob ⊢ <;> omega
          generalize (cutB els.length l h m).1 = lo' at *
          generalize (cutB els.length l h m).2.1 = hi' at *
          generalize (m.map Int.toNat).getD cap = mx' at *
          have hlen : ((els.drop lo').take (hi' - lo')).length = hi' - lo' := by simp; omega
          refine ⟨.slice (if mx' = lo' then some a else some (a.add (lo' * es))) (hi' - lo') (mx' - lo'), by simp [Instr.sliceAt, Instr.slice, run_underlying hu, hb, run_sizeOf hn], ?_⟩
          by_cases hz : hi' - lo' = 0
          · have e0 : (els.drop lo').take (hi' - lo') = [] := by rw [hz]; simp
            rw [e0, hz]
            split
            · exact VRel.pv _ _ (PRel.ro a _ 0 [] (fun _ _ => undef) (by simp) (by simp) (by simp) (fun i e j c h => by simp at h) (fun i e j c h => by simp at h))
            · exact VRel.pv _ _ (PRel.ro _ _ 0 [] (fun _ _ => undef) (by simp) (by simp) (by simp) (fun i e j c h => by simp at h) (fun i e j c h => by simp at h))
          · rw [if_neg (by omega)]
            have hes : sz = es := by
              cases els with
              | nil => simp at hord; omega
              | cons e0 rest => rw [← hsz e0 (by simp), ← hel e0 (by simp)]
            subst hes
            have := PRel.ro (μ := Mut ι st) (w := w) (a.add (lo' * sz)) (mx' - lo') sz ((els.drop lo').take (hi' - lo')) (fun i j => vf (lo' + i) j) (by rw [hlen]; omega)
              (fun e he => hsz e (List.mem_of_mem_drop (List.mem_of_mem_take he)))
              (fun _ => by rw [add_block]; exact hb0 (by rintro rfl; simp at hord; omega))
              (fun i e j c h1 h2 => by
                rw [List.getElem?_take] at h1
                split at h1
                · rw [List.getElem?_drop] at h1
                  have := hc _ e j c h1 h2
                  rw [add_add, ← this]
                  congr 2
                  rw [Nat.add_mul]; omega
                · cases h1)
              (fun i e j c h1 h2 => by
                rw [List.getElem?_take] at h1
                split at h1
                · rw [List.getElem?_drop] at h1
                  exact hvv _ e j c h1 h2
                · cases h1)
            rw [hlen] at this
            exact .pv _ _ this
        | sn id sz hid hb0 =>
          cases hz : Nat.beq sz es with
          | false => simp [hz] at hs
          | true =>
            simp only [hz, cond_true, Option.some.injEq, Prod.mk.injEq] at hs
            obtain ⟨rfl, rfl⟩ := hs
            obtain ⟨hob, _⟩ := hob
            have hb := run_bounds (P := P) (isS := true) (len := 0) (cap := 0) hl hh hm (Nat.le_refl _) hob hmh w
            have h1 : (cutB 0 l h m).1 = 0 := by simp only [cutB] at hob ⊢; cases m <;> simp at hob <;> omega
            have h2 : (cutB 0 l h m).2.1 = 0 := by simp only [cutB] at hob ⊢; cases m <;> simp at hob ⊢ <;> omega
            have h3 : (m.map Int.toNat).getD 0 = 0 := by cases m <;> simp [cutB] at hob ⊢; omega
            refine ⟨.slice none 0 0, ?_, by rw [h1, h2]; exact .sn id sz hid hb0⟩
            simp [Instr.sliceAt, Instr.slice, run_underlying hu, hb, run_sizeOf hn, h1, h2, h3]
        | sl id sz off len b cap hid hb0 hcap hcc =>
          cases hz : Nat.beq sz es with
          | false => simp [hz] at hs
          | true =>
            have := Nat.eq_of_beq_eq_true hz
            subst this
            simp only [hz, cond_true, Option.some.injEq, Prod.mk.injEq] at hs
            obtain ⟨rfl, rfl⟩ := hs
            obtain ⟨hob, hlo⟩ := hob
            have hb := run_bounds (P := P) (isS := true) (len := len) (cap := cap) hl hh hm hcap hob hmh w
            have hord : (cutB len l h m).1 ≤ (cutB len l h m).2.1 ∧ (cutB len l h m).2.1 ≤ len ∧ (cutB len l h m).2.1 ≤ (m.map Int.toNat).getD cap ∧ (m.map Int.toNat).getD cap ≤ cap := by
              simp only [cutB] at hob ⊢
              cases m <;> simp at hob ⊢ <;> omega
            have hlt : (cutB len l h m).1 = 0 ∨ (cutB len l h m).1 < (m.map Int.toNat).getD cap := by
              rcases hlo with h0 | h0
              · exact .inl h0
              · right
                cases m <;> simp at h0 ⊢ <;> omega
            generalize (cutB len l h m).1 = lo' at *
            generalize (cutB len l h m).2.1 = hi' at *
            generalize (m.map Int.toNat).getD cap = mx' at *
            refine ⟨.slice (if mx' = lo' then some ⟨b, off * sz, none⟩ else some ((⟨b, off * sz, none⟩ : Addr).add (lo' * sz))) (hi' - lo') (mx' - lo'), by simp [Instr.sliceAt, Instr.slice, run_underlying hu, hb, run_sizeOf hn], ?_⟩
            have e : (if mx' = lo' then some (⟨b, off * sz, none⟩ : Addr) else some ((⟨b, off * sz, none⟩ : Addr).add (lo' * sz))) = some ⟨b, (off + lo') * sz, none⟩ := by
              rcases hlt with h0 | h0
              · subst h0; split <;> simp [add_lit]
              · rw [if_neg (by omega), add_lit, Nat.add_mul]
            rw [e]
            obtain ⟨c, ty, fz, g1, g2⟩ := hcc
            refine .sl id sz (off + lo') (hi' - lo') b (mx' - lo') hid hb0 (by omega) ⟨c, ty, fz, g1, ?_⟩
            have : (off + lo' + (mx' - lo')) * sz ≤ (off + cap) * sz := Nat.mul_le_mul_right sz (by omega)
            omega

end Go.SX
