/- SX: regions that draw, with objects: the rules that printed proofs use. -/
import Derived.Test.YtdkmclmdemngfaaDoorSxDrawH
namespace Go.SX
open Go
set_option linter.unusedVariables false
set_option linter.unusedSimpArgs false
set_option linter.unnecessarySimpa false

section
variable {P : Program} {n n0 : Nat} {loose an : List Nat} {Q : QT} {fr : Fr} {st : St} {c : Code} {ops : Array Oper} {X : List Nat}

def isDead : Body → Bool
  | .dead => true
  | _ => false

/-- where T says no, the store is dead -/
def deadOff (T : Nat → Bool) : Nat → St → Bool
  | _, [] => true
  | i, b :: l => (T i || isDead b) && deadOff T (i + 1) l

theorem deadOff_get {T : Nat → Bool} : ∀ {st : St} {i : Nat}, deadOff T i st = true → ∀ j, j < st.length → T (i + j) = false → st[j]? = some .dead
  | [], i, _, j, hj, _ => by simp at hj
  | b :: l, i, h, j, hj, hT => by
    simp only [deadOff, Bool.and_eq_true, Bool.or_eq_true] at h
    cases j with
    | zero =>
      rw [Nat.add_zero] at hT
      rcases h.1 with h1 | h1
      · rw [h1] at hT; cases hT
      · cases b <;> simp [isDead] at h1 ⊢
    | succ j =>
      have := deadOff_get h.2 j (by simpa using hj) (by rw [show i + 1 + j = i + (j + 1) by omega]; exact hT)
      simpa using this

theorem mask_eq {T : Nat → Bool} {st st' : St} (hl : st'.length = st.length) (h : ∀ id, T id = true → st'[id]? = st[id]?) : maskF T 0 st' = maskF T 0 st := by
  refine st_ext (by rw [maskF_len, maskF_len, hl]) (fun id hid => ?_)
  rw [maskF_get, maskF_get, Nat.zero_add]
  rw [maskF_len] at hid
  cases hT : T id with
  | true => rw [h id hT]
  | false =>
    rw [List.getElem?_eq_getElem (by omega), List.getElem?_eq_getElem (show id < st.length by omega)]
    rfl

theorem ovl_ovl {T : Nat → Bool} {a b m : St} (h1 : a.length = b.length) (h2 : b.length ≤ m.length) : ovl T 0 a (ovl T 0 b m) = ovl T 0 a m := by
  refine st_ext (by rw [ovl_len _ _ _ (by rw [ovl_len _ _ _ h2]; omega), ovl_len _ _ _ h2, ovl_len _ _ _ (by omega)]) (fun id hid => ?_)
  rw [ovl_get _ _ _ _ (by rw [ovl_len _ _ _ h2]; omega), ovl_get _ _ _ _ h2, ovl_get _ _ _ _ (by omega), Nat.zero_add, h1]
  by_cases hc : id < b.length ∧ T id = false
  · simp [hc]
  · simp [hc]

theorem ovl_mask {T : Nat → Bool} {a : St} : ovl T 0 a (maskF T 0 a) = a := by
  refine st_ext (by rw [ovl_len _ _ _ (by rw [maskF_len]; exact Nat.le_refl _), maskF_len]) (fun id hid => ?_)
  rw [ovl_get _ _ _ _ (by rw [maskF_len]; exact Nat.le_refl _), maskF_get, Nat.zero_add]
  rw [ovl_len _ _ _ (by rw [maskF_len]; exact Nat.le_refl _), maskF_len] at hid
  cases hT : T id with
  | true =>
    rw [List.getElem?_eq_getElem hid]
    simp
  | false => simp [hid]

theorem ovl_nil {a b : St} (h : a.length = b.length) : ovl (inL []) 0 a b = a := by
  refine st_ext (by rw [ovl_len _ _ _ (by omega), h]) (fun id hid => ?_)
  rw [ovl_len _ _ _ (by omega)] at hid
  rw [ovl_get _ _ _ _ (by omega)]
  simp [inL, h, hid]

theorem bodyIds_mono {q r : Nat → Bool} (h : ∀ i, q i = true → r i = true) (o : Body) (hi : bodyIds q o = true) : bodyIds r o = true := by
  cases o with
  | box cells => exact idsA_mono (q := q) (r := r) h (.ag cells) hi
  | _ => rfl

/-- an operation, with the numbers that it does not touch left aside -/
theorem ev_aside {mu : Bool} {o : Oper} {hs : HS} {out : Out} {T : List Nat} (h : ev P mu o fr (maskF (inL T) 0 st) hs = some out) (hob : AllP out.ob) (hlen : st.length ≤ out.st.length) (hmv : ∀ m, out.mv = some m → inL T m = true ∧ inL X m = true)
    (hdead : ∀ id, id < st.length → inL T id = false → out.st[id]? = some .dead) {st' : St} {ι : IM} {w : World} {act : Act} (hl : st'.length = st.length) (hT : ∀ id, inL T id = true → st'[id]? = st[id]?) (hX : stIds (fun i => !inL X i) st' = true)
    (hR : Rel ι w st') (hF : FRel n ι w st' act fr) :
    ∃ v w' ι', (((execOp act.eval o).run P w = .ok (.value v) w') ∨ ((execOp act.eval o).run P w = .ok .skip w' ∧ v = undef)) ∧ Rel ι' w' (ovl (inL T) 0 st' out.st) ∧ AVRel ι' w' (ovl (inL T) 0 st' out.st) v out.av ∧
      Keeps (fun id => stays out.mv id = true) ι w st' ι' w' (ovl (inL T) 0 st' out.st) := by
  rw [← mask_eq hl hT] at h
  have hRm := hR.mask (inL T)
  have hFm : FRel n (aside (inL T) ι st') w (maskF (inL T) 0 st') act fr :=
    ⟨hF.defers, hF.size, fun t => (hF.slot t).chg (fun b hb => mask_mut.1 hb) (by rw [maskF_len]; exact Nat.le_refl _) (fun _ => rfl)⟩
  obtain ⟨v, w', ι2, hrun, hR2, hv, k⟩ := ev_sound h hob hRm hFm
  obtain ⟨r1, m1, k1⟩ := hR.unmask (T := inL T) (by rw [hl]; exact hlen) hR2 k
    (fun id hTf _ => by
      unfold stays
      cases hm : out.mv with
      | none => rfl
      | some m =>
        have : id ≠ m := by rintro rfl; rw [(hmv id hm).1] at hTf; cases hTf
        simp only [Bool.not_eq_true']
        cases hb : Nat.beq id m with
        | false => rfl
        | true => exact absurd (Nat.eq_of_beq_eq_true hb) this)
    (fun id o ho _ => bodyIds_mono (fun i hi => by
      unfold stays
      cases hm : out.mv with
      | none => rfl
      | some m =>
        have : i ≠ m := by rintro rfl; simp [(hmv i hm).2] at hi
        simp only [Bool.not_eq_true']
        cases hb : Nat.beq i m with
        | false => rfl
        | true => exact absurd (Nat.eq_of_beq_eq_true hb) this) o (stIds_get hX id o ho))
    (fun id hid hTf => hdead id (by omega) hTf)
  exact ⟨v, w', ⟨ι2.m, ι.amb⟩, hrun, r1, hv.chg m1 (by rw [ovl_len _ _ _ (by rw [hl]; exact hlen)]; exact Nat.le_refl _) (fun _ => rfl), k1⟩

theorem wp_of_run {o : Oper} {act : Act} {w w' : World} {v : Value} {K : Act → World → Prop} {Q : Exit → Act → World → Prop} (h : ((execOp act.eval o).run P w = .ok (.value v) w') ∨ ((execOp act.eval o).run P w = .ok .skip w' ∧ v = undef)) (hK : K (act.put o.dst v) w') : o.wp P act w K Q := by
  rcases h with h | ⟨h, rfl⟩ <;> simp only [Oper.wp, h, Oper.upon] <;> exact hK

/-! ### the numbers in values -/

def idsC' : CV → List Nat
  | .pv _ => []
  | .pt id _ _ _ => [id]
  | .mp id => [id]
  | .sl id _ _ _ => [id]
  | .fn _ caps => go caps
  where
  go : List CV → List Nat
    | [] => []
    | c :: l => idsC' c ++ go l

def idsL' : List CV → List Nat
  | [] => []
  | c :: l => idsC' c ++ idsL' l

def idsA' : AV → List Nat
  | .j => []
  | .one c => idsC' c
  | .ag cs => idsL' cs
  | .tp vs => go vs
  where
  go : List AV → List Nat
    | [] => []
    | a :: l => idsA' a ++ go l

/-- the numbers that an operation looks at -/
def tchOf (ops : Array Oper) (o : Oper) (fr : Fr) : List Nat := (Oper.looksAt ops o).flatMap fun t => idsA' (lk fr t)

def allLks (ops : Array Oper) (o : Oper) (fr : Fr) (T : List Nat) : Bool := (Oper.looksAt ops o).all fun t => idsA (inL T) (lk fr t)

def dstOk (n : Nat) (o : Oper) : Bool := match o.dst with
  | some d => Nat.ble (d + 1) n
  | none => true

theorem dstOk_get {o : Oper} (h : dstOk n o = true) : ∀ d, o.dst = some d → d < n := by
  intro d hd
  unfold dstOk at h
  rw [hd] at h
  exact Nat.le_of_ble_eq_true h

theorem allLks_get {o : Oper} {T : List Nat} (h : allLks ops o fr T = true) : ∀ t ∈ Oper.looksAt ops o, idsA (inL T) (lk fr t) = true := fun t ht => List.all_eq_true.1 h t ht

/-- the walk: with the numbers that the steps touch and write -/
def GX (P : Program) (n : Nat) (ops : Array Oper) (X : List Nat) (l : List Oper) (tw : List (List Nat × List Nat)) (fr : Fr) (st : St) (fr' : Fr) (st' : St) : Prop :=
  ∃ ss, StepsG P n ops X l ss fr st ∧ ss.map (fun s => (s.T, s.W)) = tw ∧ endF l ss fr = fr' ∧ endS ss st = st'

theorem GX.done {l : List Oper} (he : l = []) : GX P n ops X l [] fr st fr st := by
  subst he
  exact ⟨[], trivial, rfl, rfl, rfl⟩

theorem GX.cons {o : Oper} {l : List Oper} {tw : List (List Nat × List Nat)} {s : GS} {fr2 : Fr} {st2 : St} (h : StepG P n ops X o s fr st) (hk : GX P n ops X l tw (nextF o s fr) s.st2 fr2 st2) : GX P n ops X (o :: l) ((s.T, s.W) :: tw) fr st fr2 st2 := by
  obtain ⟨ss, h1, h2, h3, h4⟩ := hk
  exact ⟨s :: ss, ⟨h, h1⟩, by simp [h2], h3, h4⟩

theorem GX.eq {l : List Oper} {tw : List (List Nat × List Nat)} {fr1 fr2 : Fr} {st2 : St} (he : fr = fr1) (h : GX P n ops X l tw fr1 st fr2 st2) : GX P n ops X l tw fr st fr2 st2 := he ▸ h

def confTW (s t : List Nat × List Nat) : Bool := s.2.any (inL t.1) || s.1.any (inL t.2)

def confsTW (ops : Array Oper) (tw : List (List Nat × List Nat)) : Bool := (List.range tw.length).all fun j => (List.range j).all fun i =>
  match tw[i]?, tw[j]? with
  | some s, some t => !confTW s t || ((masks ops.toList []).getD j 0).testBit i
  | _, _ => false

def fixOff (n0 : Nat) (loose X : List Nat) : Bool := X.all fun id => !fixB n0 loose id

theorem XW.drwG (m : Nat) (X : List Nat) (tw : List (List Nat × List Nat)) (fr' : Fr) (st' : St) (he : regKind c = some true)
    (hm : (((drawOk (regOps c) && sufOk (regOps c) m) && P.follows .mixedOrders) && ((confsTW (regOps c) tw && stIds (fun i => !inL X i) st) && fixOff n0 loose X)) = true)
    (hs : GX P n (regOps c) X ((regOps c).toList.take m) tw fr st fr' st') (hk : XO P n n0 loose (regOps c) ((regOps c).toList.drop m) Q fr' st') : XW P n n0 loose c Q fr st := by
  obtain ⟨ss, h1, h2, h3, h4⟩ := hs
  cases c <;> simp only [regKind] at he <;> try (cases he; done)
  simp only [Option.some.injEq] at he
  subst he
  simp only [Bool.and_eq_true] at hm
  obtain ⟨⟨⟨d1, d2⟩, d3⟩, ⟨d4, d5⟩, d6⟩ := hm
  refine XW.drawG m X rfl d3 (by rw [Bool.and_eq_true]; exact ⟨d1, d2⟩) ?_ d5 (fun id hid => ?_) h1 (by subst h3; subst h4; exact hk)
  · subst h2
    unfold confsOk
    unfold confsTW at d4
    rw [List.length_map] at d4
    rw [List.all_eq_true] at d4 ⊢
    intro j hj
    have := d4 j hj
    rw [List.all_eq_true] at this ⊢
    intro i hi
    have h5 := this i hi
    rw [List.getElem?_map, List.getElem?_map] at h5
    cases e1 : ss[i]? with
    | none => rw [e1] at h5; simp at h5
    | some s =>
      cases e2 : ss[j]? with
      | none => rw [e1, e2] at h5; simp at h5
      | some t =>
        rw [e1, e2] at h5
        exact h5
  · have := List.all_eq_true.1 d6 id (inL_iff.1 hid)
    simpa using this

/-! ### single steps -/

def hdO : List Oper → Option Oper
  | o :: _ => some o
  | [] => none

theorem hd_cons {l : List Oper} {o : Oper} (h : hdO l = some o) : l = o :: l.drop 1 := by
  cases l with
  | nil => cases h
  | cons x l => simp [hdO] at h; subst h; rfl

/-- a quiet operation: value, obligations, hints left -/
def evQ1 (P : Program) (n : Nat) (ops : Array Oper) (X : List Nat) (l : List Oper) (fr : Fr) (st : St) (hs : HS) : Option (AV × List Nat × List Prop × HS) :=
  match hdO l with
  | some o =>
    bif dstOk n o && quietOp o.op then
      match guardOk ops o (looksR ops o fr) with
      | some true =>
        match ev P false o (looksR ops o fr) (maskF (inL (tchOf ops o fr)) 0 st) hs with
        | some out => bif (allLks ops o fr (tchOf ops o fr) && idsA (inL (tchOf ops o fr)) out.av) && stIds (fun i => !inL X i) st then some (out.av, tchOf ops o fr, out.ob, out.hs) else none
        | none => none
      | some false => bif stIds (fun i => !inL X i) st && allLks ops o fr (tchOf ops o fr) then some (.tp [], tchOf ops o fr, [], hs) else none
      | none => none
    else none
  | none => none

structure QS where
  fr : Fr
  tw : List (List Nat × List Nat)
  ob : List Prop
  hs : HS

def evQs (P : Program) (n : Nat) (ops : Array Oper) (X : List Nat) (st : St) : Nat → List Oper → Fr → HS → Option QS
  | 0, _, fr, hs => some ⟨fr, [], [], hs⟩
  | k + 1, l, fr, hs =>
    match evQ1 P n ops X l fr st hs with
    | some (a, T, ob, hs') =>
      match hdO l with
      | some o => match evQs P n ops X st k (l.drop 1) (putL o.dst a (keepF (fun id => !inL [] id) fr)) hs' with
        | some r => some ⟨r.fr, (T, []) :: r.tw, ob ++ r.ob, r.hs⟩
        | none => none
      | none => none
    | none => none

theorem evQ1_step {l : List Oper} {o : Oper} {hs hs' : HS} {a : AV} {T : List Nat} {ob : List Prop} (ho : hdO l = some o) (h : evQ1 P n ops X l fr st hs = some (a, T, ob, hs')) (hob : AllP ob) : StepG P n ops X o ⟨a, T, [], [], st⟩ fr st := by
  unfold evQ1 at h
  rw [ho] at h
  simp only at h
  cases hb : (dstOk n o && quietOp o.op) with
  | false => rw [hb] at h; cases h
  | true =>
    rw [hb] at h
    simp only [cond_true] at h
    rw [Bool.and_eq_true] at hb
    split at h
    · rename_i hg
      split at h
      · rename_i out hev
        cases hc : ((allLks ops o fr (tchOf ops o fr) && idsA (inL (tchOf ops o fr)) out.av) && stIds (fun i => !inL X i) st) with
        | false => rw [hc] at h; cases h
        | true =>
          rw [hc] at h
          simp only [cond_true, Option.some.injEq, Prod.mk.injEq] at h
          obtain ⟨rfl, rfl, rfl, rfl⟩ := h
          simp only [Bool.and_eq_true] at hc
          obtain ⟨⟨c1, c2⟩, c3⟩ := hc
          obtain ⟨q1, q2⟩ := ev_quiet hb.2 hev
          refine ⟨dstOk_get hb.1, rfl, fun _ _ => rfl, fun id h => by simp [inL] at h, fun id h => by simp [inL] at h, allLks_get c1, c2, c3, .inl ⟨hg, ?_⟩⟩
          intro st' ι w act hl hT hX hR hF K Q hK
          obtain ⟨v, w', ι', hrun, r1, r2, r3⟩ := ev_aside (X := X) hev hob (by rw [q1, maskF_len]; exact Nat.le_refl _) (fun m hm => by rw [q2] at hm; cases hm)
            (fun id hid hTf => by rw [q1, maskF_get, Nat.zero_add, List.getElem?_eq_getElem hid, hTf]; rfl) hl hT hX hR hF
          have e1 : ovl (inL (tchOf ops o fr)) 0 st' out.st = st' := by
            rw [q1, ← mask_eq hl hT]; exact ovl_mask
          have e2 : ovl (inL ([] : List Nat)) 0 st' st = st' := ovl_nil hl
          rw [e1] at r1 r2 r3
          refine wp_of_run hrun (hK v w' ι' (by rw [e2]; exact r2) (by rw [e2]; exact r1) (by
            rw [e2]
            refine r3.weaken (fun id _ => ?_)
            rw [q2]; rfl))
      · cases h
    · rename_i hg
      cases hc : (stIds (fun i => !inL X i) st && allLks ops o fr (tchOf ops o fr)) with
      | false => rw [hc] at h; cases h
      | true =>
        rw [hc] at h
        simp only [cond_true, Option.some.injEq, Prod.mk.injEq] at h
        obtain ⟨rfl, rfl, rfl, rfl⟩ := h
        rw [Bool.and_eq_true] at hc
        exact ⟨dstOk_get hb.1, rfl, fun _ _ => rfl, fun id h => by simp [inL] at h, fun id h => by simp [inL] at h, allLks_get hc.2, rfl, hc.1, .inr ⟨hg, rfl, rfl, rfl⟩⟩
    · cases h

def runQ (o : Option QS) : Option (Fr × List (List Nat × List Nat) × List Prop) := o.map fun r => (r.fr, r.tw, r.ob)

theorem GX.qs {tw2 : List (List Nat × List Nat)} {fr2 : Fr} {st2 : St} : ∀ (k : Nat) {l : List Oper} {fr : Fr} {hs : HS} {r : QS}, evQs P n ops X st k l fr hs = some r → AllP r.ob → GX P n ops X (l.drop k) tw2 r.fr st fr2 st2 → GX P n ops X l (r.tw ++ tw2) fr st fr2 st2
  | 0, l, fr, hs, r, h, hob, hk => by
    simp only [evQs, Option.some.injEq] at h
    subst h
    simpa using hk
  | k + 1, l, fr, hs, r, h, hob, hk => by
    simp only [evQs] at h
    split at h
    · rename_i a T ob hs' h1
      split at h
      · rename_i o ho
        split at h
        · rename_i r' h2
          simp only [Option.some.injEq] at h
          subst h
          obtain ⟨o1, o2⟩ := AllP.append hob
          have hs1 := evQ1_step ho h1 o1
          rw [hd_cons ho]
          have := GX.qs (tw2 := tw2) k h2 o2 (by rw [List.drop_drop, Nat.add_comm 1 k]; exact hk)
          exact GX.cons hs1 this
        · cases h
      · cases h
    · cases h

/-- the next k operations, all quiet -/
theorem GX.go {l : List Oper} {tw2 : List (List Nat × List Nat)} {fr2 : Fr} {st2 : St} (k : Nat) (hs : HS) (fr' : Fr) (tw1 : List (List Nat × List Nat)) (ob : List Prop) (h : runQ (evQs P n ops X st k l fr hs) = some (fr', tw1, ob)) (hob : AllP ob)
    (hk : GX P n ops X (l.drop k) tw2 fr' st fr2 st2) : GX P n ops X l (tw1 ++ tw2) fr st fr2 st2 := by
  cases ho : evQs P n ops X st k l fr hs with
  | none => rw [ho] at h; cases h
  | some r =>
    rw [ho] at h
    simp only [runQ, Option.map_some, Option.some.injEq, Prod.mk.injEq] at h
    obtain ⟨rfl, rfl, rfl⟩ := h
    exact GX.qs k ho hob hk

def movOk (mv : Option Nat) (T X : List Nat) : Bool := match mv with
  | some m => inL T m && inL X m
  | none => true

theorem movOk_get {mv : Option Nat} {T X : List Nat} (h : movOk mv T X = true) : ∀ m, mv = some m → inL T m = true ∧ inL X m = true := by
  rintro m rfl
  simpa [movOk] using h

def wOk (n : Nat) (ops : Array Oper) (X : List Nat) (o : Oper) (fr : Fr) (st : St) (T : List Nat) (out : Out) : Bool :=
  ((dstOk n o && Nat.beq out.st.length st.length) && (allLks ops o fr T && idsA (inL T) out.av)) && ((deadOff (inL T) 0 out.st && stIds (fun i => !inL X i) (ovl (inL T) 0 st out.st)) && movOk out.mv T X)

/-- a store or an append -/
def evW (P : Program) (n : Nat) (ops : Array Oper) (X : List Nat) (l : List Oper) (fr : Fr) (st : St) (hs : HS) : Option (Fr × List Nat × St × List Prop) :=
  match hdO l with
  | some o =>
    match guardOk ops o (looksR ops o fr) with
    | some true =>
      match ev P false o (looksR ops o fr) (maskF (inL (tchOf ops o fr)) 0 st) hs with
      | some out =>
        bif wOk n ops X o fr st (tchOf ops o fr) out then
          some (nextF o ⟨out.av, tchOf ops o fr, tchOf ops o fr, out.mv.toList, ovl (inL (tchOf ops o fr)) 0 st out.st⟩ fr, tchOf ops o fr, ovl (inL (tchOf ops o fr)) 0 st out.st, out.ob)
        else none
      | none => none
    | _ => none
  | none => none

theorem GX.wr {l : List Oper} {tw2 : List (List Nat × List Nat)} {fr2 : Fr} {st2 : St} (hs : HS) (fr' : Fr) (T : List Nat) (st' : St) (ob : List Prop) (h : evW P n ops X l fr st hs = some (fr', T, st', ob)) (hob : AllP ob)
    (hk : GX P n ops X (l.drop 1) tw2 fr' st' fr2 st2) : GX P n ops X l ((T, T) :: tw2) fr st fr2 st2 := by
  unfold evW at h
  split at h
  · rename_i o ho
    split at h
    · rename_i hg
      split at h
      · rename_i out hev
        cases hc : wOk n ops X o fr st (tchOf ops o fr) out with
        | false => rw [hc] at h; cases h
        | true =>
          rw [hc] at h
          simp only [cond_true, Option.some.injEq, Prod.mk.injEq] at h
          obtain ⟨rfl, rfl, rfl, rfl⟩ := h
          unfold wOk at hc
          simp only [Bool.and_eq_true] at hc
          obtain ⟨⟨⟨c1, c2⟩, c3, c4⟩, ⟨c5, c6⟩, c7⟩ := hc
          have hlen := Nat.eq_of_beq_eq_true c2
          rw [hd_cons ho]
          refine GX.cons (s := ⟨out.av, tchOf ops o fr, tchOf ops o fr, out.mv.toList, ovl (inL (tchOf ops o fr)) 0 st out.st⟩) ?_ hk
          have hmvv := movOk_get c7
          refine ⟨dstOk_get c1, by rw [ovl_len _ _ _ (by omega)]; exact hlen, fun id hw => ?_, fun id h => h, fun id h => ?_, allLks_get c3, c4, c6, .inl ⟨hg, ?_⟩⟩
          · show (ovl (inL (tchOf ops o fr)) 0 st out.st)[id]? = st[id]?
            have hw' : inL (tchOf ops o fr) id = false := hw
            rw [ovl_get _ _ _ _ (by omega), Nat.zero_add]
            by_cases hid : id < st.length
            · simp [hid, hw']
            · rw [if_neg (fun h => hid h.1), List.getElem?_eq_none (by omega), List.getElem?_eq_none (by omega)]
          · have := inL_iff.1 h
            simp only [Option.mem_toList] at this
            exact hmvv id this
          · intro st' ι w act hl hT hX hR hF K Q hK
            obtain ⟨v, w', ι', hrun, r1, r2, r3⟩ := ev_aside (X := X) hev hob (by omega) hmvv (fun id hid hTf => deadOff_get c5 id (by omega) (by rw [Nat.zero_add]; exact hTf)) hl hT hX hR hF
            have e : ovl (inL (tchOf ops o fr)) 0 st' (ovl (inL (tchOf ops o fr)) 0 st out.st) = ovl (inL (tchOf ops o fr)) 0 st' out.st := ovl_ovl hl (by omega)
            refine wp_of_run hrun (hK v w' ι' (by rw [e]; exact r2) (by rw [e]; exact r1) (by
              rw [e]
              refine r3.weaken (fun id hid => ?_)
              unfold stays
              cases hm : out.mv with
              | none => rfl
              | some m =>
                simp only [Bool.not_eq_true']
                cases hb : Nat.beq id m with
                | false => rfl
                | true =>
                  have := Nat.eq_of_beq_eq_true hb
                  subst this
                  have hx : inL out.mv.toList id = true := inL_iff.2 (by simp [hm])
                  have hid' : inL out.mv.toList id = false := hid
                  rw [hx] at hid'; cases hid'))
      · cases h
    · cases h
  · cases h

/-- a new object, at a number that was dead -/
def nOk (n : Nat) (ops : Array Oper) (X : List Nat) (id : Nat) (o : Oper) (fr : Fr) (st : St) (T : List Nat) (out : Out) (b : Body) : Bool :=
  (((dstOk n o && Nat.beq out.st.length (st.length + 1)) && (allLks ops o fr (id :: T) && idsA (inL (id :: T)) (rnA (rhoR st.length id) out.av))) && ((deadOff (inL T) 0 (out.st.take st.length) && idsA (fun i => !Nat.beq i id) out.av) && movOk out.mv [] X)) &&
  (((isDead ((st[id]?).getD (.box [])) && isDead ((out.st[id]?).getD (.box []))) && (inL X id && inL X st.length)) && stIds (fun i => !inL X i) ((ovl (inL T) 0 st (out.st.take st.length)).set id b) && bodyIds (fun i => !inL X i) b) && !inL T id

def evN (P : Program) (n : Nat) (ops : Array Oper) (X : List Nat) (mu : Bool) (id : Nat) (l : List Oper) (fr : Fr) (st : St) (hs : HS) : Option (Fr × List Nat × St × List Prop) :=
  match hdO l with
  | some o =>
    match guardOk ops o (looksR ops o fr) with
    | some true =>
      match ev P mu o (looksR ops o fr) (maskF (inL (tchOf ops o fr)) 0 st) hs with
      | some out =>
        match out.st.drop st.length with
        | [b] =>
          bif nOk n ops X id o fr st (tchOf ops o fr) out b then
            some (nextF o ⟨rnA (rhoR st.length id) out.av, id :: tchOf ops o fr, id :: tchOf ops o fr, [id], (ovl (inL (tchOf ops o fr)) 0 st (out.st.take st.length)).set id b⟩ fr, id :: tchOf ops o fr, (ovl (inL (tchOf ops o fr)) 0 st (out.st.take st.length)).set id b, out.ob)
          else none
        | _ => none
      | none => none
    | _ => none
  | none => none

theorem ovl_app {T : Nat → Bool} {b : Body} : ∀ (a m : St) (i : Nat), a.length = m.length → ovl T i a (m ++ [b]) = ovl T i a m ++ [b]
  | [], [], i, _ => by simp [ovl]
  | [], _ :: _, i, h => by simp at h
  | _ :: _, [], i, h => by simp at h
  | x :: l, y :: m, i, h => by simp only [List.cons_append, ovl]; rw [ovl_app l m (i + 1) (by simpa using h)]

theorem stIds_of {q : Nat → Bool} : ∀ {l : St}, (∀ (j : Nat) o, l[j]? = some o → bodyIds q o = true) → stIds q l = true
  | [], _ => rfl
  | b :: l, h => by
    simp only [stIds, Bool.and_eq_true]
    exact ⟨h 0 b rfl, stIds_of (fun j o hj => h (j + 1) o (by simpa using hj))⟩

theorem isDead_get {o : Option Body} (h : isDead (o.getD (.box [])) = true) : o = some .dead := by
  cases o with
  | none => simp [isDead] at h
  | some b => cases b <;> simp [isDead] at h ⊢

theorem GX.new {l : List Oper} {tw2 : List (List Nat × List Nat)} {fr2 : Fr} {st2 : St} (mu : Bool) (id : Nat) (hs : HS) (fr' : Fr) (T : List Nat) (st' : St) (ob : List Prop) (h : evN P n ops X mu id l fr st hs = some (fr', T, st', ob)) (hob : AllP ob)
    (hk : GX P n ops X (l.drop 1) tw2 fr' st' fr2 st2) : GX P n ops X l ((T, T) :: tw2) fr st fr2 st2 := by
  unfold evN at h
  split at h
  · rename_i o ho
    split at h
    · rename_i hg
      split at h
      · rename_i out hev
        split at h
        · rename_i b hb
          cases hc : nOk n ops X id o fr st (tchOf ops o fr) out b with
          | false => rw [hc] at h; cases h
          | true =>
            rw [hc] at h
            simp only [cond_true, Option.some.injEq, Prod.mk.injEq] at h
            obtain ⟨rfl, rfl, rfl, rfl⟩ := h
            unfold nOk at hc
            simp only [Bool.and_eq_true] at hc
            obtain ⟨⟨⟨⟨⟨c1, c2⟩, ⟨c3, c4⟩⟩, ⟨⟨c5, c6⟩, c7⟩⟩, ⟨⟨⟨⟨c8, c8'⟩, ⟨c9, c10⟩⟩, c11⟩, c12⟩⟩, c13⟩ := hc
            generalize hT : tchOf ops o fr = T at *
            have hlen := Nat.eq_of_beq_eq_true c2
            have hout : out.st = out.st.take st.length ++ [b] := by rw [← hb, List.take_append_drop]
            generalize hm : out.st.take st.length = m at *
            have hml : m.length = st.length := by rw [← hm]; simp; omega
            have hmv : out.mv = none := by
              cases hq : out.mv with
              | none => rfl
              | some x => rw [hq] at c7; simp [movOk, inL] at c7
            have hTid : inL T id = false := by simpa using c13
            have hdead := isDead_get c8
            have hid : id < st.length := (List.getElem?_eq_some_iff.1 hdead).1
            rw [hd_cons ho]
            refine GX.cons (s := ⟨rnA (rhoR st.length id) out.av, id :: T, id :: T, [id], (ovl (inL T) 0 st m).set id b⟩) ?_ hk
            have hcons : ∀ x, inL (id :: T) x = (Nat.beq x id || inL T x) := fun x => rfl
            have hne : ∀ x, inL (id :: T) x = false → x ≠ id ∧ inL T x = false := by
              intro x hx
              rw [hcons, Bool.or_eq_false_iff] at hx
              exact ⟨by rintro rfl; simp at hx, hx.2⟩
            refine ⟨dstOk_get c1, by rw [List.length_set, ovl_len _ _ _ (by omega)]; exact hml, fun x hw => ?_, fun x h => h, fun x h => ?_, allLks_get c3, c4, c11, .inl ⟨hg, ?_⟩⟩
            · obtain ⟨h1, h2⟩ := hne x hw
              show ((ovl (inL T) 0 st m).set id b)[x]? = st[x]?
              rw [List.getElem?_set, if_neg (fun e => h1 e.symm), ovl_get _ _ _ _ (by omega), Nat.zero_add]
              by_cases hx : x < st.length
              · simp [hx, h2]
              · rw [if_neg (fun h => hx h.1), List.getElem?_eq_none (by omega), List.getElem?_eq_none (by omega)]
            · have : x = id := by have := inL_iff.1 h; simpa using this
              subst this
              refine ⟨?_, c9⟩
              show inL (x :: T) x = true
              rw [hcons, Nat.beq_refl]; rfl
            · intro st' ι w act hl hT' hX hR hF K Q hK
              have hTT : ∀ x, inL T x = true → st'[x]? = st[x]? := fun x hx => hT' x (by rw [hcons, hx, Bool.or_true])
              obtain ⟨v, w', ι1, hrun, r1, r2, r3⟩ := ev_aside (X := X) hev hob (by omega) (fun x hx => by rw [hmv] at hx; cases hx)
                (fun x hx hTf => by
                  have := deadOff_get c5 x (by omega) (by rw [Nat.zero_add]; exact hTf)
                  rw [hout, List.getElem?_append_left (by omega)]; exact this) hl hTT hX hR hF
              have hml' : st'.length = m.length := by omega
              rw [hout, ovl_app _ _ _ hml'] at r1 r2 r3
              have hlo : (ovl (inL T) 0 st' m).length = st.length := by rw [ovl_len _ _ _ (by omega)]; exact hml
              have hdd : (ovl (inL T) 0 st' m)[id]? = some .dead := by
                rw [ovl_get _ _ _ _ (by omega), Nat.zero_add, if_pos ⟨by omega, hTid⟩, hT' id (by rw [hcons, Nat.beq_refl]; rfl)]
                exact hdead
              have mono : ∀ i, (!inL X i) = true → (!Nat.beq i id && !Nat.beq i (ovl (inL T) 0 st' m).length) = true := by
                intro i hi
                rw [hlo]
                have h1 : i ≠ id := by rintro rfl; rw [c9] at hi; cases hi
                have h2 : i ≠ st.length := by rintro rfl; rw [c10] at hi; cases hi
                rw [Bool.and_eq_true, Bool.not_eq_true', Bool.not_eq_true']
                constructor
                · cases hb : Nat.beq i id with
                  | false => rfl
                  | true => exact absurd (Nat.eq_of_beq_eq_true hb) h1
                · cases hb : Nat.beq i st.length with
                  | false => rfl
                  | true => exact absurd (Nat.eq_of_beq_eq_true hb) h2
              have hids : stIds (fun i => !Nat.beq i id && !Nat.beq i (ovl (inL T) 0 st' m).length) (ovl (inL T) 0 st' m ++ [b]) = true := by
                refine stIds_of (fun j o' hj => bodyIds_mono mono o' ?_)
                by_cases hjl : j < st.length
                · rw [List.getElem?_append_left (by omega), ovl_get _ _ _ _ (by omega), Nat.zero_add] at hj
                  split at hj
                  · exact stIds_get hX j o' hj
                  · rename_i hnn
                    have hTj : inL T j = true := by
                      cases hq : inL T j with
                      | true => rfl
                      | false => exact absurd ⟨by omega, hq⟩ hnn
                    have hji : j ≠ id := by rintro rfl; rw [hTid] at hTj; cases hTj
                    refine stIds_get c11 j o' ?_
                    rw [List.getElem?_set, if_neg (fun e => hji e.symm), ovl_get _ _ _ _ (by omega), Nat.zero_add, if_neg (by rw [hTj]; simp)]
                    exact hj
                · rw [List.getElem?_append_right (by omega), hlo] at hj
                  have : j - st.length = 0 := by
                    have := (List.getElem?_eq_some_iff.1 hj).1
                    simp at this; omega
                  rw [this] at hj
                  simp at hj
                  subst hj
                  exact c12
              obtain ⟨s1, s2, s3⟩ := r1.revive hdd hids
              have r2' := r2.revive (by omega) s2 c6
              rw [hlo] at r2' s1 s3
              have efin : (ovl (inL T) 0 st' m).set id b = ovl (inL (id :: T)) 0 st' ((ovl (inL T) 0 st m).set id b) := by
                have hle : st'.length ≤ ((ovl (inL T) 0 st m).set id b).length := by rw [List.length_set, ovl_len _ _ _ (by omega)]; omega
                refine st_ext (by rw [List.length_set, ovl_len _ _ _ hle, List.length_set, ovl_len _ _ _ (by omega), ovl_len _ _ _ (by omega)]) (fun x hx => ?_)
                rw [List.length_set, hlo] at hx
                rw [ovl_get _ _ _ _ hle, Nat.zero_add, hcons]
                by_cases hxi : x = id
                · subst hxi
                  rw [Nat.beq_refl, List.getElem?_set, if_pos rfl, if_pos (by omega)]
                  simp only [Bool.true_or, Bool.true_eq_false, and_false, if_false]
                  rw [List.getElem?_set, if_pos rfl, if_pos (by rw [ovl_len _ _ _ (by omega)]; omega)]
                · have hbx : Nat.beq x id = false := by cases hq : Nat.beq x id with | false => rfl | true => exact absurd (Nat.eq_of_beq_eq_true hq) hxi
                  have hset : ∀ q : St, (q.set id b)[x]? = q[x]? := fun q => by rw [List.getElem?_set, if_neg (fun e => hxi e.symm)]
                  rw [hbx, Bool.false_or, hset, hset, ovl_get _ _ _ _ (by omega), ovl_get _ _ _ _ (by omega), Nat.zero_add]
                  cases hTx : inL T x with
                  | false => simp [hl, hx]
                  | true => simp
              have kk := (r3.weaken (fix' := fun i => i ≠ id ∧ i ≠ st.length) (fun i _ => by rw [hmv]; rfl)).trans s3
              refine wp_of_run hrun (hK v w' _ (by show AVRel _ _ (ovl (inL (id :: T)) 0 st' ((ovl (inL T) 0 st m).set id b)) v _; rw [← efin]; exact r2') (by show Rel _ _ (ovl (inL (id :: T)) 0 st' ((ovl (inL T) 0 st m).set id b)); rw [← efin]; exact s1) (by
                show Keeps _ _ _ _ _ _ (ovl (inL (id :: T)) 0 st' ((ovl (inL T) 0 st m).set id b))
                rw [← efin]
                refine ⟨kk.os, kk.tape, kk.output, kk.size, kk.amb, kk.blk, fun x hx hxl => ?_, kk.shp⟩
                refine kk.map x ⟨?_, by omega⟩ hxl
                rintro rfl
                have : inL [x] x = false := hx
                simp [inL] at this))
        · cases h
      · cases h
    · cases h
  · cases h

/-- a call of a function of pure values -/
theorem GX.cal {l : List Oper} {tw2 : List (List Nat × List Nat)} {fr2 : Fr} {st2 : St} (g : Nat) (avs : List AV) (r : AV) (fr1 : Fr) (T : List Nat) (hc : callHdD P n ops l fr = some (g, avs)) (h : PC P g avs r) (hp : pureAs avs = true) (hr : pureA r = true)
    (hT : (match hdO l with | some o => allLks ops o fr T && dstOk n o | none => false) = true) (hX : stIds (fun i => !inL X i) st = true) (hput : (match hdO l with | some o => putL o.dst r (keepF (fun id => !inL [] id) fr) | none => fr) = fr1)
    (hk : GX P n ops X (l.drop 1) tw2 fr1 st fr2 st2) : GX P n ops X l ((T, []) :: tw2) fr st fr2 st2 := by
  cases ho : hdO l with
  | none => rw [ho] at hT; cases hT
  | some o =>
    rw [ho] at hT hput
    have hT2 : (allLks ops o fr T && dstOk n o) = true := hT
    rw [Bool.and_eq_true] at hT2
    have hput2 : putL o.dst r (keepF (fun id => !inL [] id) fr) = fr1 := hput
    subst hput2
    have hl := hd_cons ho
    rw [hl] at hc ⊢
    simp only [callHdD] at hc
    split at hc
    · rename_i hg
      have hcall : callAt P o (looksR ops o fr) = some (g, avs) := by
        have h2 := hT2.2
        unfold dstOk at h2
        cases hdd : o.dst with
        | none => simpa [hdd] using hc
        | some d =>
          rw [hdd] at h2
          have h3 : Nat.ble (d + 1) n = true := h2
          simpa [hdd, h3] using hc
      have hra : idsA (inL T) r = true := idsA_mono (q := fun _ => false) (fun i h => by cases h) r hr
      refine GX.cons (s := ⟨r, T, [], [], st⟩) ⟨dstOk_get hT2.2, rfl, fun _ _ => rfl, fun id h => by simp [inL] at h, fun id h => by simp [inL] at h, allLks_get hT2.1, hra, hX, .inl ⟨hg, ?_⟩⟩ hk
      intro st' ι w act hl' hT' hX' hR hF K Q hK
      have e2 : ovl (inL ([] : List Nat)) 0 st' st = st' := ovl_nil hl'
      refine Yd.call (st := st') hcall h hp hr ι w act hR hF K Q (fun v w' ι' h1 h2 h3 => hK v w' ι' (by rw [e2]; exact h1) (by rw [e2]; exact h2) (by rw [e2]; exact h3.weaken (fun _ _ => trivial)))
    · simp at hc

end
end Go.SX
