/- SX, fourteenth part: calls, functions, straight code in one step. -/
import Derived.Test.YtdkmclmdemngfaaDoorSxDraw
namespace Go.SX
open Go
set_option linter.unusedVariables false
set_option linter.unusedSimpArgs false
set_option linter.unnecessarySimpa false

section
variable {P : Program} {n n0 : Nat} {loose an : List Nat} {Q : QT} {fr : Fr} {st : St} {c : Code} {ops : Array Oper}

/-! ### quiet operations -/

def quietOp : Op → Bool
  | .move _ | .assign _ | .pick .. | .alloc _ | .box .. | .build .. | .buildSlice .. | .load .. | .nilCheck _ | .binOp .. | .unOp .. | .convert .. | .makeFunc ..
  | .slice .. | .fieldAddr .. | .field .. | .indexAddr .. | .index .. | .extract .. => true
  | .call ⟨.builtin .len, _, _⟩ | .call ⟨.builtin .max, _, _⟩ | .call ⟨.builtin .min, _, _⟩ => true
  | _ => false

theorem ldAt_st {t : TypeId} {c : CV} {hs : HS} {out : Out} (h : ldAt P t c st hs = some out) : out.st = st ∧ out.mv = none := by
  unfold ldAt at h
  split at h
  · split at h
    · split at h
      · simp only [Option.map_eq_some_iff] at h; obtain ⟨_, _, rfl⟩ := h; exact ⟨rfl, rfl⟩
      · simp at h
    · split at h
      · rename_i sz _ _ _ _ _
        cases hz : Nat.beq sz 0 with
        | false => simp_all
        | true => simp only [hz, cond_true, Option.map_eq_some_iff] at h; obtain ⟨_, _, rfl⟩ := h; exact ⟨rfl, rfl⟩
      · rename_i sz _ _ _ sz' _ _
        cases hz : Nat.beq sz sz' with
        | false => simp_all
        | true =>
          simp only [hz, cond_true] at h
          split at h
          · simp only [Option.map_eq_some_iff] at h; obtain ⟨_, _, rfl⟩ := h; exact ⟨rfl, rfl⟩
          · simp at h
      · simp at h
    · simp at h
  · simp at h

theorem ev_quiet {o : Oper} {hs : HS} {out : Out} (hq : quietOp o.op = true) (h : ev P false o fr st hs = some out) : out.st = st ∧ out.mv = none := by
  unfold ev at h
  cases hop : o.op <;> simp only [hop, quietOp] at hq h <;> first | (cases hq; done) | skip
  case move => simp only [Option.some.injEq] at h; subst h; exact ⟨rfl, rfl⟩
  case assign => simp only [Option.some.injEq] at h; subst h; exact ⟨rfl, rfl⟩
  case pick => split at h <;> first | (simp only [Option.some.injEq] at h; subst h; exact ⟨rfl, rfl⟩) | (simp at h)
  case alloc => split at h <;> first | (split at h <;> first | (simp only [Option.some.injEq] at h; subst h; exact ⟨rfl, rfl⟩) | (simp at h)) | (simp at h)
  case box => split at h <;> first | (split at h <;> first | (simp only [Option.some.injEq] at h; subst h; exact ⟨rfl, rfl⟩) | (simp at h)) | (simp at h)
  case build =>
    split at h
    · simp only [Option.map_eq_some_iff] at h; obtain ⟨_, _, rfl⟩ := h; exact ⟨rfl, rfl⟩
    · simp at h
  case buildSlice t len parts =>
    split at h
    · split at h
      · rename_i sz z pcs _ _ _
        cases hb : (Nat.beq z.length sz && (Nat.ble 1 sz && Nat.ble (len * sz) 1000000)) with
        | false => simp [hb] at h
        | true =>
          simp only [hb, cond_true] at h
          split at h
          · split at h
            · simp only [Option.some.injEq] at h; subst h; exact ⟨rfl, rfl⟩
            · simp at h
          · simp at h
      · simp at h
    · simp at h
  case load => split at h <;> first | exact ldAt_st h | (simp at h)
  case nilCheck => split at h <;> first | (simp only [Option.some.injEq] at h; subst h; exact ⟨rfl, rfl⟩) | (simp at h)
  case binOp => split at h <;> first | (split at h <;> first | (simp only [Option.some.injEq] at h; subst h; exact ⟨rfl, rfl⟩) | (simp at h)) | (simp at h)
  case unOp => split at h <;> first | (simp only [Option.some.injEq] at h; subst h; exact ⟨rfl, rfl⟩) | (simp at h)
  case convert => split at h <;> first | (simp only [Option.some.injEq] at h; subst h; exact ⟨rfl, rfl⟩) | (simp at h)
  case makeFunc fn first captured =>
    cases fn <;> try (simp at h; done)
    simp only at h
    split at h <;> first | (simp only [Option.some.injEq] at h; subst h; exact ⟨rfl, rfl⟩) | (simp at h)
  case slice =>
    split at h
    · rename_i c l hh m _ _ _ _
      cases hb : (m.isNone || hh.isSome) with
      | false => simp [hb] at h
      | true =>
        simp only [hb, cond_true] at h
        split at h <;> first | (simp only [Option.some.injEq] at h; subst h; exact ⟨rfl, rfl⟩) | (simp at h)
    · simp at h
  case fieldAddr =>
    split at h
    · simp only [Option.map_eq_some_iff] at h; obtain ⟨_, _, rfl⟩ := h; exact ⟨rfl, rfl⟩
    · simp at h
  case field =>
    split at h
    · simp only [Option.map_eq_some_iff] at h; obtain ⟨_, _, rfl⟩ := h; exact ⟨rfl, rfl⟩
    · simp at h
  case indexAddr => split at h <;> first | (split at h <;> first | (simp only [Option.some.injEq] at h; subst h; exact ⟨rfl, rfl⟩) | (simp at h)) | (simp at h)
  case index =>
    split at h
    · simp only [Option.some.injEq] at h; subst h; exact ⟨rfl, rfl⟩
    · split at h
      · simp only [Option.map_eq_some_iff] at h; obtain ⟨_, _, rfl⟩ := h; exact ⟨rfl, rfl⟩
      · simp at h
    · simp at h
  case extract => split at h <;> first | (split at h <;> first | (simp only [Option.some.injEq] at h; subst h; exact ⟨rfl, rfl⟩) | (simp at h)) | (simp at h)
  case call c =>
    obtain ⟨callee, args, tys⟩ := c
    cases callee <;> first | (cases hq; done) | skip
    rename_i b
    cases b <;> first | (cases hq; done) | skip
    case len =>
      simp only at h
      split at h
      · simp only [Option.map_eq_some_iff] at h; obtain ⟨_, _, rfl⟩ := h; exact ⟨rfl, rfl⟩
      · simp at h
    case max =>
      simp only at h
      split at h <;> first | (split at h <;> first | (simp only [Option.some.injEq] at h; subst h; exact ⟨rfl, rfl⟩) | (simp at h)) | (simp at h)
    case min =>
      simp only at h
      split at h <;> first | (split at h <;> first | (simp only [Option.some.injEq] at h; subst h; exact ⟨rfl, rfl⟩) | (simp at h)) | (simp at h)

theorem Yd.ev {o : Oper} {hs : HS} {out : Out} (hq : quietOp o.op = true) (h : SX.ev P false o fr st hs = some out) (hob : AllP out.ob) : Yd P n st o fr out.av := by
  intro ι w a hR hF K Q hK
  obtain ⟨v, w', ι', hrun, hR', hv, k⟩ := ev_sound h hob hR hF
  obtain ⟨e1, e2⟩ := ev_quiet hq h
  rw [e1] at hR' hv k
  rw [e2] at k
  have hk := hK v w' ι' hv hR' (k.weaken (fun _ _ => rfl))
  rcases hrun with h1 | ⟨h1, rfl⟩
  · simp only [Oper.wp, h1, Oper.upon]; exact hk
  · simp only [Oper.wp, h1, Oper.upon]; exact hk

/-- a run of quiet operations in a region that draws -/
structure DS where
  as : List AV
  fr : Fr
  ob : List Prop
  hs : HS

def evDs (P : Program) (n : Nat) (st : St) (ops : Array Oper) : List Oper → Fr → HS → Option DS
  | [], fr, hs => some ⟨[], fr, [], hs⟩
  | o :: l, fr, hs =>
    bif (match o.dst with | some d => Nat.ble (d + 1) n | none => true) then
      match guardOk ops o (looksR ops o fr) with
      | some true =>
        bif quietOp o.op then
          match ev P false o (looksR ops o fr) st hs with
          | some out => match evDs P n st ops l (putL o.dst out.av fr) out.hs with
            | some r => some ⟨out.av :: r.as, r.fr, out.ob ++ r.ob, r.hs⟩
            | none => none
          | none => none
        else none
      | some false => match evDs P n st ops l (putL o.dst (.tp []) fr) hs with
        | some r => some ⟨.tp [] :: r.as, r.fr, r.ob, r.hs⟩
        | none => none
      | none => none
    else none

theorem evDs_sound {rest : List Oper} {as2 : List AV} : ∀ {l : List Oper} {fr : Fr} {hs : HS} {r : DS}, evDs P n st ops l fr hs = some r → AllP r.ob → StepsOk P n st ops rest as2 r.fr → StepsOk P n st ops (l ++ rest) (r.as ++ as2) fr ∧ putAll (l ++ rest) (r.as ++ as2) fr = putAll rest as2 r.fr
  | [], fr, hs, r, h, hob, hk => by
    simp only [evDs, Option.some.injEq] at h
    subst h
    exact ⟨hk, rfl⟩
  | o :: l, fr, hs, r, h, hob, hk => by
    simp only [evDs] at h
    cases hb : (match o.dst with | some d => Nat.ble (d + 1) n | none => true) with
    | false => simp [hb] at h
    | true =>
      simp only [hb, cond_true] at h
      have hbd : ∀ d, o.dst = some d → d < n := by
        intro d hd
        rw [hd] at hb
        exact Nat.le_of_ble_eq_true hb
      split at h
      · rename_i hg
        cases hq : quietOp o.op with
        | false => simp [hq] at h
        | true =>
          simp only [hq, cond_true] at h
          split at h
          · rename_i out hev
            split at h
            · rename_i r' hr
              simp only [Option.some.injEq] at h
              subst h
              obtain ⟨o1, o2⟩ := AllP.append hob
              obtain ⟨i1, i2⟩ := evDs_sound hr o2 hk
              exact ⟨⟨⟨hbd, .inl ⟨hg, Yd.ev hq hev o1⟩⟩, i1⟩, i2⟩
            · simp at h
          · simp at h
      · rename_i hg
        split at h
        · rename_i r' hr
          simp only [Option.some.injEq] at h
          subst h
          obtain ⟨i1, i2⟩ := evDs_sound hr hob hk
          exact ⟨⟨⟨hbd, .inr ⟨hg, rfl⟩⟩, i1⟩, i2⟩
        · simp at h
      · simp at h

/-! ### straight code -/

def evCode (P : Program) (n n0 : Nat) (loose an : List Nat) : Code → Fr → St → HS → Option ES
  | .skip, fr, st, hs => some ⟨.normal, fr, st, hs, []⟩
  | .ret, fr, st, hs => some ⟨.ret, fr, st, hs, []⟩
  | .exit id, fr, st, hs => some ⟨.exit id, fr, st, hs, []⟩
  | .region _ ops draw, fr, st, hs =>
    match draw with
    | false => evOps P n n0 loose an ops ops.toList fr st hs
    | true =>
      bif drawOk ops && P.follows .mixedOrders then
        match evDs P n st ops ops.toList fr hs with
        | some r => some ⟨.normal, r.fr, st, r.hs, r.ob⟩
        | none => none
      else none
  | .seq x y, fr, st, hs =>
    match evCode P n n0 loose an x fr st hs with
    | some ⟨.normal, fr', st', hs', ob⟩ =>
      match evCode P n n0 loose an y fr' st' hs' with
      | some r => some ⟨r.ex, r.fr, r.st, r.hs, ob ++ r.ob⟩
      | none => none
    | r => r
  | .cond x a b, fr, st, hs =>
    match rv fr x with
    | .one (.pv (.s (.bool true))) => evCode P n n0 loose an a fr st hs
    | .one (.pv (.s (.bool false))) => evCode P n n0 loose an b fr st hs
    | _ => none
  | .block id x, fr, st, hs =>
    match evCode P n n0 loose an x fr st hs with
    | some ⟨.exit id', fr', st', hs', ob⟩ => some ⟨bif Nat.beq id' id then .normal else .exit id', fr', st', hs', ob⟩
    | r => r
  | _, _, _, _ => none

theorem evOps_ex : ∀ {l : List Oper} {fr : Fr} {st : St} {hs : HS} {r : ES}, evOps P n n0 loose an ops l fr st hs = some r → r.ex = .normal
  | [], fr, st, hs, r, h => by simp only [evOps, Option.some.injEq] at h; subst h; rfl
  | o :: l, fr, st, hs, r, h => by
    simp only [evOps] at h
    split at h
    · split at h
      · rename_i out _
        cases hmv : mvOk n0 loose out.mv with
        | false => simp [hmv] at h
        | true =>
          simp only [hmv, cond_true] at h
          split at h
          · split at h
            · rename_i r' hr
              simp only [Option.some.injEq] at h
              subst h
              have := evOps_ex hr
              exact this
            · simp at h
          · simp at h
      · simp at h
    · split at h
      · exact evOps_ex h
      · simp at h
    · simp at h

theorem XO.region {id : Nat} (he : c = .region id ops false) (h : XO P n n0 loose ops ops.toList Q fr st) : XW P n n0 loose c Q fr st := by
  subst he
  exact fun ι w a hR hF => wp_region_list (h ι w a hR hF)

theorem XW.run : ∀ {c : Code} {fr : Fr} {st : St} {hs : HS} {r : ES} {Q : QT}, evCode P n n0 loose an c fr st hs = some r → AllP r.ob → Q r.ex r.fr r.st → XW P n n0 loose c Q fr st
  | .skip, fr, st, hs, r, Q, h, hob, hQ => by simp only [evCode, Option.some.injEq] at h; subst h; exact .skip rfl hQ
  | .ret, fr, st, hs, r, Q, h, hob, hQ => by simp only [evCode, Option.some.injEq] at h; subst h; exact .ret rfl hQ
  | .exit id, fr, st, hs, r, Q, h, hob, hQ => by simp only [evCode, Option.some.injEq] at h; subst h; exact .exit rfl hQ
  | .region id ops draw, fr, st, hs, r, Q, h, hob, hQ => by
    simp only [evCode] at h
    cases draw with
    | false =>
      simp only at h
      have hx := evOps_ex h
      rw [hx] at hQ
      have := XO.run (rest := []) h hob (XO.nil (P := P) (n := n) (n0 := n0) (loose := loose) (ops := ops) hQ)
      rw [List.append_nil] at this
      exact XO.region rfl this
    | true =>
      simp only at h
      cases hb : (drawOk ops && P.follows .mixedOrders) with
      | false => simp [hb] at h
      | true =>
        simp only [hb, cond_true] at h
        simp only [Bool.and_eq_true] at hb
        split at h
        · rename_i r' hr
          simp only [Option.some.injEq] at h
          subst h
          obtain ⟨i1, i2⟩ := evDs_sound (rest := []) (as2 := []) hr hob trivial
          simp only [List.append_nil] at i1 i2
          exact XW.draw rfl hb.2 hb.1 i1 (by rw [i2]; exact hQ)
        · simp at h
  | .seq x y, fr, st, hs, r, Q, h, hob, hQ => by
    simp only [evCode] at h
    split at h
    · rename_i fr' st' hs' ob hx
      split at h
      · rename_i r' hy
        simp only [Option.some.injEq] at h
        subst h
        obtain ⟨o1, o2⟩ := AllP.append hob
        exact XW.seq rfl fun K hK => XW.run hx o1 (hK _ _ (XW.run hy o2 hQ))
      · simp at h
    · rename_i rr hne
      refine XW.seq rfl fun K hK => XW.run h hob ?_
      have : r.ex ≠ .normal := by
        intro he
        obtain ⟨ex, f, s, hh, o⟩ := r
        simp only at he
        subst he
        exact hne f s hh o h
      unfold thenQ
      split
      · rename_i e; exact absurd e this
      · exact hQ
  | .cond x a b, fr, st, hs, r, Q, h, hob, hQ => by
    simp only [evCode] at h
    split at h
    · rename_i hx
      exact XW.cond rfl hx (fun _ => XW.run h hob hQ) (fun e => by cases e)
    · rename_i hx
      exact XW.cond rfl hx (fun e => by cases e) (fun _ => XW.run h hob hQ)
    · simp at h
  | .block id x, fr, st, hs, r, Q, h, hob, hQ => by
    simp only [evCode] at h
    split at h
    · rename_i id' fr' st' hs' ob hx
      simp only [Option.some.injEq] at h
      subst h
      refine XW.block rfl (XW.run hx hob ?_)
      simp only [blockQ]
      cases hb : Nat.beq id' id with
      | true => simp only [hb, cond_true] at hQ ⊢; exact hQ
      | false => simp only [hb, cond_false] at hQ ⊢; exact hQ
    · rename_i rr hne
      refine XW.block rfl (XW.run h hob ?_)
      have : ∀ id', r.ex ≠ .exit id' := by
        intro id' he
        obtain ⟨ex, f, s, hh, o⟩ := r
        simp only at he
        subst he
        exact hne id' f s hh o h
      unfold blockQ
      split
      · rename_i e; exact absurd e (this _)
      · exact hQ
  | .loop _, _, _, _, _, _, h, _, _ => by simp [evCode] at h
  | .rangeFunc .., _, _, _, _, _, h, _, _ => by simp [evCode] at h
  | .scope _, _, _, _, _, _, h, _, _ => by simp [evCode] at h
  | .label _, _, _, _, _, _, h, _, _ => by simp [evCode] at h
  | .goto _, _, _, _, _, _, h, _, _ => by simp [evCode] at h
  | .refuse _, _, _, _, _, _, h, _, _ => by simp [evCode] at h

end

end Go.SX
