/- SX: calls of functions that the model stands in for; loops round by round. -/
import Derived.Test.YtdkmclmdemngfaaDoorSxGenS
import Derived.Laws.Externs
namespace Go.SX
open Go
set_option linter.unusedVariables false
set_option linter.unusedSimpArgs false

section
variable {P : Program} {n n0 : Nat} {loose an : List Nat} {Q : QT} {fr : Fr} {st : St} {c : Code} {ops : Array Oper}

theorem XR.one {k : Nat} (h : XW P n n0 loose c (thenQ (XR P n n0 loose c Q k) Q) fr st) : XR P n n0 loose c Q (k + 1) fr st := h

def scalars : List AV → Option (List Value)
  | [] => some []
  | .one (.pv (.s v)) :: l => match scalars l with
    | some r => some (v :: r)
    | none => none
  | _ => none

def extAt (P : Program) (o : Oper) (fr : Fr) : Option (Nat × List Value) :=
  match o.op with
  | .call ⟨.value f, args, _⟩ =>
    match rv fr f with
    | .one (.pv (.fn g [])) => match scalars (args.toList.map (rv fr)) with
      | some vs => some (g, vs)
      | none => none
    | _ => none
  | _ => none

/-- the model stands in for the function: it gives v at once -/
def ExtC (P : Program) (g : Nat) (vs : List Value) (v : Value) : Prop := ∀ w : World, (callFunc g vs.toArray).run P w = .ok (.value v) w

theorem scalars_sound {ι : IM} {w : World} : ∀ {l : List AV} {vs us : List Value}, scalars l = some vs → us.length = l.length → (∀ (j : Nat) v a, us[j]? = some v → l[j]? = some a → AVRel ι w st v a) → us = vs
  | [], vs, us, h, hl, _ => by
    simp [scalars] at h
    subst h
    exact List.length_eq_zero_iff.1 (by simpa using hl)
  | a :: l, vs, [], h, hl, hr => by simp at hl
  | a :: l, vs, u :: us, h, hl, hr => by
      skip
      cases a <;> try (simp [scalars] at h; done)
      rename_i cv
      cases cv <;> try (simp [scalars] at h; done)
      rename_i p
      cases p <;> try (simp [scalars] at h; done)
      rename_i x
      simp only [scalars] at h
      split at h
      · rename_i r hq
        simp only [Option.some.injEq] at h
        subst h
        have h0 := hr 0 u _ rfl rfl
        have e1 : u = x := scalar_of h0
        have e2 := scalars_sound hq (us := us) (by simpa using hl) (fun j v a h1 h2 => hr (j + 1) v a (by simpa using h1) (by simpa using h2))
        rw [e1, e2]
      · cases h

theorem ext_sound {o : Oper} {g : Nat} {vs : List Value} {v : Value} (h : extAt P o fr = some (g, vs)) (hx : ExtC P g vs v) {ι : IM} {w : World} {a : Act} (hF : FRel n ι w st a fr) : (execOp a.eval o).run P w = .ok (.value v) w := by
  unfold extAt at h
  cases hop : o.op <;> simp only [hop] at h <;> try (cases h; done)
  rename_i cl
  obtain ⟨callee, args, tys⟩ := cl
  cases callee <;> simp only at h <;> try (cases h; done)
  rename_i f
  have hf := rv_rel hF f
  split at h
  · rename_i g' hq
    split at h
    · rename_i us hs
      simp only [Option.some.injEq, Prod.mk.injEq] at h
      obtain ⟨rfl, rfl⟩ := h
      rw [hq] at hf
      have hp := pure_of (cv_of hf)
      have e := scalars_sound (st := st) (ι := ι) (w := w) hs (us := args.toList.map a.eval) (by simp) (fun j v av h1 h2 => by
        rw [List.getElem?_map, Option.map_eq_some_iff] at h1 h2
        obtain ⟨x, hx, rfl⟩ := h1
        obtain ⟨y, hy, rfl⟩ := h2
        rw [hx] at hy; cases hy
        exact rv_rel hF x)
      generalize hu : a.eval f = u at *
      cases hp with
      | fn _ _ ws hl hv =>
        have : ws = [] := List.length_eq_zero_iff.1 (by simpa using hl)
        subst this
        have e3 : args.map a.eval ++ (#[] : Array Value) = us.toArray := by
          apply Array.ext'
          simp [← e]
        have e4 := hx w
        simp [execOp, hop, resolve, hu, Deferred.ofValue, invoke]
        rw [← e3, Array.append_empty] at e4
        exact e4
    · cases h
  · cases h

def extHd (P : Program) (n : Nat) (ops : Array Oper) (l : List Oper) (fr : Fr) : Option (Nat × List Value) :=
  match l with
  | o :: _ => match guardOk ops o fr with
    | some true => extAt P o fr
    | _ => none
  | [] => none

def avT (us : List Value) : AV := .tp (us.map fun u => .one (.pv (.s u)))

theorem avT_rel {ι : IM} {w : World} {us : List Value} (h : us.all plain = true) : AVRel ι w st (.tuple us.toArray) (avT us) := by
  refine .tp us _ (by simp) (fun j v a h1 h2 => ?_)
  rw [List.getElem?_map, Option.map_eq_some_iff] at h2
  obtain ⟨u, hu, rfl⟩ := h2
  rw [hu] at h1
  cases h1
  exact .one _ _ (.pv _ _ (.s _ (List.all_eq_true.1 h _ (List.mem_of_getElem? hu))))

theorem XO.ext {l : List Oper} (g : Nat) (vs us : List Value) (fr' : Fr) (hc : extHd P n ops l fr = some (g, vs)) (h : ExtC P g vs (.tuple us.toArray)) (hp : us.all plain = true) (hput : putHd n l (avT us) fr = some fr')
    (hk : XO P n n0 loose ops (l.drop 1) Q fr' st) : XO P n n0 loose ops l Q fr st := by
  cases l with
  | nil => simp [extHd] at hc
  | cons o rest =>
    simp only [extHd] at hc
    split at hc
    · rename_i hg
      intro ι w a hR hF
      have hrun := ext_sound hc h hF (w := w)
      have hw := guard_sound hg hF
      refine wpList_step fun K hK => ?_
      rw [if_pos hw]
      simp only [Oper.wp, hrun, Oper.upon]
      exact hK _ _ (hk ι w _ hR (putF_rel hput hF (avT_rel hp)))
    · simp at hc

def extHdD (P : Program) (n : Nat) (ops : Array Oper) (l : List Oper) (fr : Fr) : Option (Nat × List Value) :=
  match l with
  | o :: _ => match guardOk ops o (looksR ops o fr) with
    | some true => bif (match o.dst with | some d => Nat.ble (d + 1) n | none => true) then extAt P o (looksR ops o fr) else none
    | _ => none
  | [] => none

theorem DX.ext {l : List Oper} {fr2 : Fr} (g : Nat) (vs us : List Value) (fr1 : Fr) (hc : extHdD P n ops l fr = some (g, vs)) (h : ExtC P g vs (.tuple us.toArray)) (hp : us.all plain = true) (hput : putHdD l (avT us) fr = fr1)
    (hk : DX P n st ops (l.drop 1) fr1 fr2) : DX P n st ops l fr fr2 := by
  obtain ⟨as2, hk⟩ := hk
  cases l with
  | nil => simp [extHdD] at hc
  | cons o rest =>
    simp only [extHdD] at hc
    split at hc
    · rename_i hg
      cases hb : (match o.dst with | some d => Nat.ble (d + 1) n | none => true) with
      | false => simp [hb] at hc
      | true =>
        simp only [hb, cond_true] at hc
        simp only [putHdD] at hput
        subst hput
        obtain ⟨k1, k2⟩ := hk
        simp only [List.drop_succ_cons, List.drop_zero] at k1 k2
        refine ⟨avT us :: as2, ⟨⟨fun d hd => ?_, .inl ⟨hg, ?_⟩⟩, k1⟩, k2⟩
        · rw [hd] at hb
          exact Nat.le_of_ble_eq_true hb
        · intro ι w a hR hF K Q hK
          have hrun := ext_sound hc h hF (w := w)
          simp only [Oper.wp, hrun, Oper.upon]
          exact hK _ w ι (avT_rel hp) hR .refl
    · simp at hc

/-! ### math/bits -/

theorem ext_Add64 {g : Nat} {fn : Func} (hf : P.funcs[g]? = some fn) (hname : (fn.name == "runtime.NumGoroutine") = false) (hb : fn.body.isNone = true) (hn : Extern.findNext fn = none) (he : Extern.find fn = some add64Entry)
    {x y c : Int} (hx : 0 ≤ x) (hy : 0 ≤ y) (hc0 : 0 ≤ c) (hc : c ≤ 1) :
    ExtC P g [.int .u64 x, .int .u64 y, .int .u64 c] (.tuple [.int .u64 ((x + y + c) % 18446744073709551616), .int .u64 ((x + y + c) / 18446744073709551616)].toArray) := by
  intro w
  rw [run_callFunc_extern hf hname hb hn he]
  have := run_add64 (P := P) x y c hx hy hc0 hc w
  rw [this]; rfl

/-- the model's own row -/
def sub64E : Array Value → Sem Value := (Extern.MathBitsCarry.rows.getD 1 ("", fun _ => pure undef)).2

theorem run_sub64E (x y b : Nat) (hb : b ≤ 1) (w : World) :
    (sub64E #[.int .u64 x, .int .u64 y, .int .u64 b]).run P w =
      .ok (.tuple #[.int .u64 (((x + 18446744073709551616 - y - b) % 18446744073709551616 : Nat) : Int), .int .u64 ((if x < y + b then 1 else 0 : Nat) : Int)]) w := by
  have : b = 0 ∨ b = 1 := by omega
  rcases this with rfl | rfl <;> rfl

theorem ext_Sub64 {g : Nat} {fn : Func} (hf : P.funcs[g]? = some fn) (hname : (fn.name == "runtime.NumGoroutine") = false) (hb : fn.body.isNone = true) (hn : Extern.findNext fn = none) (he : Extern.find fn = some sub64E)
    {x y c : Int} (hx : 0 ≤ x) (hy : 0 ≤ y) (hy2 : y < 18446744073709551616) (hc0 : 0 ≤ c) (hc : c ≤ 1) :
    ExtC P g [.int .u64 x, .int .u64 y, .int .u64 c] (.tuple [.int .u64 ((x - y - c) % 18446744073709551616), .int .u64 (if x < y + c then 1 else 0)].toArray) := by
  intro w
  rw [run_callFunc_extern hf hname hb hn he]
  obtain ⟨X, rfl⟩ := Int.eq_ofNat_of_zero_le hx
  obtain ⟨Y, rfl⟩ := Int.eq_ofNat_of_zero_le hy
  obtain ⟨C, rfl⟩ := Int.eq_ofNat_of_zero_le hc0
  have := run_sub64E (P := P) X Y C (by omega) w
  rw [this]
  have e1 : (((X + 18446744073709551616 - Y - C) % 18446744073709551616 : Nat) : Int) = ((X : Int) - Y - C) % 18446744073709551616 := by omega
  have e2 : ((if X < Y + C then 1 else 0 : Nat) : Int) = if (X : Int) < Y + C then 1 else 0 := by split <;> split <;> omega
  rw [e1, e2]; rfl

end
end Go.SX
