/- SX: maps whose keys and elements are single plain cells. -/
import Derived.Test.YtdkmclmdemngfaaDoorSxBox
namespace Go.SX
open Go
set_option linter.unusedVariables false
set_option linter.unusedSimpArgs false

/-- keys: how they stand in a map -/
structure KEnc (κ : Type) where
  enc : κ → Value
  desc : TypeDesc
  eq : κ → κ → Bool
  same : ∀ a b, Instr.sameNow desc (enc a) (enc b) = some (eq a b)
  bits : ∀ a b, eq a b = true → Instr.sameBits 10000 (enc b) (enc a) = true
  flat : ∀ (P : Program) (t : TypeId) (e : Bool) (a : κ) (w : World), P.underlying t = some desc → (Instr.checkKey e 10000 t (enc a)).run P w = .ok () w

/-- elements -/
structure EEnc (α : Type) where
  enc : α → Value
  pl : ∀ a, plain (enc a) = true

def kInt (k : IntKind) : KEnc Int where
  enc n := .int k n
  desc := .int k
  eq a b := a == b
  same a b := by simp [Instr.sameNow]
  bits a b h := by
    have : a = b := by simpa using h
    subst this
    simp [Instr.sameBits]
  flat P t e a w h := by
    rw [show (10000 : Nat) = 9999 + 1 from rfl, Instr.checkKey]
    simp [run_underlying h]

def kStr : KEnc ByteArray where
  enc s := .string s
  desc := .string
  eq a b := a == b
  same a b := by simp [Instr.sameNow]
  bits a b h := by
    have h' : (a.data == b.data) = true := h
    have e : a.data = b.data := by simpa using h'
    show (b.data == a.data) = true
    simp [e]
  flat P t e a w h := by
    rw [show (10000 : Nat) = 9999 + 1 from rfl, Instr.checkKey]
    simp [run_underlying h]

def eInt (k : IntKind) : EEnc Int := ⟨fun n => .int k n, fun _ => rfl⟩
def eBool : EEnc Bool := ⟨fun b => .bool b, fun _ => rfl⟩
def eStr : EEnc ByteArray := ⟨fun b => .string b, fun _ => rfl⟩

section
variable {κ α : Type} (K : KEnc κ) (E : EEnc α)

def mapEs : List (κ × α) → Nat → List MapEntry
  | [], _ => []
  | (k, v) :: l, i => ⟨K.enc k, E.enc v, i⟩ :: mapEs l (i + 1)

def mapObj (m : List (κ × α)) : Obj := .map (mapEs K E m 0).toArray m.length

def mget (m : List (κ × α)) (k : κ) : Option α := match m with
  | [] => none
  | (k', v) :: l => if K.eq k k' then some v else mget l k

def mset (m : List (κ × α)) (k : κ) (v : α) : List (κ × α) := match m with
  | [] => [(k, v)]
  | (k', v') :: l => if K.eq k k' then (k, v) :: l else (k', v') :: mset l k v

theorem mapEs_len : ∀ (m : List (κ × α)) (i : Nat), (mapEs K E m i).length = m.length
  | [], _ => rfl
  | (_, _) :: l, i => by simp [mapEs, mapEs_len l]

/-- where a key stands -/
def mpos (m : List (κ × α)) (k : κ) : Option Nat := match m with
  | [] => none
  | (k', _) :: l => if K.eq k k' then some 0 else (mpos l k).map (· + 1)

theorem find_eq : ∀ (m : List (κ × α)) (k : κ) (i b : Nat), Instr.findNow K.desc (K.enc k) (mapEs K E m b) i = some ((mpos K m k).bind fun j => (mget K m k).map fun v => (i + j, E.enc v))
  | [], k, i, b => by simp [mapEs, Instr.findNow, mpos]
  | (k', v) :: l, k, i, b => by
    simp only [mapEs, Instr.findNow, K.same]
    cases h : K.eq k k' with
    | true => simp [mpos, mget, h]
    | false =>
      simp only [mpos, mget, h, if_false, Bool.false_eq_true]
      rw [find_eq l k (i + 1) (b + 1)]
      cases mpos K l k with
      | none => rfl
      | some j =>
        cases mget K l k with
        | none => rfl
        | some u => simp; omega

theorem mget_pos : ∀ (m : List (κ × α)) (k : κ), (mpos K m k).isSome = (mget K m k).isSome
  | [], k => rfl
  | (k', v) :: l, k => by
    simp only [mpos, mget]
    cases h : K.eq k k' with
    | true => simp
    | false => simpa using mget_pos l k

theorem mset_none : ∀ (m : List (κ × α)) (k : κ) (v : α) (b : Nat), mpos K m k = none → mapEs K E (mset K m k v) b = mapEs K E m b ++ [⟨K.enc k, E.enc v, b + m.length⟩]
  | [], k, v, b, _ => by simp [mset, mapEs]
  | (k', v') :: l, k, v, b, h => by
    simp only [mpos] at h
    cases hq : K.eq k k' with
    | true => simp [hq] at h
    | false =>
      simp only [hq, if_false, Bool.false_eq_true, Option.map_eq_none_iff] at h
      simp only [mset, hq, if_false, Bool.false_eq_true, mapEs, mset_none l k v (b + 1) h, List.cons_append, List.length_cons]
      rw [show b + 1 + l.length = b + (l.length + 1) by omega]

theorem mset_len_none : ∀ (m : List (κ × α)) (k : κ) (v : α), mpos K m k = none → (mset K m k v).length = m.length + 1
  | [], k, v, _ => rfl
  | (k', v') :: l, k, v, h => by
    simp only [mpos] at h
    cases hq : K.eq k k' with
    | true => simp [hq] at h
    | false =>
      simp only [hq, if_false, Bool.false_eq_true, Option.map_eq_none_iff] at h
      simp [mset, hq, mset_len_none l k v h]

theorem mset_some : ∀ (m : List (κ × α)) (k : κ) (v : α) (b j : Nat), mpos K m k = some j →
    ∃ e : MapEntry, (mapEs K E m b)[j]? = some e ∧ (∃ k', e.key = K.enc k' ∧ K.eq k k' = true) ∧ mapEs K E (mset K m k v) b = (mapEs K E m b).modify j (fun e => { e with key := K.enc k, val := E.enc v }) ∧ (mset K m k v).length = m.length
  | [], k, v, b, j, h => by simp [mpos] at h
  | (k', v') :: l, k, v, b, j, h => by
    simp only [mpos] at h
    cases hq : K.eq k k' with
    | true =>
      simp [hq] at h
      subst h
      exact ⟨_, rfl, ⟨k', rfl, hq⟩, by simp [mset, hq, mapEs], by simp [mset, hq]⟩
    | false =>
      simp only [hq, if_false, Bool.false_eq_true, Option.map_eq_some_iff] at h
      obtain ⟨j', h, rfl⟩ := h
      obtain ⟨e, h1, h2, h3, h4⟩ := mset_some l k v (b + 1) j' h
      refine ⟨e, by simpa [mapEs] using h1, h2, ?_, by simp [mset, hq, h4]⟩
      simp only [mset, hq, if_false, Bool.false_eq_true, mapEs, h3, List.modify_succ_cons]


variable {P : Program} {n n0 : Nat} {loose an : List Nat} {Q : QT} {fr : Fr} {st : St} {c : Code} {ops : Array Oper} {l : List Oper}

/-! ### a new map -/

def mkMapHd (ops : Array Oper) (l : List Oper) (fr : Fr) : Bool :=
  match l with
  | o :: _ => match guardOk ops o fr with
    | some true => match o.op with
      | .makeMap _ none => true
      | _ => false
    | _ => false
  | [] => false

theorem XO.mkm (fr' : Fr) (st' : St) (hc : mkMapHd ops l fr = true) (hput : putHd n l (.one (.mp st.length)) fr = some fr') (hst : st ++ [.raw (mapObj K E [])] = st')
    (hk : XO P n n0 loose ops (l.drop 1) Q fr' st') : XO P n n0 loose ops l Q fr st := by
  cases l with
  | nil => simp [mkMapHd] at hc
  | cons o rest =>
    simp only [mkMapHd] at hc
    split at hc
    · rename_i hg
      cases hop : o.op <;> simp only [hop] at hc <;> try (cases hc; done)
      rename_i t r
      cases r with
      | some x => simp at hc
      | none =>
        subst hst
        intro ι w a hR hF
        have hw := guard_sound hg hF
        have hrun : (execOp a.eval o).run P w = .ok (.value (.map (some w.heap.size))) (w.alloc (.map #[] 0)) := by
          simp [execOp, hop, Instr.makeMap]
        have hR' : Rel (ι.add st.length (some w.heap.size)) (w.alloc (.map #[] 0)) (st ++ [.raw (mapObj K E [])]) :=
          hR.add (Ext.alloc w _) (fun x e => by cases e; exact Nat.le_refl _) ⟨w.heap.size, by simp [IM.add], heap_alloc_at w _⟩
        have k : Keeps all ι w st (ι.add st.length (some w.heap.size)) (w.alloc (.map #[] 0)) (st ++ [.raw (mapObj K E [])]) :=
          keeps_add (Ext.alloc w _) _ _ (fun x e => by cases e; exact Nat.le_refl _)
        have hres : AVRel (ι.add st.length (some w.heap.size)) (w.alloc (.map #[] 0)) (st ++ [.raw (mapObj K E [])]) (.map (some w.heap.size)) (.one (.mp st.length)) :=
          .one _ _ (VRel.mp st.length w.heap.size (by simp) (by simp [IM.add]))
        refine wpList_step fun K hK => ?_
        rw [if_pos hw]
        simp only [Oper.wp, hrun, Oper.upon]
        exact hK _ _ (wpList_post (fun e a w h => h.trans (k.weaken (fun _ _ => trivial))) (hk _ _ _ hR' (putF_rel hput (hF.mono' k) hres)))
    · simp at hc

/-! ### reading -/

def lookHd (P : Program) (ops : Array Oper) (l : List Oper) (fr : Fr) : Option (Nat × Value × TypeId × TypeId) :=
  match l with
  | o :: _ => match guardOk ops o fr with
    | some true => match o.op with
      | .lookup t x i false => match P.underlying t with
        | some (.map kt et) => match rv fr x, rv fr i with
          | .one (.mp id), .one (.pv (.s v)) => some (id, v, kt, et)
          | _, _ => none
        | _ => none
      | _ => none
    | _ => none
  | [] => none

theorem mp_val {ι : IM} {w : World} {v : Value} {id : Nat} (h : AVRel ι w st v (.one (.mp id))) : ∃ b, v = .map (some b) ∧ id < st.length ∧ ι id = some b := by
  cases h with
  | one _ _ h =>
    cases h with
    | mp _ b hid hb => exact ⟨b, rfl, hid, hb⟩

theorem run_find {kt : TypeId} (hkt : P.underlying kt = some K.desc) (m : List (κ × α)) (k : κ) (w : World) :
    (Instr.findKey kt (K.enc k) (mapEs K E m 0)).run P w = .ok ((mpos K m k).bind fun j => (mget K m k).map fun v => (j, E.enc v)) w := by
  simp [Instr.findKey, run_underlying hkt, find_eq]

theorem XO.look (id : Nat) (m : List (κ × α)) (k : κ) (z : α) (kt et : TypeId) (fr' : Fr) (hc : lookHd P ops l fr = some (id, K.enc k, kt, et)) (hkt : P.underlying kt = some K.desc) (hz : (P.info? et).bind (·.zero) = some (E.enc z))
    (ho : st[id]? = some (.raw (mapObj K E m))) (hput : putHd n l (.one (.pv (.s (E.enc ((mget K m k).getD z))))) fr = some fr')
    (hk : XO P n n0 loose ops (l.drop 1) Q fr' st) : XO P n n0 loose ops l Q fr st := by
  cases l with
  | nil => simp [lookHd] at hc
  | cons o rest =>
    simp only [lookHd] at hc
    split at hc
    · rename_i hg
      split at hc
      · rename_i t x i hop
        split at hc
        · rename_i kt' et' hu
          split at hc
          · rename_i id' v hx hi
            simp only [Option.some.injEq, Prod.mk.injEq] at hc
            obtain ⟨rfl, rfl, rfl, rfl⟩ := hc
            intro ι w a hR hF
            have h1 := rv_rel hF x
            rw [hx] at h1
            obtain ⟨b, hv, hid, hb⟩ := mp_val h1
            have h2 := rv_rel hF i
            rw [hi] at h2
            have hiv := scalar_of h2
            obtain ⟨b', e1, e2⟩ := hR.obj id' _ ho
            rw [hb] at e1; cases e1
            have hw := guard_sound hg hF
            obtain ⟨inf, hinf, hzero⟩ := Option.bind_eq_some_iff.1 hz
            have hrun : (execOp a.eval o).run P w = .ok (.value (E.enc ((mget K m k).getD z))) w := by
              have hpos := mget_pos K m k
              have hf := run_find (P := P) K E hkt m k w
              simp only [execOp, hop, hv, hiv, Instr.lookup]
              cases hp : mpos K m k with
              | none =>
                rw [hp] at hpos hf
                have hg0 : mget K m k = none := by cases h : mget K m k <;> simp [h] at hpos ⊢
                simp [run_underlying hu, getObj, Sem.run, e2, mapObj, K.flat P _ _ k w hkt, hf, Result.andThen, run_zero hinf hzero, hg0]
              | some j =>
                rw [hp] at hpos hf
                cases hq : mget K m k with
                | none => simp [hq] at hpos
                | some u =>
                  rw [hq] at hf
                  simp [run_underlying hu, getObj, Sem.run, e2, mapObj, K.flat P _ _ k w hkt, hf, Result.andThen]
            refine wpList_step fun K' hK => ?_
            rw [if_pos hw]
            simp only [Oper.wp, hrun, Oper.upon]
            exact hK _ _ (hk _ _ _ hR (putF_rel hput hF (.one _ _ (.pv _ _ (.s _ (E.pl _))))))
          · cases hc
        · cases hc
      · cases hc
    · cases hc

/-! ### writing -/

def updHd (P : Program) (ops : Array Oper) (l : List Oper) (fr : Fr) : Option (Nat × Value × Value × TypeId) :=
  match l with
  | o :: _ => match guardOk ops o fr with
    | some true => match o.dst, o.op with
      | none, .mapUpdate t x i y => match P.underlying t with
        | some (.map kt et) => match rv fr x, rv fr i, rv fr y with
          | .one (.mp id), .one (.pv (.s v)), .one (.pv (.s u)) => some (id, v, u, kt)
          | _, _, _ => none
        | _ => none
      | _, _ => none
    | _ => none
  | [] => none

theorem XO.mupd (id : Nat) (m : List (κ × α)) (k : κ) (u : α) (kt : TypeId) (st' : St) (hc : updHd P ops l fr = some (id, K.enc k, E.enc u, kt)) (hkt : P.underlying kt = some K.desc)
    (ho : st[id]? = some (.raw (mapObj K E m))) (hst : st.set id (.raw (mapObj K E (mset K m k u))) = st')
    (hk : XO P n n0 loose ops (l.drop 1) Q fr st') : XO P n n0 loose ops l Q fr st := by
  cases l with
  | nil => simp [updHd] at hc
  | cons o rest =>
    simp only [updHd] at hc
    split at hc
    · rename_i hg
      split at hc
      · rename_i t x i y hdst hop
        split at hc
        · rename_i kt' et' hu
          split at hc
          · rename_i id' v v2 hx hi hy
            simp only [Option.some.injEq, Prod.mk.injEq] at hc
            obtain ⟨rfl, rfl, rfl, rfl⟩ := hc
            subst hst
            intro ι w a hR hF
            have h1 := rv_rel hF x
            rw [hx] at h1
            obtain ⟨b, hv, hid, hb⟩ := mp_val h1
            have h2 := rv_rel hF i
            rw [hi] at h2
            have hiv := scalar_of h2
            have h3 := rv_rel hF y
            rw [hy] at h3
            have hyv := scalar_of h3
            obtain ⟨b', e1, e2⟩ := hR.obj id' _ ho
            rw [hb] at e1; cases e1
            have hw := guard_sound hg hF
            have hbl := lt_of_some e2
            have hrun : (execOp a.eval o).run P w = .ok .skip { w with heap := w.heap.setIfInBounds b (mapObj K E (mset K m k u)) } := by
              have hpos := mget_pos K m k
              have hf := run_find (P := P) K E hkt m k w
              simp only [execOp, hop, hv, hiv, hyv, Instr.mapUpdate]
              cases hp : mpos K m k with
              | none =>
                rw [hp] at hf
                have e3 := mset_none K E m k u 0 hp
                have e4 := mset_len_none K m k u hp
                simp [run_underlying hu, getObj, setObj, Sem.run, e2, mapObj, K.flat P _ _ k w hkt, hf, Result.andThen, e3, e4]
              | some j =>
                rw [hp] at hpos hf
                cases hq : mget K m k with
                | none => simp [hq] at hpos
                | some u' =>
                  rw [hq] at hf
                  obtain ⟨e, g1, ⟨k', g2, g3⟩, g4, g5⟩ := mset_some K E m k u 0 j hp
                  have hs := K.bits k k' g3
                  simp [run_underlying hu, getObj, setObj, Sem.run, e2, mapObj, K.flat P _ _ k w hkt, hf, Result.andThen, g1, g2, Instr.keyThatStays, hs, g4, g5]
            have hwr : Wrote w { w with heap := w.heap.setIfInBounds b (mapObj K E (mset K m k u)) } b := by
              refine ⟨rfl, rfl, rfl, by simp, fun y hy => ?_, fun c ty fz h => ?_⟩
              · simp [Array.getElem?_setIfInBounds, Ne.symm hy]
              · rw [e2] at h; simp [mapObj] at h
            have ha : Body.alive (.raw (mapObj K E m)) := by simp [Body.alive]
            have kk := keeps_set (body' := .raw (mapObj K E (mset K m k u))) ho ha hb hwr
            have hR' := hR.set (body' := .raw (mapObj K E (mset K m k u))) ho ha hb hwr ⟨b, hb, by simp [Array.getElem?_setIfInBounds, hbl]⟩
            refine wpList_step fun K' hK => ?_
            rw [if_pos hw]
            simp only [Oper.wp, hrun, Oper.upon]
            refine hK _ _ (wpList_post (fun e a w h => h.trans (kk.weaken (fun _ _ => trivial))) (hk _ _ _ hR' ?_))
            rw [hdst]
            exact hF.mono' kk
          · cases hc
        · cases hc
      · cases hc
    · cases hc

end
end Go.SX
