/- SX, seventh part: append. -/
import Derived.Test.YtdkmclmdemngfaaDoorSxMem3
namespace Go.SX
open Go
set_option linter.unusedVariables false
set_option linter.unusedSimpArgs false
set_option linter.unnecessarySimpa false

variable {P : Program} {ι : IM} {w : World} {st : St}

theorem run_append_room_row (t tx ty e : TypeId) (i : TypeInfo) (ht : P.underlying t = some (.slice e)) (hi : P.info? e = some i) (b sLen sCap : Nat) (x : Value) (n : Nat) (news : List Value) (hs : Src P i.size tx x n news w)
    (hroom : sLen + n ≤ sCap) {c : Array Value} {ety : TypeId} (hb : w.heap[b]? = some (.cells c ety (0, 0))) (hfit : sLen * i.size + news.length ≤ c.size) :
    (Builtin.append_ #[t, tx] ty #[.slice (some ⟨b, 0, none⟩) sLen sCap, x]).run P w =
      .ok (.slice (some ⟨b, 0, none⟩) (sLen + n) sCap) (w.setRow b (c.toList.take (sLen * i.size) ++ news ++ c.toList.drop (sLen * i.size + news.length)).toArray) := by
  have hst := run_storeCells_at P b (sLen * i.size) ety news 0 c w hb (by simpa using hfit) hs.one
  simp only [Nat.add_zero] at hst
  rcases hs.kind with ⟨e', hk⟩ | hk <;> simp [Builtin.append_, run_underlying ht, run_underlying hk, sizeOf, typeInfo, hi, hs.len, hroom, hs.cells, Addr.add_lit, hst]

/-- bytes as elements -/
def byteEls (s : ByteArray) : List (List PV) := s.data.toList.map fun b => [.s (.int .u8 b.toNat)]

/-- what is appended -/
def srcEls (P : Program) (st : St) (tx : TypeId) (av : AV) : Option (List (List PV)) :=
  match P.underlying tx with
  | some (.slice _) => match av with
    | .one c => rdEls st c
    | _ => none
  | some .string => match av with
    | .one (.pv (.s (.string s))) => some (byteEls s)
    | _ => none
  | _ => none

def elemsOk (sz : Nat) : List (List PV) → Prop := fun l => ∀ e ∈ l, e.length = sz

def bodyIds (q : Nat → Bool) : Body → Bool
  | .box cells => idsL q cells
  | _ => true

def stIds (q : Nat → Bool) : St → Bool
  | [] => true
  | o :: l => bodyIds q o && stIds q l

theorem stIds_get {q : Nat → Bool} : ∀ {st : St}, stIds q st = true → ∀ (j : Nat) o, st[j]? = some o → bodyIds q o = true
  | [], _, j, o, h => by simp at h
  | x :: l, h, j, o, hj => by
    simp only [stIds, Bool.and_eq_true] at h
    cases j with
    | zero => simp at hj; subst hj; exact h.1
    | succ j => exact stIds_get h.2 j o (by simpa using hj)

/-- append -/
def apAt (P : Program) (t tx : TypeId) (d x : AV) (st : St) (hs : HS) : Option Out :=
  match P.underlying t with
  | some (.slice e) =>
    match P.info? e with
    | some i =>
      match i.zero, srcEls P st tx x with
      | some z, some news =>
        bif Nat.beq z.cells.size i.size && (Nat.ble i.bytes 16384 && Nat.ble 1 i.size) then
          match d with
          | .one (.pv (.s (.slice none 0 0))) => some ⟨.one (.sl st.length i.size 0 news.length), st ++ [.arr i.size news], [elemsOk i.size news, news.length ≤ 4294967296], hs, none⟩
          | .one (.sl id sz off len) =>
            match st[id]? with
            | some (.arr sz' els) =>
              bif Nat.beq sz i.size && (Nat.beq sz' i.size && (Nat.beq off 0 && stIds (stays (some id)) st)) then
                some ⟨.one (.sl id i.size 0 (len + news.length)), st.set id (.arr i.size (els ++ news)), [elemsOk i.size news, len = els.length, len + news.length ≤ 4294967296], hs, some id⟩
              else none
            | _ => none
          | _ => none
        else none
      | _, _ => none
    | none => none
  | _ => none

/-- the source, as the kit has it -/
theorem src_sound {size : Nat} {tx : TypeId} {x : Value} {av : AV} {news : List (List PV)} (h : srcEls P st tx av = some news) (r : Rel ι w st) (hx : AVRel ι w st x av) (hok : elemsOk size news) (hsz : 0 < size) :
    ∃ vs, Src P size tx x news.length vs w ∧ (∀ (i : Nat) e (j : Nat) c, news[i]? = some e → e[j]? = some c → ∃ u, vs[i * size + j]? = some u ∧ PRel (Mut ι st) w u c) := by
  unfold srcEls at h
  cases hu : P.underlying tx with
  | none => simp [hu] at h
  | some d =>
    cases d <;> try (simp [hu] at h; done)
    case slice e' =>
      simp only [hu] at h
      cases hx with
      | j => simp at h
      | ag => simp at h
      | tp => simp at h
      | one v c hv =>
        simp only at h
        obtain ⟨vs, hr⟩ := rd_sound (P := P) h r hv hok
        refine ⟨vs, ?_, hr.each⟩
        rcases hr.shape with ⟨rfl, rfl⟩ | ⟨a, cap, rfl, hcap, hcell⟩
        · have : vs = [] := List.eq_nil_of_length_eq_zero (by simpa using hr.len)
          subst this
          exact Src.ofNil w hu 0
        · exact Src.ofSlice w hu a news.length cap vs hr.len hcell hr.one
    case string =>
      simp only [hu] at h
      cases hx with
      | j => simp at h
      | ag => simp at h
      | tp => simp at h
      | one v c hv =>
        cases hv with
        | pv _ p hp =>
         cases hp with
         | s _ hp =>
          cases x <;> try (simp at h; done)
          rename_i s
          simp only [Option.some.injEq] at h
          subst h
          by_cases hne : s.data.toList = []
          · have hsz0 : s.size = 0 := by
              have := byteCells_length s
              simp [byteCells, hne] at this
              omega
            refine ⟨[], ⟨.inr hu, fun w' => ?_, ?_, ?_, by simp [byteEls, hne], fun u h => by cases h⟩, fun i e j c h => by simp [byteEls, hne] at h⟩
            · simp [Builtin.lenOf, byteEls, hne, hsz0]
            · have := firstCells_string (P := P) s w
              simp only [byteCells, hne, hsz0] at this
              simp only [byteEls, hne]
              simpa [Builtin.firstCells, hsz0] using this
            · have := firstCells_string (P := P) s w.drew
              simp only [byteCells, hne, hsz0] at this
              simp only [byteEls, hne]
              simpa [Builtin.firstCells, hsz0] using this
          · have h1 : size = 1 := by
              cases hl : s.data.toList with
              | nil => exact absurd hl hne
              | cons b rest =>
                have := hok [.s (.int .u8 b.toNat)] (by simp [byteEls, hl])
                simpa using this.symm
            subst h1
            have hlen : (byteEls s).length = s.size := by
              have := byteCells_length s
              simpa [byteEls, byteCells] using this
            rw [hlen]
            refine ⟨byteCells s, Src.ofString w hu s, fun i e j c h1 h2 => ?_⟩
            simp only [byteEls, List.getElem?_map, Option.map_eq_some_iff] at h1
            obtain ⟨b, hb, rfl⟩ := h1
            cases j with
            | zero =>
              simp at h2
              subst h2
              refine ⟨.int .u8 b.toNat, ?_, .s _ rfl⟩
              simp only [byteCells, List.getElem?_map]
              simpa using ⟨b, by simpa using hb, rfl⟩
            | succ j => simp at h2
         | _ => simp at h
        | _ => simp at h

end Go.SX
