/- Texts and sound values, in plain terms. -/
import Derived.Test.YtdkmclmdemngfaaDoorKT3
namespace Go.Proofs.YtdkmclmdemngfaaDoor
open Go Go.SX Go.SX.Cal Go.Lib
set_option linter.unusedVariables false
set_option linter.unusedSimpArgs false

mutual
def sizeV : GValue → Nat
  | ⟨_, _, _, s, it⟩ => s.size + sizeL it + 1
def sizeL : List GValue → Nat
  | [] => 0
  | x :: l => sizeV x + sizeL l
end

theorem sizeV_eq : ∀ v : GValue, sizeV v = v.s.size + sizeL v.items + 1
  | ⟨_, _, _, _, _⟩ => by simp only [sizeV]

theorem sizeL_mem : ∀ {l : List GValue} {x : GValue}, x ∈ l → sizeV x ≤ sizeL l
  | [], _, h => by cases h
  | y :: l, x, h => by
    simp only [sizeL]
    rcases List.mem_cons.1 h with rfl | h
    · omega
    · have := sizeL_mem h; omega

theorem sizeV_pos : ∀ v : GValue, 1 ≤ sizeV v
  | ⟨_, _, _, _, _⟩ => by simp only [sizeV]; omega

theorem sizeL_len : ∀ l : List GValue, l.length ≤ sizeL l
  | [] => by simp [sizeL]
  | x :: l => by
    have := sizeL_len l
    have := sizeV_pos x
    simp only [sizeL, List.length_cons]; omega

theorem ift_and (b x : Bool) : ift b (some x) (some false) = some (b && x) := by cases b <;> rfl
theorem ift_or (b x : Bool) : ift b (some true) (some x) = some (b || x) := by cases b <;> rfl
theorem bnd_some' {α β : Type} (a : α) (f : α → Option β) : bnd (some a) f = f a := rfl

theorem first_skip {P : Nat → Bool} {n : Nat} : ∀ (d i : Nat), i + d ≤ n → (∀ j, i ≤ j → j < i + d → P j = false) → first P i n = first P (i + d) n
  | 0, i, _, _ => rfl
  | d + 1, i, h, hP => by
    rw [first_step (by omega), hP i (by omega) (by omega)]
    simp only [Bool.false_eq_true, if_false]
    rw [first_skip d (i + 1) (by omega) (fun j h1 h2 => hP j (by omega) (by omega))]
    congr 1; omega

theorem decode_skip (s : ByteArray) (i : Nat) (h : i < s.size) (hb : ¬ byt s i < 128) :
    1 ≤ (Utf8.decode s i).2 ∧ i + (Utf8.decode s i).2 ≤ s.size ∧ ∀ j, i ≤ j → j < i + (Utf8.decode s i).2 → 128 ≤ byt s j := by
  have e := get_byt s i h
  have one : ∀ j, i ≤ j → j < i + 1 → 128 ≤ byt s j := fun j h1 h2 => by
    have : j = i := by omega
    subst this; omega
  have ct : ∀ k, (decide (i + k < s.size) && (s.get! (i + k)).toNat / 64 == 2) = true → i + k < s.size ∧ 128 ≤ byt s (i + k) := by
    intro k hk
    simp only [Bool.and_eq_true, decide_eq_true_eq, beq_iff_eq] at hk
    rw [get_byt s _ hk.1] at hk
    exact ⟨hk.1, by omega⟩
  unfold Utf8.decode
  simp only [Nat.add_zero, e, if_neg hb]
  split
  · rename_i h1
    simp only [Bool.and_eq_true] at h1
    obtain ⟨l1, b1⟩ := ct 1 (by simpa using h1.2)
    split
    · refine ⟨by simp, by simp only; omega, fun j h2 h3 => ?_⟩
      simp only at h3
      by_cases hj : j = i
      · subst hj; omega
      · have : j = i + 1 := by omega
        subst this; exact b1
    · exact ⟨by simp, by simp only; omega, one⟩
  · split
    · rename_i h1
      simp only [Bool.and_eq_true] at h1
      obtain ⟨l1, b1⟩ := ct 1 (by simpa using h1.1.2)
      obtain ⟨l2, b2⟩ := ct 2 (by simpa using h1.2)
      split
      · refine ⟨by simp, by simp only; omega, fun j h2 h3 => ?_⟩
        simp only at h3
        by_cases hj : j = i
        · subst hj; omega
        · by_cases hj : j = i + 1
          · subst hj; exact b1
          · have : j = i + 2 := by omega
            subst this; exact b2
      · exact ⟨by simp, by simp only; omega, one⟩
    · split
      · rename_i h1
        simp only [Bool.and_eq_true] at h1
        obtain ⟨l1, b1⟩ := ct 1 (by simpa using h1.1.1.2)
        obtain ⟨l2, b2⟩ := ct 2 (by simpa using h1.1.2)
        obtain ⟨l3, b3⟩ := ct 3 (by simpa using h1.2)
        split
        · refine ⟨by simp, by simp only; omega, fun j h2 h3 => ?_⟩
          simp only at h3
          by_cases hj : j = i
          · subst hj; omega
          · by_cases hj : j = i + 1
            · subst hj; exact b1
            · by_cases hj : j = i + 2
              · subst hj; exact b2
              · have : j = i + 3 := by omega
                subst this; exact b3
        · exact ⟨by simp, by simp only; omega, one⟩
      · exact ⟨by simp, by simp only; omega, one⟩

/-- a byte that is a control character -/
def ctl (s : ByteArray) (i : Nat) : Bool := decide (byt s i < 32) || byt s i == 127

theorem vtext_loop (s : ByteArray) : ∀ k i, i ≤ s.size → s.size - i < k → value_text_l1 s k i = some (first (ctl s) i s.size).isNone := by
  intro k
  induction k with
  | zero => intro i _ h; omega
  | succ k ih =>
    intro i hi hk
    rw [value_text_l1]
    by_cases h : i = s.size
    · subst h
      rw [first_end]
      simp only [Nat.lt_irrefl, decide_false, ift_false, value_text_j3]
      rfl
    · have hlt : i < s.size := by omega
      simp only [hlt, decide_true, ift_true, value_text_j2, ift_ite]
      by_cases hb : byt s i < 128
      · rw [decode_lo s i hlt hb, first_step hlt]
        by_cases h1 : byt s i < 32
        · have : ctl s i = true := by simp [ctl, h1]
          simp [this, show ((byt s i : Nat) : Int) < 32 by omega]
        · have e1 : ¬ ((byt s i : Nat) : Int) < 32 := by omega
          by_cases h2 : byt s i = 127
          · have : ctl s i = true := by simp [ctl, h2]
            simp [this, h2]
          · have : ctl s i = false := by simp [ctl, h1, h2]
            have e2 : ¬ ((byt s i : Nat) : Int) = 127 := by omega
            simp only [this, Int.ofNat_eq_natCast, e1, decide_false, Bool.false_eq_true, if_false, beq_iff_eq, e2]
            exact ih (i + 1) (by omega) (by omega)
      · have h1 := decode_hi s i hlt hb
        obtain ⟨h2, h3, h4⟩ := decode_skip s i hlt hb
        have e1 : ¬ (((Utf8.decode s i).1 : Nat) : Int) < 32 := by omega
        have e2 : ¬ (((Utf8.decode s i).1 : Nat) : Int) = 127 := by omega
        simp only [Int.ofNat_eq_natCast, e1, decide_false, Bool.false_eq_true, if_false, beq_iff_eq, e2]
        rw [ih _ h3 (by omega), first_skip _ i h3 (fun j a b => by
          have := h4 j a b
          simp only [ctl, Bool.or_eq_false_iff, decide_eq_false_iff_not, beq_eq_false_iff_ne]
          omega)]
        simp

theorem rchar_loop (s : ByteArray) (hs : s.size < 1000000000) : ∀ k i, i ≤ s.size → s.size - i < k → ref1_characters_l1 s k (i : Int) = some (first (ctl s) i s.size).isNone := by
  intro k
  induction k with
  | zero => intro i _ h; omega
  | succ k ih =>
    intro i hi hk
    rw [ref1_characters_l1]
    by_cases h : i = s.size
    · subst h
      rw [first_end]
      simp only [Int.lt_irrefl, decide_false, ift_false, ref1_characters_j3]
      rfl
    · have hlt : i < s.size := by omega
      have g : (0 : Int) ≤ (i : Int) ∧ (i : Int) < (s.size : Int) := ⟨by omega, by omega⟩
      have e : ((s.data.toList.getD (i : Int).toNat 0).toNat : Int) = (byt s i : Int) := by simp [byt]
      simp only [dec_lt hlt, ift_true, grd, if_pos g, bnd_some', ref1_characters_j2, ift_ite, e]
      rw [first_step hlt, wrap_succ hlt hs]
      by_cases h1 : byt s i < 32
      · have : ctl s i = true := by simp [ctl, h1]
        simp [this, show ((byt s i : Nat) : Int) < 32 by omega]
      · have e1 : ¬ ((byt s i : Nat) : Int) < 32 := by omega
        by_cases h2 : byt s i = 127
        · have : ctl s i = true := by simp [ctl, h2]
          simp [this, h2]
        · have : ctl s i = false := by simp [ctl, h1, h2]
          have e2 : ¬ ((byt s i : Nat) : Int) = 127 := by omega
          simp only [this, e1, decide_false, Bool.false_eq_true, if_false, beq_iff_eq, e2]
          exact ih (i + 1) (by omega) (by omega)

/-- a text of a Text -/
def textOk (s : ByteArray) : Bool := decide (s.size ≤ 256) && (validD s.data.toList && (first (ctl s) 0 s.size).isNone)

theorem validS (s : ByteArray) (hs : s.size < 1000000000) : utf8_ValidString s = some (validD s.data.toList) := by
  unfold utf8_ValidString grd
  rw [if_pos (by omega)]

theorem vText (s : ByteArray) (hs : s.size < 1000000000) : value_text s = some (textOk s) := by
  unfold value_text value_text_j1 textOk
  rw [validS s hs, vtext_loop s BIG 0 (by omega) (by rw [big_val]; omega)]
  by_cases h : s.size ≤ 256
  · have : ¬ (256 : Int) < (s.size : Int) := by omega
    simp only [this, h, decide_false, decide_true, ift_false, bnd_some']
    cases validD s.data.toList <;> rfl
  · have : (256 : Int) < (s.size : Int) := by omega
    simp only [this, h, decide_false, decide_true, ift_true]
    rfl

theorem rChars (s : ByteArray) (hs : s.size < 1000000000) : ref1_characters s = some (textOk s) := by
  have := rchar_loop s hs BIG 0 (by omega) (by rw [big_val]; omega)
  unfold ref1_characters ref1_characters_j1 textOk
  rw [validS s hs, show (0 : Int) = ((0 : Nat) : Int) from rfl, this]
  by_cases h : s.size ≤ 256
  · have e : ¬ (256 : Int) < (s.size : Int) := by omega
    simp only [e, h, decide_false, decide_true, bnd_some']
    cases validD s.data.toList <;> rfl
  · have e : (256 : Int) < (s.size : Int) := by omega
    simp only [e, h, decide_false, decide_true, bnd_some']
    cases validD s.data.toList <;> rfl

theorem vWithin (a b c : Int) : value_within a b c = some (decide (b ≤ a) && decide (a ≤ c)) := by
  unfold value_within value_within_j1; exact ift_and _ _
theorem rWithin (a b c : Int) : ref1_within a b c = some (decide (b ≤ a) && decide (a ≤ c)) := by
  unfold ref1_within ref1_within_j1; exact ift_and _ _

/-- a value that is sound but for its items -/
def plainOk (v : GValue) : Bool :=
  let bare := v.n == 0 && v.scale == 0
  let noS := decide (v.s.size = 0)
  let noI := ((v.items.length : Int) == 0)
  if v.kind = 0 then bare && (noS && noI)
  else if v.kind = 1 then (decide (0 ≤ v.n) && decide (v.n ≤ 1)) && (v.scale == 0 && (noS && noI))
  else if v.kind = 2 then (decide (-999999999999999999 ≤ v.n) && decide (v.n ≤ 999999999999999999)) && (v.scale == 0 && (noS && noI))
  else if v.kind = 3 then (decide (-999999999999999999 ≤ v.n) && decide (v.n ≤ 999999999999999999)) && ((decide (0 ≤ v.scale) && decide (v.scale ≤ 12)) && (noS && noI))
  else if v.kind = 4 then bare && (textOk v.s && noI)
  else if v.kind = 5 then (decide (-62135596800 ≤ v.n) && decide (v.n ≤ 253402300799)) && (v.scale == 0 && (noS && noI))
  else if v.kind = 6 then bare && (noS && decide ((v.items.length : Int) ≤ 64))
  else if v.kind = 7 then bare && (noS && decide ((0 : Int) < (v.items.length : Int)))
  else false

theorem vPlain (v : GValue) (hs : v.s.size < 1000000000) : value_plain v = some (plainOk v) := by
  have j : ∀ x, value_plain_j1 v x = some (if v.kind = 0 then x && (decide (v.s.size = 0) && ((v.items.length : Int) == 0))
      else if v.kind = 1 then (decide (0 ≤ v.n) && decide (v.n ≤ 1)) && (v.scale == 0 && (decide (v.s.size = 0) && ((v.items.length : Int) == 0)))
      else if v.kind = 2 then (decide (-999999999999999999 ≤ v.n) && decide (v.n ≤ 999999999999999999)) && (v.scale == 0 && (decide (v.s.size = 0) && ((v.items.length : Int) == 0)))
      else if v.kind = 3 then (decide (-999999999999999999 ≤ v.n) && decide (v.n ≤ 999999999999999999)) && ((decide (0 ≤ v.scale) && decide (v.scale ≤ 12)) && (decide (v.s.size = 0) && ((v.items.length : Int) == 0)))
      else if v.kind = 4 then x && (textOk v.s && ((v.items.length : Int) == 0))
      else if v.kind = 5 then (decide (-62135596800 ≤ v.n) && decide (v.n ≤ 253402300799)) && (v.scale == 0 && (decide (v.s.size = 0) && ((v.items.length : Int) == 0)))
      else if v.kind = 6 then x && (decide (v.s.size = 0) && decide ((v.items.length : Int) ≤ 64))
      else if v.kind = 7 then x && (decide (v.s.size = 0) && decide ((0 : Int) < (v.items.length : Int)))
      else false) := by
    intro x
    unfold value_plain_j1 value_plain_j2 value_plain_j3 value_plain_j4 value_plain_j5 value_plain_j6 value_plain_j7 value_plain_j8 value_plain_j9
    simp only [vWithin, vText v.s hs, bnd_some', ift_and, size_zero]
    simp only [ift_ite, beq_iff_eq]
    repeat' split
    all_goals (first | rfl | simp_all)
  unfold value_plain
  rw [j, j]
  unfold plainOk
  cases v.n == 0
  · simp only [ift_false, Bool.false_and]
  · simp only [ift_true, Bool.true_and]

theorem rAlone (v : GValue) (hs : v.s.size < 1000000000) : ref1_alone v = some (plainOk v) := by
  have j : ∀ x, ref1_alone_j1 v x = some (if v.kind = 0 then x && (v.n == 0 && v.scale == 0)
      else if v.kind = 1 then x && ((decide (0 ≤ v.n) && decide (v.n ≤ 1)) && v.scale == 0)
      else if v.kind = 2 then x && ((decide (-999999999999999999 ≤ v.n) && decide (v.n ≤ 999999999999999999)) && v.scale == 0)
      else if v.kind = 3 then x && ((decide (-999999999999999999 ≤ v.n) && decide (v.n ≤ 999999999999999999)) && (decide (0 ≤ v.scale) && decide (v.scale ≤ 12)))
      else if v.kind = 4 then ((v.items.length : Int) == 0) && (v.n == 0 && (v.scale == 0 && textOk v.s))
      else if v.kind = 5 then x && ((decide (-62135596800 ≤ v.n) && decide (v.n ≤ 253402300799)) && v.scale == 0)
      else if v.kind = 6 then decide (v.s.size = 0) && (v.n == 0 && (v.scale == 0 && decide ((v.items.length : Int) ≤ 64)))
      else if v.kind = 7 then decide (v.s.size = 0) && (v.n == 0 && (v.scale == 0 && decide ((0 : Int) < (v.items.length : Int))))
      else false) := by
    intro x
    unfold ref1_alone_j1 ref1_alone_j2 ref1_alone_j3 ref1_alone_j4 ref1_alone_j5 ref1_alone_j6 ref1_alone_j7 ref1_alone_j8 ref1_alone_j9
    simp only [rWithin, rChars v.s hs, bnd_some', ift_and, size_zero]
    simp only [ift_ite, beq_iff_eq]
    repeat' split
    all_goals (first | rfl | simp_all)
  unfold ref1_alone
  rw [j, j, size_zero]
  unfold plainOk
  generalize decide (v.s.size = 0) = a
  generalize ((v.items.length : Int) == 0) = b
  generalize textOk v.s = t
  generalize (v.n == 0) = c
  generalize (v.scale == 0) = d
  generalize (decide (0 ≤ v.n) && decide (v.n ≤ 1)) = e1
  generalize (decide (-999999999999999999 ≤ v.n) && decide (v.n ≤ 999999999999999999)) = e2
  generalize (decide (0 ≤ v.scale) && decide (v.scale ≤ 12)) = e3
  generalize (decide (-62135596800 ≤ v.n) && decide (v.n ≤ 253402300799)) = e4
  generalize decide ((v.items.length : Int) ≤ 64) = e5
  generalize decide ((0 : Int) < (v.items.length : Int)) = e6
  cases a <;> simp only [ift_false, ift_true] <;> congr 1 <;> repeat' split
  all_goals (first | rfl | (cases b <;> cases c <;> cases d <;> simp <;> done) | (simp [Bool.and_comm, Bool.and_assoc, Bool.and_left_comm]))

/-- items one after the other, as long as they are sound -/
def soundL (f : GValue → Int → Bool × Int) : List GValue → Int → Bool × Int
  | [], z => (true, z)
  | v :: l, z => if (f v z).1 = true then soundL f l (f v z).2 else (false, (f v z).2)

def cnt (v : GValue) (z : Int) : Int := if v.kind = 0 then z else z + 1

/-- d: how many levels are left -/
def soundD : Nat → GValue → Int → Bool × Int
  | 0, v, z => (false, cnt v z)
  | d + 1, v, z => if 256 < cnt v z ∨ plainOk v = false then (false, cnt v z) else soundL (soundD d) v.items (cnt v z)

def soundB (v : GValue) : Bool := (soundD 4 v 0).1

theorem soundL_le {f : GValue → Int → Bool × Int} : ∀ {l : List GValue} {z : Int}, (∀ v ∈ l, ∀ z, 0 ≤ z → z ≤ 256 → 0 ≤ (f v z).2 ∧ (f v z).2 ≤ 257 ∧ ((f v z).1 = true → (f v z).2 ≤ 256)) → 0 ≤ z → z ≤ 256 →
    0 ≤ (soundL f l z).2 ∧ (soundL f l z).2 ≤ 257 ∧ ((soundL f l z).1 = true → (soundL f l z).2 ≤ 256)
  | [], z, _, h0, h1 => by simp only [soundL]; omega
  | v :: l, z, hf, h0, h1 => by
    obtain ⟨a, b, c⟩ := hf v (by simp) z h0 h1
    simp only [soundL]
    split
    · rename_i h
      exact soundL_le (fun x hx => hf x (by simp [hx])) a (c h)
    · exact ⟨a, b, fun h => by cases h⟩

theorem soundD_le : ∀ (d : Nat) (v : GValue) (z : Int), 0 ≤ z → z ≤ 256 → 0 ≤ (soundD d v z).2 ∧ (soundD d v z).2 ≤ 257 ∧ ((soundD d v z).1 = true → (soundD d v z).2 ≤ 256)
  | 0, v, z, h0, h1 => by
    have hc : z ≤ cnt v z ∧ cnt v z ≤ z + 1 := by unfold cnt; split <;> omega
    simp only [soundD]
    exact ⟨by omega, by omega, fun h => by cases h⟩
  | d + 1, v, z, h0, h1 => by
    have hc : z ≤ cnt v z ∧ cnt v z ≤ z + 1 := by unfold cnt; split <;> omega
    simp only [soundD]
    split
    · exact ⟨by omega, by omega, fun h => by cases h⟩
    · rename_i h
      have : ¬ 256 < cnt v z := fun e => h (.inl e)
      exact soundL_le (fun x _ => soundD_le d x) (by omega) (by omega)

theorem cnt_wrap (v : GValue) (z : Int) (h0 : 0 ≤ z) (h1 : z ≤ 256) {β : Type} (f : Int → Option β) : ift (v.kind != (0 : Int)) (f (IntKind.i64.wrap (z + 1))) (f z) = f (cnt v z) := by
  rw [w64 (by omega) (by omega)]
  unfold cnt
  by_cases h : v.kind = 0
  · simp [h, ift_ite]
  · simp [h, ift_ite]

theorem vsound_loop {d : Nat} (l : Int) (q : GValue → Int → Int → Option (Bool × Int)) (xs : List GValue) (hl : xs.length < 1000000000)
    (hq : ∀ v ∈ xs, ∀ z, 0 ≤ z → z ≤ 256 → q v l z = some (!(soundD d v z).1, (soundD d v z).2)) : ∀ (k i : Nat) (z : Int), i ≤ xs.length → xs.length - i < k → 0 ≤ z → z ≤ 256 →
    ∃ r : Int, slices_IndexFunc_api_Value_api_Value_of_value_sound_1_l1 q xs l k z (i : Int) = some (r, (soundL (soundD d) (xs.drop i) z).2) ∧ decide (0 ≤ r) = !(soundL (soundD d) (xs.drop i) z).1 := by
  intro k
  induction k with
  | zero => intro i z _ h; omega
  | succ k ih =>
    intro i z hi hk h0 h1
    rw [slices_IndexFunc_api_Value_api_Value_of_value_sound_1_l1]
    by_cases h : i = xs.length
    · subst h
      simp only [Int.lt_irrefl, decide_false, ift_false, List.drop_length, soundL, slices_IndexFunc_api_Value_api_Value_of_value_sound_1_j1]
      exact ⟨-1, rfl, rfl⟩
    · have hlt : i < xs.length := by omega
      have hm : xs[i] ∈ xs := List.getElem_mem hlt
      simp only [dec_lt hlt, ift_true, at_nat hlt, bnd_some', hq _ hm z h0 h1]
      rw [List.drop_eq_getElem_cons hlt]
      simp only [soundL]
      obtain ⟨a, b, c⟩ := soundD_le d xs[i] z h0 h1
      cases hs : (soundD d xs[i] z).1 with
      | false =>
        simp only [Bool.not_false, ift_true, Bool.false_eq_true, if_false]
        exact ⟨_, rfl, by simp⟩
      | true =>
        simp only [Bool.not_true, ift_false, if_true]
        rw [wrap_succ hlt hl]
        exact ih (i + 1) _ (by omega) (by omega) a (c hs)

theorem vsound_eq : ∀ (d k : Nat) (v : GValue) (z : Int), d ≤ 4 → 4 * d + 4 ≤ k → sizeV v < 1000000000 → 0 ≤ z → z ≤ 256 → value_sound k v (5 - d : Int) z = some (soundD d v z) := by
  intro d
  induction d with
  | zero =>
    intro k v z _ hk hs h0 h1
    obtain ⟨k, rfl⟩ : ∃ q, k = q + 1 := ⟨k - 1, by omega⟩
    rw [value_sound, cnt_wrap v z h0 h1]
    unfold value_sound_j1 value_sound_j2
    simp [soundD, ift_true]
  | succ d ih =>
    intro k v z hd hk hs h0 h1
    obtain ⟨k, rfl⟩ : ∃ q, k = q + 4 := ⟨k - 4, by omega⟩
    have hsz := sizeV_eq v
    have hlen := sizeL_len v.items
    rw [value_sound, cnt_wrap v z h0 h1]
    unfold value_sound_j1 value_sound_j2
    rw [vPlain v (by omega)]
    have e4 : ¬ (4 : Int) < 5 - ((d + 1 : Nat) : Int) := by omega
    have hc : z ≤ cnt v z ∧ cnt v z ≤ z + 1 := by unfold cnt; split <;> omega
    simp only [e4, decide_false, ift_false, soundD, bnd_some']
    by_cases h2 : (256 : Int) < cnt v z
    · simp [h2, ift_true]
    · cases hp : plainOk v with
      | false => simp [h2, ift_true, ift_false]
      | true =>
        simp only [h2, decide_false, ift_false, Bool.not_true, false_or, Bool.true_eq_false, if_false]
        have := vsound_loop (d := d) (5 - ((d + 1 : Nat) : Int)) (value_sound_1_s (k + 1)) v.items (by omega) (by
          intro x hx z h0 h1
          have := sizeL_mem hx
          rw [value_sound_1_s, w64 (by omega) (by omega), show (5 - ((d + 1 : Nat) : Int) + 1) = 5 - (d : Int) by omega, ih k x z (by omega) (by omega) (by omega) h0 h1]
          rfl) BIG 0 (cnt v z) (by omega) (by rw [big_val]; omega) (by omega) (by omega)
        obtain ⟨r, e1, e2⟩ := this
        rw [show ((0 : Nat) : Int) = (0 : Int) from rfl] at e1
        rw [slices_ContainsFunc_api_Value_api_Value_of_value_sound_1, slices_IndexFunc_api_Value_api_Value_of_value_sound_1, e1]
        simp only [bnd_some', e2, List.drop_zero, Bool.not_not]

theorem vSound (v : GValue) (hs : sizeV v < 1000000000) : value_Sound v = some (soundB v) := by
  unfold value_Sound soundB
  have := vsound_eq 4 BIG v 0 (by omega) (by rw [big_val]; omega) hs (by omega) (by omega)
  rw [show (5 - ((4 : Nat) : Int)) = (1 : Int) from rfl] at this
  rw [this]; rfl

theorem rsound_loop {d : Nat} (l : Int) (hl0 : 0 ≤ l) (hl1 : l ≤ 100) (q : GValue → Int → Int → Option (Bool × Int)) (v : GValue) (hl : v.items.length < 1000000000)
    (hq : ∀ x ∈ v.items, ∀ z, 0 ≤ z → z ≤ 256 → q x (l + 1) z = some (soundD d x z)) : ∀ (k i : Nat) (z : Int), i ≤ v.items.length → v.items.length - i < k → 0 ≤ z → z ≤ 256 →
    ref1_sound_l1 q v l k z (i : Int) = some (soundL (soundD d) (v.items.drop i) z) := by
  intro k
  induction k with
  | zero => intro i z _ h; omega
  | succ k ih =>
    intro i z hi hk h0 h1
    rw [ref1_sound_l1]
    by_cases h : i = v.items.length
    · subst h
      simp only [Int.lt_irrefl, decide_false, ift_false, List.drop_length, soundL, ref1_sound_j3]
    · have hlt : i < v.items.length := by omega
      have hm : v.items[i] ∈ v.items := List.getElem_mem hlt
      rw [w64 (x := l + 1) (by omega) (by omega)]
      simp only [dec_lt hlt, ift_true, at_nat hlt, bnd_some', hq _ hm z h0 h1]
      rw [List.drop_eq_getElem_cons hlt]
      simp only [soundL]
      obtain ⟨a, b, c⟩ := soundD_le d v.items[i] z h0 h1
      cases hs : (soundD d v.items[i] z).1 with
      | false => simp only [Bool.not_false, ift_true, Bool.false_eq_true, if_false]
      | true =>
        simp only [Bool.not_true, ift_false, if_true]
        rw [wrap_succ hlt hl]
        exact ih (i + 1) _ (by omega) (by omega) a (c hs)

theorem rsound_eq : ∀ (d k : Nat) (v : GValue) (z : Int), d ≤ 4 → d + 1 ≤ k → sizeV v < 1000000000 → 0 ≤ z → z ≤ 256 → ref1_sound k v (5 - d : Int) z = some (soundD d v z) := by
  intro d
  induction d with
  | zero =>
    intro k v z _ hk hs h0 h1
    obtain ⟨k, rfl⟩ : ∃ q, k = q + 1 := ⟨k - 1, by omega⟩
    rw [ref1_sound, cnt_wrap v z h0 h1]
    unfold ref1_sound_j1 ref1_sound_j2
    simp [soundD, ift_true]
  | succ d ih =>
    intro k v z hd hk hs h0 h1
    obtain ⟨k, rfl⟩ : ∃ q, k = q + 1 := ⟨k - 1, by omega⟩
    have hsz := sizeV_eq v
    have hlen := sizeL_len v.items
    rw [ref1_sound, cnt_wrap v z h0 h1]
    unfold ref1_sound_j1 ref1_sound_j2
    rw [rAlone v (by omega)]
    have e4 : ¬ (4 : Int) < 5 - ((d + 1 : Nat) : Int) := by omega
    have hc : z ≤ cnt v z ∧ cnt v z ≤ z + 1 := by unfold cnt; split <;> omega
    simp only [e4, decide_false, ift_false, soundD, bnd_some']
    by_cases h2 : (256 : Int) < cnt v z
    · simp [h2, ift_true]
    · cases hp : plainOk v with
      | false => simp [h2, ift_true, ift_false]
      | true =>
        simp only [h2, decide_false, ift_false, Bool.not_true, false_or, Bool.true_eq_false, if_false]
        have := rsound_loop (d := d) (5 - ((d + 1 : Nat) : Int)) (by omega) (by omega) (ref1_sound k) v (by omega) (by
          intro x hx z h0 h1
          have := sizeL_mem hx
          rw [show (5 - ((d + 1 : Nat) : Int) + 1) = 5 - (d : Int) by omega]
          exact ih k x z (by omega) (by omega) (by omega) h0 h1) BIG 0 (cnt v z) (by omega) (by rw [big_val]; omega) (by omega) (by omega)
        rw [show ((0 : Nat) : Int) = (0 : Int) from rfl, List.drop_zero] at this
        exact this

theorem rSound (v : GValue) (hs : sizeV v < 1000000000) : ref1_Sound v = some (soundB v) := by
  unfold ref1_Sound soundB
  have := rsound_eq 4 BIG v 0 (by omega) (by rw [big_val]; omega) hs (by omega) (by omega)
  rw [show (5 - ((4 : Nat) : Int)) = (1 : Int) from rfl] at this
  rw [this]; rfl

end Go.Proofs.YtdkmclmdemngfaaDoor
