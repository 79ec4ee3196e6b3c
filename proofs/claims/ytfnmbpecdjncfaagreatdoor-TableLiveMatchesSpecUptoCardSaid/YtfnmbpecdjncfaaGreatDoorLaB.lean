/- Files with one name: both sides find whether they differ. Files with one name in different snapshots: both sides find the same error. References, properties, limits, schemas: both sides find the same error. Schemas, specs; Check of both sides; the law. What a table has that the program's Check accepts. What is different between two snapshots of a checked table: the program's answer. Differ of the program: which files it names. A table, read from a row. Adapt: casts of leaves. Keys and rows: the program's Matches, Left, Live. Live of the program, and the law: what Differ does not name has the same rows. What Differ and Live of the reference have in common. Live of the reference, and the law. The law of Live for tables and rows of some size. -/
import Derived.Test.YtfnmbpecdjncfaaGreatDoorProg
import Derived.Test.YtfnmbpecdjncfaaGreatDoorLaA
set_option linter.unusedVariables false
set_option linter.unusedSimpArgs false
set_option linter.unnecessarySimpa false
namespace Go.Proofs.YtfnmbpecdjncfaaGreatDoor
open Go Go.SX Go.SX.Cal
open Go.IntKind (i64)
theorem Gb {R : Type} {e fin : Option R} {n : Nat} {L : Nat → Int → Option R} {p : Nat → Bool} (h0 : ∀ k, L (k + 1) (n : Int) = fin) (h1 : ∀ k i, i < n → L (k + 1) (i : Int) = ak (p i) e (L k ((i + 1 : Nat) : Int))) :
  ∀ m k i, i + m = n → m < k → ∃ b, L k (i : Int) = ak b e fin ∧ (b = true ↔ ∃ j, i ≤ j ∧ j < n ∧ p j = true)
 | 0, k, i, hi, hk => by
  obtain ⟨k, rfl⟩ := fu hk
  have : i = n := by omega
  subst this
  exact ⟨false, h0 k, by simp; intro j h1 h2; omega⟩
 | m + 1, k, i, hi, hk => by
  obtain ⟨k, rfl⟩ := fu hk
  rw [h1 k i (by omega)]
  cases hp : p i with
  | true => exact ⟨true, rfl, by simp; exact ⟨i, gO _, by omega, hp⟩⟩
  | false =>
   obtain ⟨b, e1, e2⟩ := Gb h0 h1 m k (i + 1) (by omega) (by omega)
   refine ⟨b, e1, e2.trans ⟨fun ⟨j, a, b, c⟩ => ⟨j, by omega, b, c⟩, fun ⟨j, a, b, c⟩ => ⟨j, ?_, b, c⟩⟩⟩
   by_cases e : j = i
   ·subst e; rw [hp] at c; cases c
   ·omega
theorem tP {R : Type} {e fin : Option R} {n : Nat} {L : Nat → Int → Option R} {p : Nat → Bool} (hn : n < 1000000000) (h0 : ∀ k, L (k + 1) (n : Int) = fin) (h1 : ∀ k i, i < n → L (k + 1) (i : Int) = ak (p i) e (L k ((i + 1 : Nat) : Int))) :
  L aQ (0 : Int) = ak (ly p n) e fin := by
 obtain ⟨b, e1, e2⟩ := Gb h0 h1 n aQ 0 (by omega) (by rw [aU]; omega)
 have : b = ly p n := gu (e2.trans (Iff.trans ⟨fun ⟨j, _, b, c⟩ => ⟨j, b, c⟩, fun ⟨j, b, c⟩ => ⟨j, Nat.zero_le _, b, c⟩⟩ eN.symm))
 rw [← this]; exact e1
def Pv (l m : List ac) (j : Nat) : Bool := match l[j]?, m[j]? with | some x, some y => !PT x y | _, _ => false
def ME (s t : eM) : Bool := s.id == t.id && (s.nulls == t.nulls && (PT s.min t.min && PT s.max t.max))
def E7 (l m : List eM) (j : Nat) : Bool := match l[j]?, m[j]? with | some x, some y => !ME x y | _, _ => false
def Rh (l m : List ac) : Bool := decide (l.length = m.length) && !ly (Pv l m) l.length
def ST (l m : List eM) : Bool := decide (l.length = m.length) && !ly (E7 l m) l.length
def Jd (a b : aj) : Bool := decide (a.name = b.name) && (a.schema == b.schema && (a.spec == b.spec && (a.rows == b.rows && (Rh a.part b.part && ST a.stats b.stats))))
theorem Q2 {l m : List ac} (hl : ∀ v ∈ l, Lv v) (hm : ∀ v ∈ m, Lv v) : Rh l m = true ↔ l = m := by
 unfold Rh
 rw [gZ, decide_eq_true_iff, Bool.not_eq_true', ← Bool.not_eq_true, eN]
 constructor
 ·rintro ⟨h1, h2⟩
  refine List.ext_getElem h1 fun i hi hi' => ?_
  have : Pv l m i = false := by
   cases h : Pv l m i with
   | false => rfl
   | true => exact absurd ⟨i, hi, h⟩ h2
  unfold Pv at this
  rw [dh hi, dh hi'] at this
  exact (BM (hl _ (iA hi)) (hm _ (iA hi'))).1 (by simpa using this)
 ·rintro rfl
  refine ⟨rfl, ?_⟩
  rintro ⟨j, hj, h⟩
  unfold Pv at h
  rw [dh hj] at h
  simp only [Bool.not_eq_true'] at h
  rw [(BM (hl _ (iA hj)) (hl _ (iA hj))).2 rfl] at h
  cases h
theorem HX {s t : eM} (hs : Lv s.min ∧ Lv s.max) (ht : Lv t.min ∧ Lv t.max) : ME s t = true ↔ s = t := by
 unfold ME
 rw [gZ, gZ, gZ, BM hs.1 ht.1, BM hs.2 ht.2, beq_iff_eq, beq_iff_eq]
 obtain ⟨a, b, c, d⟩ := s
 obtain ⟨a', b', c', d'⟩ := t
 simp
theorem Qh {l m : List eM} (hl : ∀ v ∈ l, Lv v.min ∧ Lv v.max) (hm : ∀ v ∈ m, Lv v.min ∧ Lv v.max) : ST l m = true ↔ l = m := by
 unfold ST
 rw [gZ, decide_eq_true_iff, Bool.not_eq_true', ← Bool.not_eq_true, eN]
 constructor
 ·rintro ⟨h1, h2⟩
  refine List.ext_getElem h1 fun i hi hi' => ?_
  have : E7 l m i = false := by
   cases h : E7 l m i with
   | false => rfl
   | true => exact absurd ⟨i, hi, h⟩ h2
  unfold E7 at this
  rw [dh hi, dh hi'] at this
  exact (HX (hl _ (iA hi)) (hm _ (iA hi'))).1 (by simpa using this)
 ·rintro rfl
  refine ⟨rfl, ?_⟩
  rintro ⟨j, hj, h⟩
  unfold E7 at h
  rw [dh hj] at h
  simp only [Bool.not_eq_true'] at h
  rw [(HX (hl _ (iA hj)) (hl _ (iA hj))).2 rfl] at h
  cases h
def Sf (a b : aj) : Prop := a.name = b.name ∧ a.schema = b.schema ∧ a.spec = b.spec ∧ a.rows = b.rows ∧ a.part = b.part ∧ a.stats = b.stats
theorem Ej {a b : aj} (ha : Ok a) (hb : Ok b) : Jd a b = true ↔ Sf a b := by
 unfold Jd Sf
 rw [gZ, gZ, gZ, gZ, gZ, decide_eq_true_iff, beq_iff_eq, beq_iff_eq, beq_iff_eq, Q2 ha.part hb.part, Qh ha.stats hb.stats]
theorem Sf.symm {a b : aj} (h : Sf a b) : Sf b a := ⟨h.1.symm, h.2.1.symm, h.2.2.1.symm, h.2.2.2.1.symm, h.2.2.2.2.1.symm, h.2.2.2.2.2.symm⟩
theorem Sf.trans {a b c : aj} (h : Sf a b) (k : Sf b c) : Sf a c := ⟨h.1.trans k.1, h.2.1.trans k.2.1, h.2.2.1.trans k.2.2.1, h.2.2.2.1.trans k.2.2.2.1, h.2.2.2.2.1.trans k.2.2.2.2.1, h.2.2.2.2.2.trans k.2.2.2.2.2⟩
theorem RT {a b : ac} (ha : Lv a) (hb : Lv b) : kI a b = some (PT a b) := by
 unfold kI
 rw [C9 ha hb, bS]; rfl
theorem Wy {l m : List ac} (hn : l.length < 1000000000) (hl : ∀ v ∈ l, Lv v) (hm : ∀ v ∈ m, Lv v) : bh l m = some (Rh l m) := by
 unfold bh Rh
 by_cases h : l.length = m.length
 ·rw [show ((l.length : Int) != (m.length : Int)) = false by simp [h], iF, decide_eq_true h, Bool.true_and]
  rw [tP (L := aA l m) (n := l.length) (e := some false) (fin := some true) (p := Pv l m) hn
   (fun k => by rw [aA, rW, iF]; rfl)
   (fun k i hi => by
    have hi' : i < m.length := by omega
    rw [aA, aW hi, iT, aE hi, bS, aE hi', bS, RT (hl _ (iA hi)) (hm _ (iA hi')), bS, aq hi hn]
    unfold Pv
    rw [dh hi, dh hi'])]
  cases ly (Pv l m) l.length <;> rfl
 ·rw [show ((l.length : Int) != (m.length : Int)) = true by simp; omega, iT, decide_eq_false h]; rfl
theorem Ve {s t : eM} (hs : Lv s.min ∧ Lv s.max) (ht : Lv t.min ∧ Lv t.max) : ph s t = some (ME s t, ()) := by
 unfold ph iO ME
 rw [RT hs.1 ht.1, RT hs.2 ht.2, bS, bS]
 cases (s.id == t.id) <;> cases (s.nulls == t.nulls) <;> cases PT s.min t.min <;> rfl
theorem V9 {l m : List eM} (hn : l.length < 1000000000) (hl : ∀ v ∈ l, Lv v.min ∧ Lv v.max) (hm : ∀ v ∈ m, Lv v.min ∧ Lv v.max) : aT l m = some (ST l m, ()) := by
 unfold aT ST
 by_cases h : l.length = m.length
 ·rw [show ((l.length : Int) != (m.length : Int)) = false by simp [h], iF, decide_eq_true h, Bool.true_and]
  rw [tP (L := ar l m) (n := l.length) (e := some (false, ())) (fin := some (true, ())) (p := E7 l m) hn
   (fun k => by rw [ar, rW, iF]; rfl)
   (fun k i hi => by
    have hi' : i < m.length := by omega
    rw [ar, aW hi, iT, aE hi, bS, aE hi', bS, Ve (hl _ (iA hi)) (hm _ (iA hi')), bS, aq hi hn]
    unfold E7
    rw [dh hi, dh hi'])]
  cases ly (E7 l m) l.length <;> rfl
 ·rw [show ((l.length : Int) != (m.length : Int)) = true by simp; omega, iT, decide_eq_false h]; rfl
theorem Wp {a b : aj} (ha : Ok a) (hb : Ok b) (za : Mc a) : oM a b = some (Jd a b) := by
 unfold oM gi Jd
 rw [HT, Wy za.part.1 ha.part hb.part, V9 za.stats.1 ha.stats hb.stats, bS, bS]
 cases decide (a.name = b.name) <;> cases (a.schema == b.schema) <;> cases (a.spec == b.spec) <;> cases (a.rows == b.rows) <;> cases Rh a.part b.part <;> rfl
theorem Wn {a b : aj} (ha : Ok a) (hb : Ok b) (za : Mc a) : pY a b = some (Jd a b) := by
 have h1 : ∀ x, x = (!decide (a.part.length = b.part.length) || !decide (a.stats.length = b.stats.length)) → ez a b x = some (Rh a.part b.part && ST a.stats b.stats) := by
  intro x hx
  unfold ez Rh ST
  cases x with
  | true =>
   rw [iT]
   by_cases h : a.part.length = b.part.length
   ·rw [decide_eq_true h] at hx
    have h2 : decide (a.stats.length = b.stats.length) = false := by simpa using hx.symm
    rw [h2, Bool.false_and, Bool.and_false]
   ·rw [decide_eq_false h]; rfl
  | false =>
   have hx := hx.symm
   rw [Bool.or_eq_false_iff, Bool.not_eq_false', Bool.not_eq_false', decide_eq_true_iff, decide_eq_true_iff] at hx
   obtain ⟨hp, hs⟩ := hx
   rw [iF, decide_eq_true hp, decide_eq_true hs, Bool.true_and, Bool.true_and]
   rw [tP (L := jB a b) (n := a.part.length) (e := some false) (fin := pz a b) (p := Pv a.part b.part) za.part.1
    (fun k => by rw [jB, rW, iF])
    (fun k i hi => by
     have hi' : i < b.part.length := by omega
     rw [jB, aW hi, iT, aE hi, bS, aE hi', bS, ET (ha.part _ (iA hi)) (hb.part _ (iA hi')), bS, aq hi za.part.1]
     unfold Pv
     rw [dh hi, dh hi'])]
   unfold pz
   rw [tP (L := ew a b) (n := a.stats.length) (e := some false) (fin := some true) (p := E7 a.stats b.stats) za.stats.1
    (fun k => by rw [ew, rW, iF]; rfl)
    (fun k i hi => by
     have hi' : i < b.stats.length := by omega
     obtain ⟨u1, u2⟩ := ha.stats _ (iA hi)
     obtain ⟨w1, w2⟩ := hb.stats _ (iA hi')
     rw [ew, aW hi, iT, aE hi, bS, aE hi', bS, ET u1 w1, ET u2 w2, bS, bS]
     unfold kN
     rw [aq hi za.stats.1]
     unfold E7
     rw [dh hi, dh hi']
     simp only
     unfold ME bne
     cases (a.stats[i].id == b.stats[i].id) <;> cases (a.stats[i].nulls == b.stats[i].nulls) <;> cases PT a.stats[i].min b.stats[i].min <;> rfl)]
   cases ly (Pv a.part b.part) a.part.length <;> cases ly (E7 a.stats b.stats) a.stats.length <;> rfl
 have ht : ∀ y, ez a b true = some y → y = false := fun y h => by cases h; rfl
 unfold pY Jd
 rw [HT]
 have hb2 : ez a b true = some false := rfl
 unfold bne
 cases decide (a.name = b.name) with
 | false => rfl
 | true =>
  cases (a.schema == b.schema) with
  | false => rfl
  | true =>
   cases (a.spec == b.spec) with
   | false => rfl
   | true =>
    cases (a.rows == b.rows) with
    | false => rfl
    | true =>
     have e1 : ((a.part.length : Int) == (b.part.length : Int)) = decide (a.part.length = b.part.length) := gu (by rw [beq_iff_eq, decide_eq_true_iff]; omega)
     have e2 : ((a.stats.length : Int) == (b.stats.length : Int)) = decide (a.stats.length = b.stats.length) := gu (by rw [beq_iff_eq, decide_eq_true_iff]; omega)
     rw [e1, e2]
     cases hp : decide (a.part.length = b.part.length) with
     | false =>
      rw [hp] at h1
      exact h1 true rfl
     | true =>
      rw [hp] at h1
      exact h1 _ rfl
theorem F8 (a b : ByteArray) : v7.eq a b = decide (a = b) := by
 refine gu ?_
 rw [decide_eq_true_iff]
 constructor
 ·intro h
  have h' : (a.data == b.data) = true := h
  exact ByteArray.ext (by simpa using h')
 ·rintro rfl
  show (a.data == a.data) = true
  simp
theorem Eh {α : Type} : ∀ (m : List (ByteArray × α)) (k : ByteArray) (v : α), iJ v7 (jQ v7 m k v) k = some v
 | [], k, v => by simp only [jQ, iJ, F8, decide_true, if_true]
 | (k', v') :: l, k, v => by
  by_cases h : k = k'
  ·simp only [jQ, iJ, F8, decide_eq_true h, if_true, decide_true]
  ·simp only [jQ, iJ, F8, decide_eq_false h, Bool.false_eq_true, if_false]
   exact Eh l k v
theorem B7 {α : Type} : ∀ (m : List (ByteArray × α)) (k : ByteArray) (v : α) (x : ByteArray), x ≠ k → iJ v7 (jQ v7 m k v) x = iJ v7 m x
 | [], k, v, x, hx => by simp only [jQ, iJ, F8, decide_eq_false hx, Bool.false_eq_true, if_false]
 | (k', v') :: l, k, v, x, hx => by
  by_cases h : k = k'
  ·subst h
   simp only [jQ, iJ, F8, decide_true, if_true, decide_eq_false hx, Bool.false_eq_true, if_false]
  ·simp only [jQ, iJ, F8, decide_eq_false h, Bool.false_eq_true, if_false]
   rw [B7 l k v x hx]
def RJ (m : aw) : Prop := ∀ s ∈ m.snapshots, 1 ≤ s.id ∧ AJ s.files ∧ ∀ f ∈ s.files, Ok f
def Tu (m : aw) (i : Nat) : Prop := ∃ (hi : i < m.snapshots.length) (x : Nat) (hx : x < i) (f g : aj), f ∈ m.snapshots[i].files ∧ g ∈ (m.snapshots[x]'(by omega)).files ∧ g.name = f.name ∧ ¬ Sf g f
structure SC (m : aw) (i : Nat) (z : List (ByteArray × aj)) : Prop where
 a : ∀ n g, iJ v7 z n = some g → g.name = n ∧ ∃ (x : Nat) (hx : x < i) (hl : x < m.snapshots.length), g ∈ m.snapshots[x].files
 b : ∀ (x : Nat) (hl : x < m.snapshots.length), x < i → ∀ f ∈ m.snapshots[x].files, ∃ g, iJ v7 z f.name = some g ∧ Sf g f
structure UM (m : aw) (i : Nat) (fs : List aj) (j : Nat) (z : List (ByteArray × aj)) : Prop where
 a : ∀ n g, iJ v7 z n = some g → g.name = n ∧ ((∃ (x : Nat) (hx : x < i) (hl : x < m.snapshots.length), g ∈ m.snapshots[x].files) ∨ ∃ (q : Nat) (hq : q < j) (hl : q < fs.length), g = fs[q])
 b : ∀ (x : Nat) (hl : x < m.snapshots.length), x < i → ∀ f ∈ m.snapshots[x].files, ∃ g, iJ v7 z f.name = some g ∧ Sf g f
 c : ∀ (q : Nat) (hl : q < fs.length), q < j → iJ v7 z fs[q].name = some fs[q]
def Q9 (m : aw) (i : Nat) (rec1 : List (ByteArray × aj) → Int → Option Int) (e : Option Int) : Prop :=
 (e = some 5 ∧ Tu m i) ∨ (∃ z', SC m (i + 1) z' ∧ e = rec1 z' ((i + 1 : Nat) : Int) ∧ ¬ Tu m i)
theorem Oh {m : aw} (hm : qS m) (ho : RJ m) (rec1 : List (ByteArray × aj) → Int → Option Int) {i : Nat} (hi : i < m.snapshots.length) : ∀ (d k j : Nat) (z : List (ByteArray × aj)), j + d = m.snapshots[i].files.length → d < k → UM m i m.snapshots[i].files j z →
  (∀ (q : Nat) (hq : q < m.snapshots[i].files.length), q < j → ∀ (x : Nat) (hx : x < i), ∀ g ∈ (m.snapshots[x]'(by omega)).files, g.name = m.snapshots[i].files[q].name → Sf g m.snapshots[i].files[q]) →
  Q9 m i rec1 (fx rec1 (i : Int) m.snapshots[i] k z (j : Int)) := by
 have hsi := ho _ (iA hi)
 have hzi := hm.snaps.2 _ (iA hi)
 intro d
 induction d with
 | zero =>
  intro k j z hj hk hz hg
  obtain ⟨k, rfl⟩ := fu hk
  right
  refine ⟨z, ⟨fun n g h => ?_, fun x hl hx f hf => ?_⟩, ?_, ?_⟩
  ·obtain ⟨h1, h2⟩ := hz.a n g h
   refine ⟨h1, ?_⟩
   rcases h2 with ⟨x, hx, hl, h2⟩ | ⟨q, hq, hl, rfl⟩
   ·exact ⟨x, by omega, hl, h2⟩
   ·exact ⟨i, by omega, hi, iA hl⟩
  ·by_cases e : x = i
   ·subst e
    obtain ⟨q, hq, rfl⟩ := FY.1 hf
    exact ⟨_, hz.c q hq (by omega), ⟨rfl, rfl, rfl, rfl, rfl, rfl⟩⟩
   ·exact hz.b x hl (by omega) f hf
  ·rw [fx, CN (by omega), iF]
   unfold v6
   rw [aq hi hm.snaps.1]
  ·rintro ⟨_, x, hx, f, g, hf, hg', hn, hs⟩
   obtain ⟨q, hq, rfl⟩ := FY.1 hf
   exact hs (hg q hq (by omega) x hx g hg' hn)
 | succ d ih =>
  intro k j z hj hk hz hg
  obtain ⟨k, rfl⟩ := fu hk
  have h1 : j < m.snapshots[i].files.length := by omega
  have hfj := hsi.2.2 _ (iA h1)
  rw [fx, aW h1, iT, aE h1, bS, bS]
  unfold rg
  rw [aq h1 hzi.files.1]
  -- what follows when the file agrees with those before
  have hgo : (∀ (x : Nat) (hx : x < i), ∀ g ∈ (m.snapshots[x]'(by omega)).files, g.name = m.snapshots[i].files[j].name → Sf g m.snapshots[i].files[j]) →
    Q9 m i rec1 (fx rec1 (i : Int) m.snapshots[i] k (jQ v7 z m.snapshots[i].files[j].name m.snapshots[i].files[j]) ((j + 1 : Nat) : Int)) := by
   intro hag
   refine ih k (j + 1) _ (by omega) (by omega) ⟨fun n g h => ?_, fun x hl hx f hf => ?_, fun q hl hq => ?_⟩ (fun q hq hqj x hx g hg' hn => ?_)
   ·by_cases e : n = m.snapshots[i].files[j].name
    ·subst e
     rw [Eh] at h; cases h
     exact ⟨rfl, .inr ⟨j, by omega, h1, rfl⟩⟩
    ·rw [B7 _ _ _ _ e] at h
     obtain ⟨a, b⟩ := hz.a n g h
     refine ⟨a, ?_⟩
     rcases b with b | ⟨q, hq, hl, rfl⟩
     ·exact .inl b
     ·exact .inr ⟨q, by omega, hl, rfl⟩
   ·by_cases e : f.name = m.snapshots[i].files[j].name
    ·rw [e, Eh]
     exact ⟨_, rfl, (hag x hx f hf e).symm⟩
    ·rw [B7 _ _ _ _ e]; exact hz.b x hl hx f hf
   ·by_cases e : q = j
    ·subst e; exact Eh _ _ _
    ·have hlt := hsi.2.1 q j h1 (by omega)
     rw [B7 _ _ _ _ (fun e => by rw [e, sg] at hlt; omega)]
     exact hz.c q hl (by omega)
   ·by_cases e : q = j
    ·subst e; exact hag x hx g hg' hn
    ·exact hg q hq (by omega) x hx g hg' hn
  cases hm' : iJ v7 z m.snapshots[i].files[j].name with
  | none =>
   show Q9 m i rec1 (ak false _ (ak false _ _))
   rw [iF, iF]
   refine hgo fun x hx g hg' hn => ?_
   obtain ⟨g', h2, _⟩ := hz.b x (by omega) hx g hg'
   rw [hn, hm'] at h2; cases h2
  | some g =>
   obtain ⟨hgn, hgp⟩ := hz.a _ g hm'
   have hgx : ∃ (x : Nat) (hx : x < i) (hl : x < m.snapshots.length), g ∈ m.snapshots[x].files := by
    rcases hgp with h | ⟨q, hq, hl, rfl⟩
    ·exact h
    ·have hlt := hsi.2.1 q j h1 hq
     rw [hgn, sg] at hlt; omega
   obtain ⟨x0, hx0, hl0, hg0⟩ := hgx
   have hgo' := (ho _ (iA hl0)).2.2 _ hg0
   show Q9 m i rec1 (ak true (au (oM g m.snapshots[i].files[j]) _) _)
   rw [iT, Wp hgo' hfj ((hm.snaps.2 _ (iA hl0)).files.2 _ hg0), bS]
   cases hsf : Jd g m.snapshots[i].files[j] with
   | false =>
    left
    refine ⟨rfl, hi, x0, hx0, _, g, iA h1, hg0, hgn, fun h => ?_⟩
    rw [(Ej hgo' hfj).2 h] at hsf; cases hsf
   | true =>
    rw [Bool.not_true, iF]
    have hs := (Ej hgo' hfj).1 hsf
    refine hgo fun x hx g' hg' hn => ?_
    obtain ⟨g2, h2, h3⟩ := hz.b x (by omega) hx g' hg'
    rw [hn, hm'] at h2; cases h2
    exact h3.symm.trans hs
theorem M2 {m : aw} (hm : qS m) (ho : RJ m) : ∀ (d k i : Nat) (z : List (ByteArray × aj)), i + d = m.snapshots.length → d < k → SC m i z →
  (eC m k z (i : Int) = some 5 ∧ ∃ q, i ≤ q ∧ Tu m q) ∨ (eC m k z (i : Int) = some 0 ∧ ∀ q, i ≤ q → ¬ Tu m q) := by
 intro d
 induction d with
 | zero =>
  intro k i z hi hk hz
  obtain ⟨k, rfl⟩ := fu hk
  right
  rw [eC, CN (by omega), iF]
  exact ⟨rfl, fun q hq ⟨h, _⟩ => by omega⟩
 | succ d ih =>
  intro k i z hi hk hz
  obtain ⟨k, rfl⟩ := fu hk
  have h1 : i < m.snapshots.length := by omega
  rw [eC, aW h1, iT, aE h1, bS]
  have h3 : UM m i m.snapshots[i].files 0 z := ⟨fun n g h => ⟨(hz.a n g h).1, .inl (hz.a n g h).2⟩, hz.b, fun q _ hq => by omega⟩
  rcases Oh hm ho (eC m k) h1 m.snapshots[i].files.length aQ 0 z (by omega) (by rw [aU]; have := (hm.snaps.2 _ (iA h1)).files.1; omega) h3 (fun q hq h => by omega) with ⟨a, b⟩ | ⟨z', a, b, c⟩
  ·exact .inl ⟨a, i, gO _, b⟩
  ·have b : fx (eC m k) (i : Int) m.snapshots[i] aQ z (0 : Int) = _ := b
   rw [b]
   rcases ih k (i + 1) z' (by omega) (by omega) a with ⟨e1, q, e2, e3⟩ | ⟨e1, e2⟩
   ·exact .inl ⟨e1, q, by omega, e3⟩
   ·refine .inr ⟨e1, fun q hq => ?_⟩
    by_cases e : q = i
    ·subst e; exact c
    ·exact e2 q (by omega)
theorem QQ {m : aw} (hm : qS m) (ho : RJ m) : (tK m = some 5 ∧ ∃ q, Tu m q) ∨ (tK m = some 0 ∧ ∀ q, ¬ Tu m q) := by
 have h0 : SC m 0 [] := ⟨(fun n g h => by cases h), fun x _ hx => by omega⟩
 rcases M2 hm ho m.snapshots.length aQ 0 [] (by omega) (by rw [aU]; have := hm.snaps.1; omega) h0 with ⟨a, q, _, b⟩ | ⟨a, b⟩
 ·exact .inl ⟨a, q, b⟩
 ·exact .inr ⟨a, fun q => b q (Nat.zero_le _)⟩
def IR (s x : al) (j : Nat) : Bool := match s.files[j]? with
 | some f => (match m8 x.files f.name with | some g => !Jd f g | none => false)
 | none => false
def No (m : aw) (i x : Nat) : Bool := match m.snapshots[i]?, m.snapshots[x]? with
 | some s, some y => ly (IR s y) s.files.length
 | _, _ => false
def Kt (m : aw) (i : Nat) : Bool := ly (No m i) i
theorem G8 {α : Type} {l : List α} {i x : Nat} (hx : x < i) (hi : i ≤ l.length) : at? (List.take ((i : Int).toNat - (0 : Int).toNat) (List.drop (0 : Int).toNat l)) (x : Int) = some (l[x]'(by omega)) := by
 have h : x < (List.take ((i : Int).toNat - (0 : Int).toNat) (List.drop (0 : Int).toNat l)).length := by simp; omega
 rw [aE h]
 simp
theorem xD {α : Type} {l : List α} {i : Nat} (hi : i ≤ l.length) : (List.take ((i : Int).toNat - (0 : Int).toNat) (List.drop (0 : Int).toNat l)).length = i := by simp; omega
theorem Rb {m : aw} (hm : qS m) (ho : RJ m) : pX m = ee (er (ly (Kt m) m.snapshots.length) 5) (mO m) := by
 unfold pX
 rw [hU (L := dx m) (n := m.snapshots.length) (fin := mO m) (c := fun i => er (Kt m i) 5) hm.snaps.1
  (fun k => by rw [dx, rW, iF])
  (fun k i hi => by
   rw [dx, aW hi, iT, aE hi, bS, gP ⟨by omega, by omega, by omega⟩]
   have hil : i ≤ m.snapshots.length := by omega
   rw [hU (L := fJ (dx m k) m (i : Int) m.snapshots[i]) (n := i) (fin := dx m k ((i + 1 : Nat) : Int)) (c := fun x => er (No m i x) 5) (by have := hm.snaps.1; omega)
    (fun q => by
     rw [fJ, bS, xD hil, rW, iF]
     unfold xd
     rw [aq hi hm.snaps.1])
    (fun q x hx => by
     have hxl : x < m.snapshots.length := by omega
     have hzi := hm.snaps.2 _ (iA hi)
     rw [fJ, bS, xD hil, aW hx, iT, G8 hx hil, bS]
     rw [hU (L := jF (fJ (dx m k) m (i : Int) m.snapshots[i] q) m.snapshots[i] (x : Int) m.snapshots[x]) (n := m.snapshots[i].files.length) (fin := fJ (dx m k) m (i : Int) m.snapshots[i] q ((x + 1 : Nat) : Int)) (c := fun j => er (IR m.snapshots[i] m.snapshots[x] j) 5) hzi.files.1
      (fun q' => by
       rw [jF, rW, iF]
       unfold xh
       rw [aq hxl hm.snaps.1])
      (fun q' j hj => by
       have hxo := ho _ (iA hxl)
       have hio := ho _ (iA hi)
       rw [jF, aW hj, iT, aE hj, bS, Dq (hm.snaps.2 _ (iA hxl)).files.1, bS]
       unfold sX IR
       rw [aq hj hzi.files.1, dh hj]
       simp only
       cases hf : m8 m.snapshots[x].files m.snapshots[i].files[j].name with
       | none => rfl
       | some g =>
        have hgm : g ∈ m.snapshots[x].files := List.mem_of_find?_eq_some hf
        show ak true (au (pY m.snapshots[i].files[j] g) _) _ = _
        rw [iT, Wn (hio.2.2 _ (iA hj)) (hxo.2.2 _ hgm) (hzi.files.2 _ (iA hj)), bS, dH (by decide)])]
     rw [DB (by decide)]
     unfold No
     rw [dh hi, dh hxl])]
   rw [DB (by decide)]
   rfl)]
 rw [DB (by decide)]
theorem H5 {m : aw} (ho : RJ m) {i : Nat} (hi : i < m.snapshots.length) : Kt m i = true ↔ Tu m i := by
 unfold Kt
 rw [eN]
 constructor
 ·rintro ⟨x, hx, h⟩
  have hxl : x < m.snapshots.length := by omega
  unfold No at h
  rw [dh hi, dh hxl] at h
  simp only at h
  obtain ⟨j, hj, h⟩ := eN.1 h
  unfold IR at h
  rw [dh hj] at h
  simp only at h
  cases hf : m8 m.snapshots[x].files m.snapshots[i].files[j].name with
  | none => rw [hf] at h; cases h
  | some g =>
   rw [hf] at h
   simp only at h
   have hgm : g ∈ m.snapshots[x].files := List.mem_of_find?_eq_some hf
   have hgn : g.name = m.snapshots[i].files[j].name := by simpa using List.find?_some hf
   refine ⟨hi, x, hx, _, g, iA hj, hgm, hgn, fun hs => ?_⟩
   rw [(Ej ((ho _ (iA hi)).2.2 _ (iA hj)) ((ho _ (iA hxl)).2.2 _ hgm)).2 hs.symm] at h
   cases h
 ·rintro ⟨_, x, hx, f, g, hf, hg, hn, hs⟩
  have hxl : x < m.snapshots.length := by omega
  refine ⟨x, hx, ?_⟩
  unfold No
  rw [dh hi, dh hxl]
  obtain ⟨j, hj, rfl⟩ := FY.1 hf
  refine eN.2 ⟨j, hj, ?_⟩
  unfold IR
  rw [dh hj]
  obtain ⟨q, hq, rfl⟩ := FY.1 hg
  have := EU (ho _ (iA hxl)).2.1 hq
  rw [hn] at this
  simp only [this]
  cases hb : Jd m.snapshots[i].files[j] m.snapshots[x].files[q] with
  | false => rfl
  | true => exact absurd ((Ej ((ho _ (iA hi)).2.2 _ hf) ((ho _ (iA hxl)).2.2 _ hg)).1 hb).symm hs
def VT (m : aw) : Int := er (ly (Kt m) m.snapshots.length) 5
theorem ND {m : aw} (hm : qS m) (ho : RJ m) : tK m = some (VT m) := by
 unfold VT
 rcases QQ hm ho with ⟨a, q, b⟩ | ⟨a, b⟩
 ·have hb : ly (Kt m) m.snapshots.length = true := by
   have hq : q < m.snapshots.length := b.1
   exact eN.2 ⟨q, hq, (H5 ho hq).2 b⟩
  rw [a, hb]; rfl
 ·have hb : ly (Kt m) m.snapshots.length = false := by
   rw [← Bool.not_eq_true, eN]
   rintro ⟨q, hq, h⟩
   exact b q ((H5 ho hq).1 h)
  rw [a, hb]; rfl
def E8 (m : aw) (id : Int) : Bool := ly (fun q => match m.snapshots[q]? with | some s => s.id == id | none => false) m.snapshots.length
theorem Wf {m : aw} (hm : qS m) (id : Int) : ∃ s, iq m id = some (s, E8 m id) := by
 unfold iq bG
 have key : ∀ d k i, i + d = m.snapshots.length → d < k → ∃ r, ap m.snapshots id k (i : Int) = some r ∧ ((r = -1 ∧ ∀ j, i ≤ j → ∀ (h : j < m.snapshots.length), m.snapshots[j].id ≠ id) ∨ ∃ (j : Nat) (h : j < m.snapshots.length), r = (j : Int) ∧ m.snapshots[j].id = id) := by
  intro d
  induction d with
  | zero =>
   intro k i hi hk
   obtain ⟨k, rfl⟩ := fu hk
   rw [ap, CN (by omega), iF]
   exact ⟨-1, rfl, .inl ⟨rfl, fun j h1 h2 => by omega⟩⟩
  | succ d ih =>
   intro k i hi hk
   obtain ⟨k, rfl⟩ := fu hk
   have h1 : i < m.snapshots.length := by omega
   rw [ap, aW h1, iT, aE h1, bS, nw, bS, aq h1 hm.snaps.1]
   cases he : (m.snapshots[i].id == id) with
   | true => exact ⟨i, rfl, .inr ⟨i, h1, rfl, by simpa using he⟩⟩
   | false =>
    obtain ⟨r, e1, e2⟩ := ih k (i + 1) (by omega) (by omega)
    refine ⟨r, e1, e2.imp (fun ⟨a, b⟩ => ⟨a, fun j hj h => ?_⟩) fun h => h⟩
    by_cases e : j = i
    ·subst e; simpa using he
    ·exact b j (by omega) h
 obtain ⟨r, r1, r2⟩ := key m.snapshots.length aQ 0 (by omega) (by rw [aU]; have := hm.snaps.1; omega)
 have r1 : ap m.snapshots id aQ (0 : Int) = _ := r1
 rw [r1, bS]
 rcases r2 with ⟨rfl, h⟩ | ⟨j, hj, rfl, h⟩
 ·refine ⟨⟨0, 0, 0, 0, 0, 0, [], [], []⟩, ?_⟩
  have hb : E8 m id = false := by
   unfold E8
   rw [← Bool.not_eq_true, eN]
   rintro ⟨q, hq, e⟩
   rw [dh hq] at e
   exact h q (Nat.zero_le _) hq (by simpa using e)
  rw [hb]; rfl
 ·refine ⟨m.snapshots[j], ?_⟩
  have hb : E8 m id = true := eN.2 ⟨j, hj, by rw [dh hj]; simpa using h⟩
  rw [decide_eq_false (show ¬ (j : Int) < 0 by omega), iF, aE hj, bS, hb]
theorem V0 {m : aw} (hm : qS m) (ho : RJ m) (id : Int) : ∃ s, sr m id = some (s, E8 m id) := by
 have key : ∀ d k i, i + d = m.snapshots.length → d < k → ∃ s b, eW m id k (i : Int) = some (s, b) ∧ (b = true ↔ ∃ j, i ≤ j ∧ ∃ (h : j < m.snapshots.length), m.snapshots[j].id = id) := by
  intro d
  induction d with
  | zero =>
   intro k i hi hk
   obtain ⟨k, rfl⟩ := fu hk
   rw [eW, CN (by omega), iF]
   exact ⟨_, _, rfl, by simp; intro j h1 h2; omega⟩
  | succ d ih =>
   intro k i hi hk
   obtain ⟨k, rfl⟩ := fu hk
   have h1 : i < m.snapshots.length := by omega
   have hid := (ho _ (iA h1)).1
   rw [eW, aW h1, iT, aE h1, bS]
   unfold qU
   rw [aq h1 hm.snaps.1]
   cases he : (m.snapshots[i].id == id) with
   | true =>
    have he : m.snapshots[i].id = id := by simpa using he
    rw [iT, decide_eq_true (by omega), iT]
    exact ⟨_, _, rfl, fun _ => ⟨i, gO _, h1, he⟩, fun _ => rfl⟩
   | false =>
    rw [iF, iF]
    obtain ⟨s, b, e1, e2⟩ := ih k (i + 1) (by omega) (by omega)
    refine ⟨s, b, e1, e2.trans ⟨fun ⟨j, a, h, c⟩ => ⟨j, by omega, h, c⟩, fun ⟨j, a, h, c⟩ => ⟨j, ?_, h, c⟩⟩⟩
    by_cases e : j = i
    ·subst e; rw [c] at he; simp at he
    ·omega
 obtain ⟨s, b, e1, e2⟩ := key m.snapshots.length aQ 0 (by omega) (by rw [aU]; have := hm.snaps.1; omega)
 refine ⟨s, ?_⟩
 unfold sr
 rw [show ((0 : Nat) : Int) = 0 from rfl] at e1
 rw [e1]
 congr 2
 refine gu (e2.trans ?_)
 unfold E8
 rw [eN]
 constructor
 ·rintro ⟨j, _, h, c⟩; exact ⟨j, h, by rw [dh h]; simpa using c⟩
 ·rintro ⟨j, h, c⟩; rw [dh h] at c; exact ⟨j, Nat.zero_le _, h, by simpa using c⟩
def S5 (m : aw) (r : gV) (j : Nat) : Bool := ly (fun q => match m.refs[q]? with | some p => decide (p.name = r.name) | none => false) j
def Ku (m : aw) (j : Nat) : Int := match m.refs[j]? with
 | some r => ov (er (!sK r.name) 4) (ov (er (S5 m r j) 5) (er (!E8 m r.snapshot && !(r.branch && r.snapshot == 0)) 9))
 | none => 0
def Ll (s : ByteArray) : Bool := yo ⟨4, 0, 0, s, []⟩
theorem RA {s : ByteArray} (h : s.size < 100000000) : dQ ⟨4, 0, 0, s, []⟩ < 1000000000 := by simp only [dQ, ig]; omega
def zF (m : aw) (j : Nat) : Int := match m.props[j]? with
 | some p => ov (er (!sK p.name) 4) (er ((decide (0 < j) && (match m.props[j - 1]? with | some q => Hu p.name q.name | none => false)) || !Ll p.value) 1)
 | none => 0
theorem HE {m : aw} (hm : qS m) {i : Nat} (hi : i < m.props.length) (X : Option Int) (O : Option Bool) (ho : O = some (Ll m.props[i].value)) :
  ak (decide ((0 : Int) < (i : Int))) (au (at? m.props (i64.wrap ((i : Int) - (1 : Int)))) fun e3 => au (some (Op.bytesLess m.props[i].name.toList e3.name.toList || m.props[i].name.toList == e3.name.toList)) fun y1 => ak y1 (ak true (some (1 : Int)) X) (au O fun r5 => ak (!r5) (some (1 : Int)) X)) (au O fun r6 => ak (!r6) (some (1 : Int)) X) =
   ee (er ((decide (0 < i) && (match m.props[i - 1]? with | some q => Hu m.props[i].name q.name | none => false)) || !Ll m.props[i].value) 1) X := by
 subst ho
 by_cases h0 : 0 < i
 ·have hi1 : i - 1 < m.props.length := by omega
  rw [decide_eq_true (show (0 : Int) < (i : Int) by omega), iT, qm hi h0 hm.props.1, bS, bS, decide_eq_true h0, dh hi1, Bool.true_and, bS]
  show ak (Hu m.props[i].name m.props[i - 1].name) _ _ = ee (er (Hu m.props[i].name m.props[i - 1].name || !Ll m.props[i].value) 1) X
  cases Hu m.props[i].name m.props[i - 1].name with
  | true => rfl
  | false => rw [iF, dH (by decide), Bool.false_or]
 ·rw [decide_eq_false (show ¬ (0 : Int) < (i : Int) by omega), iF, decide_eq_false h0, Bool.false_and, Bool.false_or, bS, dH (by decide)]
theorem R0 {m : aw} (hm : qS m) : s8 m = some (fe (zF m) m.props.length 0) := by
 unfold s8
 rw [hU (L := ik m) (n := m.props.length) (fin := some 0) (c := zF m) hm.props.1
  (fun k => by rw [ik, rW, iF]; rfl)
  (fun k i hi => by
   obtain ⟨z1, z2⟩ := hm.props.2 _ (iA hi)
   rw [ik, aW hi, iT, aE hi, bS, OL _ z1, bS, dH (by decide)]
   unfold zF
   rw [dh hi]
   simp only
   rw [← bu]
   refine eP fun _ => ?_
   unfold qb
   rw [aq hi hm.props.1]
   refine HE hm hi _ _ ?_
   unfold qp
   rw [Bs _ (RA z2), bS]; rfl)]
 exact dV _
theorem RR {m : aw} (hm : qS m) : rA m = some (fe (zF m) m.props.length 0) := by
 unfold rA
 rw [hU (L := gm m) (n := m.props.length) (fin := some 0) (c := zF m) hm.props.1
  (fun k => by rw [gm, rW, iF]; rfl)
  (fun k i hi => by
   obtain ⟨z1, z2⟩ := hm.props.2 _ (iA hi)
   rw [gm, aW hi, iT, aE hi, bS, Nq _ z1, bS, dH (by decide)]
   unfold zF
   rw [dh hi]
   simp only
   rw [← bu]
   refine eP fun _ => ?_
   unfold oR
   rw [aq hi hm.props.1]
   refine HE hm hi _ _ ?_
   unfold Ad
   rw [NH _ (RA z2), bS]; rfl)]
 exact dV _
theorem Ul {m : aw} (hm : qS m) {i : Nat} (hi : i < m.refs.length) (r : gV) :
  cj (List.take ((i : Int).toNat - (0 : Int).toNat) (List.drop (0 : Int).toNat m.refs)) r = some (S5 m r i, r) := by
 unfold cj dE
 have hil : i ≤ m.refs.length := by omega
 obtain ⟨q, q1, q2⟩ := xt (z := r) (L := fun k j => aZ (List.take ((i : Int).toNat - (0 : Int).toNat) (List.drop (0 : Int).toNat m.refs)) k r.name r.branch r.snapshot j) (n := i) (p := fun q => match m.refs[q]? with | some p => decide (p.name = r.name) | none => false) (by have := hm.refs.1; omega)
  (fun k => by rw [aZ, xD hil, rW, iF]; rfl)
  (fun k j hj => by
   have hjl : j < m.refs.length := by omega
   rw [aZ, xD hil, aW hj, iT, G8 hj hil, bS, yz, bS, HT, aq hjl hm.refs.1, dh hjl])
 have q1 : aZ (List.take ((i : Int).toNat - (0 : Int).toNat) (List.drop (0 : Int).toNat m.refs)) aQ r.name r.branch r.snapshot (0 : Int) = some (q, r) := q1
 rw [q1, bS]
 show some (decide (0 ≤ q), r) = _
 rw [q2]; rfl
theorem LK {b : Bool} (br : Bool) (s : Int) (X : Option Int) : ak (!b) (ak br (ak (!(s == 0)) (some (9 : Int)) X) (ak true (some 9) X)) (ak false (some 9) X) = ee (er (!b && !(br && s == 0)) 9) X := by
 cases b <;> cases br <;> cases (s == 0) <;> rfl
theorem SO {m : aw} (hm : qS m) : yA m = some (ov (fe (Ku m) m.refs.length 0) (fe (zF m) m.props.length 0)) := by
 unfold yA
 rw [hU (L := im m) (n := m.refs.length) (fin := some (fe (zF m) m.props.length 0)) (c := Ku m) hm.refs.1
  (fun k => by rw [im, rW, iF, R0 hm])
  (fun k i hi => by
   obtain ⟨s, hs⟩ := Wf hm m.refs[i].snapshot
   rw [im, aW hi, iT, aE hi, bS, OL _ (hm.refs.2 _ (iA hi)), bS, dH (by decide), gP ⟨by omega, by omega, by omega⟩, Ul hm hi, bS]
   show ee _ (ak (S5 m m.refs[i] i) _ (au (iq m m.refs[i].snapshot) _)) = _
   rw [hs, bS, dH (by decide)]
   unfold Ku pU
   rw [dh hi, aq hi hm.refs.1]
   simp only
   rw [← bu, ← bu, LK])]
 exact wO _ _
theorem SE {m : aw} (hm : qS m) (ho : RJ m) : mO m = some (ov (fe (Ku m) m.refs.length 0) (fe (zF m) m.props.length 0)) := by
 unfold mO
 rw [hU (L := fH m) (n := m.refs.length) (fin := some (fe (zF m) m.props.length 0)) (c := Ku m) hm.refs.1
  (fun k => by rw [fH, rW, iF, RR hm])
  (fun k i hi => by
   obtain ⟨s, hs⟩ := V0 hm ho m.refs[i].snapshot
   rw [fH, aW hi, iT, aE hi, bS, Nq _ (hm.refs.2 _ (iA hi)), bS, dH (by decide)]
   rw [tP (L := l8 (fH m k) m (i : Int) m.refs[i]) (n := i) (e := some 5) (fin := q9 (fH m k) m (i : Int) m.refs[i]) (p := fun q => match m.refs[q]? with | some p => decide (p.name = m.refs[i].name) | none => false) (by have := hm.refs.1; omega)
    (fun q => by rw [l8, rW, iF])
    (fun q j hj => by
     have hjl : j < m.refs.length := by omega
     rw [l8, aW hj, iT, aE hjl, bS, HT, aq hjl hm.refs.1, dh hjl])]
   unfold Ku q9 oE
   rw [dh hi, aq hi hm.refs.1, hs, bS, dH (by decide)]
   simp only
   rw [← bu, ← bu, LK]; rfl)]
 exact wO _ _
def WA (m : aw) (i : Nat) : Bool := match m.snapshots[i]? with | some s => decide ((400 : Int) < (s.files.length : Int)) || decide ((400 : Int) < (s.dby.length : Int)) | none => false
def VS (m : aw) (i : Nat) : Int := match m.snapshots[i]? with | some s => i64.wrap ((s.files.length : Int) + (s.dby.length : Int)) | none => 0
def QM (m : aw) : Nat → Nat → Bool
 | 0, _ => false
 | d + 1, i => WA m i || QM m d (i + 1)
def Qy (m : aw) : Nat → Nat → Int → Int
 | 0, _, x => x
 | d + 1, i, x => Qy m d (i + 1) (i64.wrap (x + VS m i))
theorem H8 {m : aw} (hm : qS m) : ∀ (d k i : Nat) (x : Int) (b : Bool), i + d = m.snapshots.length → d < k → fI m k x b (i : Int) = some (er (b || (QM m d i || decide (4000 < Qy m d i x))) 7)
 | 0, k, i, x, b, hi, hk => by
  obtain ⟨k, rfl⟩ := fu hk
  rw [fI, CN (by omega), iF]
  unfold tZ qq QM Qy
  cases b with
  | true => rfl
  | false => rw [iF]; cases decide (4000 < x) <;> rfl
 | d + 1, k, i, x, b, hi, hk => by
  obtain ⟨k, rfl⟩ := fu hk
  have h1 : i < m.snapshots.length := by omega
  rw [fI, aW h1, iT, aE h1, bS]
  unfold nO QM Qy WA VS
  rw [bS, aq h1 hm.snaps.1, dh h1]
  simp only
  cases b with
  | true => rw [iT, H8 hm d k (i + 1) _ true (by omega) (by omega)]; rfl
  | false =>
   rw [iF]
   cases decide ((400 : Int) < (m.snapshots[i].files.length : Int)) with
   | true => rw [iT, H8 hm d k (i + 1) _ true (by omega) (by omega)]; rfl
   | false =>
    rw [iF, bS, H8 hm d k (i + 1) _ _ (by omega) (by omega)]
    cases decide ((400 : Int) < (m.snapshots[i].dby.length : Int)) <;> rfl
theorem Re {m : aw} (hm : qS m) : ∀ (d k i : Nat) (x : Int), i + d = m.snapshots.length → d < k → jE m k x (i : Int) = some (QM m d i || decide (4000 < Qy m d i x))
 | 0, k, i, x, hi, hk => by
  obtain ⟨k, rfl⟩ := fu hk
  rw [jE, CN (by omega), iF]; rfl
 | d + 1, k, i, x, hi, hk => by
  obtain ⟨k, rfl⟩ := fu hk
  have h1 : i < m.snapshots.length := by omega
  rw [jE, aW h1, iT, aE h1, bS]
  unfold te QM Qy WA VS
  rw [bS, aq h1 hm.snaps.1, dh h1]
  simp only
  cases decide ((400 : Int) < (m.snapshots[i].files.length : Int)) with
  | true => rfl
  | false =>
   rw [iF]
   cases decide ((400 : Int) < (m.snapshots[i].dby.length : Int)) with
   | true => rfl
   | false => rw [iF, Re hm d k (i + 1) _ (by omega) (by omega)]; rfl
theorem Ms {m : aw} (hm : qS m) : ∃ b, pl m = some (er b 7) ∧ yB m = some b := by
 have hc : ∀ x, iX m x = some (er (x || (QM m m.snapshots.length 0 || decide (4000 < Qy m m.snapshots.length 0 0))) 7) := fun x => H8 hm m.snapshots.length aQ 0 0 x (by omega) (by rw [aU]; have := hm.snaps.1; omega)
 have hr : ∀ x, kH m x = some (x || (QM m m.snapshots.length 0 || decide (4000 < Qy m m.snapshots.length 0 0))) := fun x => by
  unfold kH
  have := Re hm m.snapshots.length aQ 0 0 (by omega) (by rw [aU]; have := hm.snaps.1; omega)
  rw [show ((0 : Nat) : Int) = 0 from rfl] at this
  rw [this]
  cases x <;> rfl
 unfold pl yB
 simp only [hc, hr]
 cases decide ((40 : Int) < (m.schemas.length : Int)) with
 | true => exact ⟨_, rfl, rfl⟩
 | false =>
  cases decide ((40 : Int) < (m.specs.length : Int)) with
  | true => exact ⟨_, rfl, rfl⟩
  | false =>
   cases decide ((200 : Int) < (m.snapshots.length : Int)) with
   | true => exact ⟨_, rfl, rfl⟩
   | false =>
    cases decide ((40 : Int) < (m.refs.length : Int)) with
    | true => exact ⟨_, rfl, rfl⟩
    | false => exact ⟨_, rfl, rfl⟩
def BW (n : Int) (l : List Int) : Bool := l.any fun x => decide (n ≤ x)
theorem Pq (n : Int) (a b : List Int) : BW n (a ++ b) = (BW n a || BW n b) := by unfold BW; rw [List.any_append]
theorem Tw (m : aw) : ∀ (N k : Nat) (fs : List ae), dK fs ≤ N → N < k → dK fs < 1000000000 → bH k fs m.schemas m.specs m.nextField m.nextSeq m.nextSnap m.purges m.snapshots m.refs m.props = some (er (BW m.nextField (fb fs)) 3) := by
 intro N
 induction N with
 | zero =>
  intro k fs h hk _
  obtain ⟨k, rfl⟩ := fu hk
  have hl := cO fs
  have : fs = [] := List.eq_nil_of_length_eq_zero (by omega)
  subst this
  rw [bH, C2, bX]
  rfl
 | succ N ih =>
  intro k fs hN hk hs
  obtain ⟨k, rfl⟩ := fu hk
  have hl := cO fs
  rw [bH]
  have loop : ∀ (d kk i : Nat), i + d = fs.length → d < kk → bX (bH k) fs m.schemas m.specs m.nextField m.nextSeq m.nextSnap m.purges m.snapshots m.refs m.props kk (i : Int) = some (er (BW m.nextField (fb (fs.drop i))) 3) := by
   intro d
   induction d with
   | zero =>
    intro kk i hi hk2
    obtain ⟨kk, rfl⟩ := fu hk2
    rw [bX, CN (by omega), iF, List.drop_of_length_le (by omega)]; rfl
   | succ d ihd =>
    intro kk i hi hk2
    obtain ⟨kk, rfl⟩ := fu hk2
    have h1 : i < fs.length := by omega
    have m1 := jt (iA h1)
    have m2 := iN fs[i]
    have m3 := pT fs[i].type
    rw [bX, aW h1, iT, aE h1, bS, ih k _ (by omega) (by omega) (by omega), bS, aq h1 (by omega), ihd kk (i + 1) (by omega) (by omega), Bt h1, zG]
    unfold rF
    have hb : BW m.nextField (fs[i].id :: fb fs[i].type.fields ++ fb (fs.drop (i + 1))) = (decide (m.nextField ≤ fs[i].id) || (BW m.nextField (fb fs[i].type.fields) || BW m.nextField (fb (fs.drop (i + 1))))) := by
     rw [Pq]
     unfold BW
     rw [List.any_cons, Bool.or_assoc]
    rw [hb]
    cases decide (m.nextField ≤ fs[i].id) with
    | true => rfl
    | false =>
     rw [iF, bS]
     show ak false _ _ = _
     rw [iF]
     cases BW m.nextField (fb fs[i].type.fields) <;> rfl
  have := loop fs.length aQ 0 (by omega) (by rw [aU]; omega)
  rw [show ((0 : Nat) : Int) = 0 from rfl, List.drop_zero] at this
  exact this
noncomputable def TN (p q : List ae) : Int := ov (sc p) (ov (sc q) ((bp aQ p q).getD 0))
theorem RG {p q : List ae} (hp : dK p < 1000000000 - 1) (hq : dK q < 1000000000 - 1) : (∃ r, oo p q = some (r, TN p q)) ∧ ∃ r, qx p q = some (r, TN p q) := by
 obtain ⟨e, e1, e2, _⟩ := G7 (dK q) aQ aQ p q (gO _) (by rw [aU]; omega) (by rw [aU]; omega) (by omega) (by omega)
 unfold oo qx n6 pJ TN
 rw [Pu hp, P8 hp, Pu hq, P8 hq, e1, e2]
 simp only [bS]
 show (∃ r, au (ak (sc p != 0) _ _) _ = some (r, ov (sc p) (ov (sc q) e))) ∧ ∃ r, au (ak (sc p != 0) _ _) _ = some (r, ov (sc p) (ov (sc q) e))
 by_cases h1 : sc p = 0
 ·rw [h1]
  show (∃ r, ak (sc q != 0) _ _ = some (r, ov (sc q) e)) ∧ ∃ r, ak (sc q != 0) _ _ = some (r, ov (sc q) e)
  by_cases h2 : sc q = 0
  ·rw [h2]
   show (∃ r, ak (e != 0) _ _ = some (r, e)) ∧ ∃ r, ak (e != 0) _ _ = some (r, e)
   by_cases h3 : e = 0
   ·subst h3; exact ⟨⟨[], rfl⟩, ⟨[], rfl⟩⟩
   ·rw [show (e != 0) = true by simp [h3]]; exact ⟨⟨[], rfl⟩, ⟨[], rfl⟩⟩
  ·rw [show (sc q != 0) = true by simp [h2], Kb h2]; exact ⟨⟨[], rfl⟩, ⟨[], rfl⟩⟩
 ·rw [show (sc p != 0) = true by simp [h1], Kb h1, iT, bS, bS, show (sc p != 0) = true by simp [h1]]; exact ⟨⟨[], rfl⟩, ⟨[], rfl⟩⟩
noncomputable def UQ (m : aw) (l : List ae) (q : Nat) : Int := match m.schemas[q]? with | some o => TN o l | none => 0
noncomputable def IY (m : aw) (j : Nat) : Int := match m.schemas[j]? with
 | some l => ov (sc l) (ov (er (BW m.nextField (fb l)) 3) (fe (UQ m l) j 0))
 | none => 0
theorem Vd {m : aw} (hm : qS m) : s9 m = some (fe (IY m) m.schemas.length 0) := by
 unfold s9
 rw [hU (L := eg m) (n := m.schemas.length) (fin := some 0) (c := IY m) hm.schemas.1
  (fun k => by rw [eg, rW, iF]; rfl)
  (fun k i hi => by
   have hs := hm.schemas.2 _ (iA hi)
   have hil : i ≤ m.schemas.length := by omega
   rw [eg, aW hi, iT, aE hi, bS, Pu hs, bS, iZ, Tw m _ aQ _ (gO _) (by rw [aU]; omega) (by omega), bS, iZ, gP ⟨by omega, by omega, by omega⟩]
   rw [hU (L := jm (eg m k) m (i : Int) m.schemas[i]) (n := i) (fin := eg m k ((i + 1 : Nat) : Int)) (c := UQ m m.schemas[i]) (by have := hm.schemas.1; omega)
    (fun q => by
     rw [jm, bS, xD hil, rW, iF]
     unfold sC
     rw [aq hi hm.schemas.1])
    (fun q x hx => by
     have hxl : x < m.schemas.length := by omega
     obtain ⟨⟨r, hr⟩, _⟩ := RG (hm.schemas.2 _ (iA hxl)) hs
     rw [jm, bS, xD hil, aW hx, iT, G8 hx hil, bS, hr, bS]
     show ak (TN m.schemas[x] m.schemas[i] != 0) _ _ = _
     rw [iZ, aq hxl hm.schemas.1]
     unfold UQ
     rw [dh hxl])]
   unfold IY
   rw [dh hi]
   simp only
   rw [← bu, ← bu])]
 exact dV _
theorem U1 {m : aw} (hm : qS m) : dy m aQ (0 : Int) = ee (fe (IY m) m.schemas.length 0) (sV m) :=
 hU (L := dy m) (n := m.schemas.length) (c := IY m) hm.schemas.1
  (fun k => by rw [dy, rW, iF])
  (fun k i hi => by
   have hs := hm.schemas.2 _ (iA hi)
   have hids := xP m.schemas[i]
   rw [dy, aW hi, iT, aE hi, bS, P8 hs, bS, iZ, Oy _ aQ _ (gO _) (by rw [aU]; omega) (by omega), bS]
   rw [tP (L := l5 (dy m k) m (i : Int) m.schemas[i] (fb m.schemas[i])) (n := (fb m.schemas[i]).length) (e := some 3) (fin := sQ (dy m k) m (i : Int) m.schemas[i]) (p := fun j => match (fb m.schemas[i])[j]? with | some x => decide (m.nextField ≤ x) | none => false) (by omega)
    (fun q => by rw [l5, rW, iF])
    (fun q j hj => by rw [l5, aW hj, iT, aE hj, bS, aq hj (by omega), dh hj])]
   have hb : ly (fun j => match (fb m.schemas[i])[j]? with | some x => decide (m.nextField ≤ x) | none => false) (fb m.schemas[i]).length = BW m.nextField (fb m.schemas[i]) := by
    refine gu ?_
    unfold BW
    rw [eN, List.any_eq_true]
    constructor
    ·rintro ⟨j, hj, h⟩; rw [dh hj] at h; exact ⟨_, iA hj, h⟩
    ·rintro ⟨x, hx, h⟩
     obtain ⟨j, hj, rfl⟩ := FY.1 hx
     exact ⟨j, hj, by rw [dh hj]; exact h⟩
   rw [hb, dH (by decide)]
   unfold sQ
   rw [hU (L := lZ (dy m k) m (i : Int) m.schemas[i]) (n := i) (fin := dy m k ((i + 1 : Nat) : Int)) (c := UQ m m.schemas[i]) (by have := hm.schemas.1; omega)
    (fun q => by
     rw [lZ, rW, iF]
     unfold w6
     rw [aq hi hm.schemas.1])
    (fun q x hx => by
     have hxl : x < m.schemas.length := by omega
     obtain ⟨_, ⟨r, hr⟩⟩ := RG (hm.schemas.2 _ (iA hxl)) hs
     rw [lZ, aW hx, iT, aE hxl, bS, hr, bS]
     show ak (TN m.schemas[x] m.schemas[i] != 0) _ _ = _
     rw [iZ, aq hxl hm.schemas.1]
     unfold UQ
     rw [dh hxl])]
   unfold IY
   rw [dh hi]
   simp only
   rw [← bu, ← bu])
def He (m : aw) (sp : cm) (d : Nat) : Bool := match m.schemas[d]? with | some fs => !ly (rk fs sp) sp.fields.length | none => false
def uk (m : aw) (sp : cm) : Nat → Int
 | 0 => -1
 | d + 1 => if He m sp d then (d : Int) else uk m sp d
theorem Dp (m : aw) (sp : cm) : ∀ d, -1 ≤ uk m sp d ∧ uk m sp d < d
 | 0 => by simp [uk]
 | d + 1 => by
  unfold uk
  have := Dp m sp d
  split <;> constructor <;> omega
noncomputable def TD (sp : cm) (fs : List ae) : Int := (qK sp fs).getD 0
noncomputable def Se (m : aw) (j : Nat) : Int := match m.specs[j]? with
 | some sp => ov (er (decide (uk m sp m.schemas.length < 0) || (decide (j + 1 = m.specs.length) && decide (uk m sp m.schemas.length < (m.schemas.length : Int) - 1))) 9)
  (match m.schemas[(uk m sp m.schemas.length).toNat]? with | some fs => TD sp fs | none => 0)
 | none => 0
theorem Ut {m : aw} (hm : qS m) {sp : cm} (hsp : sp.fields.length < 1000000000) {d : Nat} (hd : d < m.schemas.length) :
  bt sp.fields m.schemas m.specs m.nextField m.nextSeq m.nextSnap m.purges m.snapshots m.refs m.props (d : Int) = some (!He m sp d, (d : Int)) := by
 have hfs := hm.schemas.2 _ (iA hd)
 have hn : m.schemas[d].length < 1000000000 := by have := cO m.schemas[d]; omega
 unfold bt cp
 obtain ⟨r, r1, r2⟩ := xt (z := (d : Int)) (L := fun k i => aG sp.fields m.schemas m.specs m.nextField m.nextSeq m.nextSnap m.purges m.snapshots m.refs m.props k (d : Int) i) (n := sp.fields.length) (p := rk m.schemas[d] sp) hsp
  (fun k => by rw [aG, rW, iF]; rfl)
  (fun k i hi => by
   obtain ⟨t1, _, t3, _⟩ := tY hn sp.fields[i].source
   rw [aG, aW hi, iT, aE hi, bS]
   unfold tR
   rw [aE hd, bS, t1, bS, bS, t3, aq hi hsp]
   unfold rk
   rw [dh hi])
 have r1 : aG sp.fields m.schemas m.specs m.nextField m.nextSeq m.nextSnap m.purges m.snapshots m.refs m.props aQ (d : Int) (0 : Int) = some (r, (d : Int)) := r1
 rw [r1, bS]
 show some (decide (0 ≤ r), (d : Int)) = _
 rw [r2]
 unfold He
 rw [dh hd, Bool.not_not]
theorem Oz {m : aw} (hm : qS m) {sp : cm} (hsp : sp.fields.length < 1000000000) (rec1 : Int → Option Int) (x1 : Int) : ∀ (d k : Nat), d ≤ m.schemas.length → d < k → gq rec1 m x1 sp k ((d : Int) - 1) = oO rec1 m x1 sp (uk m sp d)
 | 0, k, hd, hk => by
  obtain ⟨k, rfl⟩ := fu hk
  rw [gq]
  show ak (decide ((0 : Int) ≤ -1)) _ _ = _
  rw [decide_eq_false (by decide), iF]
  rfl
 | d + 1, k, hd, hk => by
  obtain ⟨k, rfl⟩ := fu hk
  have h1 : d < m.schemas.length := by omega
  rw [gq, show (((d + 1 : Nat) : Int) - 1) = (d : Int) by omega, decide_eq_true (show (0 : Int) ≤ (d : Int) by omega), iT, Ut hm hsp h1, bS]
  unfold rd uk
  show ak (!He m sp d) (gq rec1 m x1 sp k (i64.wrap ((d : Int) - 1))) (oO rec1 m x1 sp (d : Int)) = _
  cases He m sp d with
  | true => rfl
  | false =>
   rw [Bool.not_false, iT, zd (by have := hm.schemas.1; omega) (by have := hm.schemas.1; omega), Oz hm hsp rec1 x1 d k (by omega) (by omega)]; rfl
theorem Ro {m : aw} (hm : qS m) {sp : cm} (hsp : sp.fields.length < 1000000000) {fs : List ae} (hfs : fs ∈ m.schemas) : qK sp fs = some (TD sp fs) ∧ vT sp fs = some (TD sp fs) := by
 have := hm.schemas.2 _ hfs
 obtain ⟨c, h1, h2, _⟩ := NV sp hsp (fs := fs) (by omega)
 unfold TD
 rw [h1, h2]; exact ⟨rfl, rfl⟩
theorem S6 {m : aw} (hm : qS m) : wW m = some (fe (Se m) m.specs.length 0) := by
 unfold wW
 rw [hU (L := dO m) (n := m.specs.length) (fin := some 0) (c := Se m) hm.specs.1
  (fun k => by rw [dO, rW, iF]; rfl)
  (fun k i hi => by
   have hsp := hm.specs.2 _ (iA hi)
   obtain ⟨l1, l2⟩ := Dp m m.specs[i] m.schemas.length
   rw [dO, aW hi, iT, aE hi, bS, lG hm.schemas.1, Oz hm hsp _ _ m.schemas.length aQ (gO _) (by rw [aU]; have := hm.schemas.1; omega)]
   unfold Se
   rw [dh hi]
   simp only
   generalize hK : uk m m.specs[i] m.schemas.length = K at l1 l2
   have hj : ∀ x, x = (decide (K < 0) || (decide (i + 1 = m.specs.length) && decide (K < (m.schemas.length : Int) - 1))) → mG (dO m k) m (i : Int) m.specs[i] K x =
     ee (ov (er (decide (K < 0) || (decide (i + 1 = m.specs.length) && decide (K < (m.schemas.length : Int) - 1))) 9) (match m.schemas[K.toNat]? with | some fs => TD m.specs[i] fs | none => 0)) (dO m k ((i + 1 : Nat) : Int)) := by
    rintro x rfl
    unfold mG
    rw [dH (by decide), ← bu]
    refine eP fun e => ?_
    have e := (CU (by decide)).1 e
    rw [Bool.or_eq_false_iff, decide_eq_false_iff_not] at e
    obtain ⟨h1, h2, h3⟩ := EN (l := m.schemas) (x := K) (by omega) (by omega)
    rw [h2, h3, bS, (Ro hm hsp (iA h1)).1, bS, iZ, aq hi hm.specs.1]
   generalize hB : (decide (K < 0) || (decide (i + 1 = m.specs.length) && decide (K < (m.schemas.length : Int) - 1))) = B at hj ⊢
   unfold oO
   by_cases h0 : K < 0
   ·rw [decide_eq_true h0, iT]
    exact hj true (by rw [← hB, decide_eq_true h0]; rfl)
   ·rw [decide_eq_false h0, iF, lG hm.specs.1]
    by_cases hl : i + 1 = m.specs.length
    ·rw [show ((i : Int) == (m.specs.length : Int) - 1) = true from beq_iff_eq.2 (by omega), iT, lG hm.schemas.1, bS]
     exact hj _ (by rw [← hB, decide_eq_false h0, decide_eq_true hl]; rfl)
    ·rw [show ((i : Int) == (m.specs.length : Int) - 1) = false from beq_eq_false_iff_ne.2 (by omega), iF]
     exact hj false (by rw [← hB, decide_eq_false h0, decide_eq_false hl]; rfl))]
 exact dV _
theorem U9 {m : aw} (hm : qS m) {sp : cm} (hsp : sp.fields.length < 1000000000) (rec2 : Int → Int → Option Int) (x2 : Int) {d : Nat} (hd : d < m.schemas.length) :
  dk rec2 m sp x2 (d : Int) aQ true (0 : Int) = kX rec2 x2 (d : Int) (He m sp d) := by
 have hfs := hm.schemas.2 _ (iA hd)
 have hn : m.schemas[d].length < 1000000000 := by have := cO m.schemas[d]; omega
 have key : ∀ (q k i : Nat) (b : Bool), i + q = sp.fields.length → q < k → dk rec2 m sp x2 (d : Int) k b (i : Int) = kX rec2 x2 (d : Int) (b && !decide (∃ j, j < q ∧ rk m.schemas[d] sp (i + j) = true)) := by
  intro q
  induction q with
  | zero =>
   intro k i b hi hk
   obtain ⟨k, rfl⟩ := fu hk
   rw [dk, CN (by omega), iF]
   simp
  | succ q ih =>
   intro k i b hi hk
   obtain ⟨k, rfl⟩ := fu hk
   have h1 : i < sp.fields.length := by omega
   obtain ⟨_, t2, _, _⟩ := tY hn sp.fields[i].source
   rw [dk, aW h1, iT, aE h1, bS, aE hd, bS, t2, bS]
   unfold nt
   rw [aq h1 hsp]
   have hl : rk m.schemas[d] sp i = !Fb m.schemas[d] sp.fields[i].source := by unfold rk; rw [dh h1]
   have hx : (!decide (∃ j, j < q + 1 ∧ rk m.schemas[d] sp (i + j) = true)) = (Fb m.schemas[d] sp.fields[i].source && !decide (∃ j, j < q ∧ rk m.schemas[d] sp (i + 1 + j) = true)) := by
    refine gu ?_
    rw [gZ, Bool.not_eq_true', Bool.not_eq_true', decide_eq_false_iff_not, decide_eq_false_iff_not]
    constructor
    ·intro h
     refine ⟨?_, fun ⟨j, a, b⟩ => h ⟨j + 1, by omega, by rw [← b]; congr 1; omega⟩⟩
     cases hb : Fb m.schemas[d] sp.fields[i].source with
     | true => rfl
     | false => exact absurd ⟨0, by omega, by rw [Nat.add_zero, hl, hb]; rfl⟩ h
    ·rintro ⟨h1, h2⟩ ⟨j, a, b⟩
     cases j with
     | zero => rw [Nat.add_zero, hl, h1] at b; cases b
     | succ j => exact h2 ⟨j, by omega, by rw [← b]; congr 1; omega⟩
   rw [hx]
   cases b with
   | true =>
    rw [iT]
    show dk rec2 m sp x2 (d : Int) k (Fb m.schemas[d] sp.fields[i].source) ((i + 1 : Nat) : Int) = _
    rw [ih k (i + 1) _ (by omega) (by omega), Bool.true_and]
   | false => rw [iF, ih k (i + 1) _ (by omega) (by omega), Bool.false_and, Bool.false_and]
 have := key sp.fields.length aQ 0 true (by omega) (by rw [aU]; omega)
 rw [show ((0 : Nat) : Int) = 0 from rfl] at this
 rw [this, Bool.true_and]
 congr 1
 unfold He
 rw [dh hd]
 congr 1
 refine gu ?_
 rw [decide_eq_true_iff, eN]
 simp
theorem Uc {m : aw} (hm : qS m) {sp : cm} (hsp : sp.fields.length < 1000000000) (rec1 : Int → Option Int) (x1 : Int) : ∀ (d k i : Nat), i + d = m.schemas.length → d < k → cT rec1 m x1 sp k (uk m sp i) (i : Int) = nz rec1 m x1 sp (uk m sp m.schemas.length)
 | 0, k, i, hi, hk => by
  obtain ⟨k, rfl⟩ := fu hk
  have : i = m.schemas.length := by omega
  rw [cT, CN (by omega), iF, this]
 | d + 1, k, i, hi, hk => by
  obtain ⟨k, rfl⟩ := fu hk
  have h1 : i < m.schemas.length := by omega
  rw [cT, aW h1, iT, U9 hm hsp _ _ h1]
  unfold kX nr
  rw [aq h1 hm.schemas.1, ← Uc hm hsp rec1 x1 d k (i + 1) (by omega) (by omega)]
  rw [show uk m sp (i + 1) = if He m sp i then (i : Int) else uk m sp i from rfl]
  cases He m sp i <;> rfl
theorem SN {m : aw} (hm : qS m) : qr m = some (fe (Se m) m.specs.length 0) := by
 unfold qr
 rw [hU (L := bD m) (n := m.specs.length) (fin := some 0) (c := Se m) hm.specs.1
  (fun k => by rw [bD, rW, iF]; rfl)
  (fun k i hi => by
   have hsp := hm.specs.2 _ (iA hi)
   obtain ⟨l1, l2⟩ := Dp m m.specs[i] m.schemas.length
   have hu := Uc hm hsp (bD m k) (i : Int) m.schemas.length aQ 0 (by omega) (by rw [aU]; have := hm.schemas.1; omega)
   have hu : cT (bD m k) m (i : Int) m.specs[i] aQ (-1 : Int) (0 : Int) = _ := hu
   rw [bD, aW hi, iT, aE hi, bS, hu]
   unfold Se
   rw [dh hi]
   simp only
   generalize hK : uk m m.specs[i] m.schemas.length = K at l1 l2
   have hj : ∀ x, x = (decide (K < 0) || (decide (i + 1 = m.specs.length) && decide (K < (m.schemas.length : Int) - 1))) → jp (bD m k) m (i : Int) m.specs[i] K x =
     ee (ov (er (decide (K < 0) || (decide (i + 1 = m.specs.length) && decide (K < (m.schemas.length : Int) - 1))) 9) (match m.schemas[K.toNat]? with | some fs => TD m.specs[i] fs | none => 0)) (bD m k ((i + 1 : Nat) : Int)) := by
    rintro x rfl
    unfold jp
    rw [dH (by decide), ← bu]
    refine eP fun e => ?_
    have e := (CU (by decide)).1 e
    rw [Bool.or_eq_false_iff, decide_eq_false_iff_not] at e
    obtain ⟨h1, h2, h3⟩ := EN (l := m.schemas) (x := K) (by omega) (by omega)
    rw [h2, h3, bS, (Ro hm hsp (iA h1)).2, bS, iZ, aq hi hm.specs.1]
   generalize hB : (decide (K < 0) || (decide (i + 1 = m.specs.length) && decide (K < (m.schemas.length : Int) - 1))) = B at hj ⊢
   unfold nz
   by_cases h0 : K < 0
   ·rw [decide_eq_true h0, iT]
    exact hj true (by rw [← hB, decide_eq_true h0]; rfl)
   ·rw [decide_eq_false h0, iF, lG hm.specs.1]
    by_cases hl : i + 1 = m.specs.length
    ·rw [show ((i : Int) == (m.specs.length : Int) - 1) = true from beq_iff_eq.2 (by omega), iT, lG hm.schemas.1]
     refine hj _ ?_
     rw [← hB, decide_eq_false h0, decide_eq_true hl, Bool.true_and, Bool.false_or]
     refine gu ?_
     rw [bne_iff_ne, decide_eq_true_iff]; omega
    ·rw [show ((i : Int) == (m.specs.length : Int) - 1) = false from beq_eq_false_iff_ne.2 (by omega), iF]
     exact hj false (by rw [← hB, decide_eq_false h0, decide_eq_false hl]; rfl))]
 exact dV _
noncomputable def Et (m : aw) : Int := ov (fe (IY m) m.schemas.length 0) (ov (fe (Se m) m.specs.length 0) (ov (fe (RK m) m.snapshots.length 0) (ov (VT m) (ov (fe (Ku m) m.refs.length 0) (fe (zF m) m.props.length 0)))))
theorem T6 {m : aw} (hm : qS m) (x : Bool) : kT m x = some (ov (er x 3) (Et m)) := by
 unfold kT Et
 rw [dH (by decide), Vd hm, bS, iZ, S6 hm, bS, iZ, RX hm, bS, iZ]
 refine Eq.trans ?_ (dV _)
 rw [← bu, ← bu, ← bu, ← bu]
 refine eP fun _ => eP fun _ => eP fun _ => eP fun e => ?_
 rw [ND hm (Ee hm e), bS, iZ, SO hm, bS, iZ, bu]
theorem VZ {m : aw} (hm : qS m) (x : Bool) : l0 m x = some (ov (er x 3) (Et m)) := by
 unfold l0 Et
 rw [dH (by decide), U1 hm]
 unfold sV
 rw [SN hm, bS, iZ, RV hm]
 refine Eq.trans ?_ (dV _)
 rw [← bu, ← bu, ← bu, ← bu]
 refine eP fun _ => eP fun _ => eP fun _ => eP fun e => ?_
 rw [Rb hm (Ee hm e), SE hm (Ee hm e), dV]
 exact wO _ _
theorem Rn {m : aw} (hm : qS m) (x : Bool) : ∃ e, lh m x = some e ∧ pW m x = some e := by
 unfold lh pW
 simp only [kJ, om, T6 hm, VZ hm, bS]
 cases x with
 | true => exact ⟨9, rfl, rfl⟩
 | false =>
  cases decide (1 ≤ m.nextField ∧ m.nextField ≤ 1099511627776) with
  | false => exact ⟨_, rfl, rfl⟩
  | true =>
   cases decide (1 ≤ m.nextSeq ∧ m.nextSeq ≤ 1099511627776) with
   | false => exact ⟨_, rfl, rfl⟩
   | true =>
    cases decide (1 ≤ m.nextSnap ∧ m.nextSnap ≤ 1099511627776) with
    | false => exact ⟨_, rfl, rfl⟩
    | true => exact ⟨_, rfl, rfl⟩
theorem Me {m : aw} (hm : qS m) : ∃ e, m7 m = some e ∧ wo m = some e := by
 obtain ⟨b, h1, h2⟩ := Ms hm
 unfold m7 wo
 rw [h1, h2, bS, bS]
 cases b with
 | true => exact ⟨7, rfl, rfl⟩
 | false =>
  show ∃ e, ak false _ _ = _ ∧ ak false _ _ = _
  rw [iF, iF]
  cases ((m.schemas.length : Int) == 0) with
  | true => exact Rn hm true
  | false => exact Rn hm _
theorem Ix : zQ = some true := by decide +kernel
theorem UV {m : aw} (hm : qS m) (x : Bool) : ∃ e, lh m x = some e ∧ (e = 0 → Et m = 0) := by
 unfold lh
 simp only [kJ, T6 hm, bS]
 cases x with
 | true => exact ⟨9, rfl, fun h => absurd h (by decide)⟩
 | false =>
  cases decide (1 ≤ m.nextField ∧ m.nextField ≤ 1099511627776) with
  | false => exact ⟨_, rfl, fun h => (oT.1 h).2⟩
  | true =>
   cases decide (1 ≤ m.nextSeq ∧ m.nextSeq ≤ 1099511627776) with
   | false => exact ⟨_, rfl, fun h => (oT.1 h).2⟩
   | true =>
    cases decide (1 ≤ m.nextSnap ∧ m.nextSnap ≤ 1099511627776) with
    | false => exact ⟨_, rfl, fun h => (oT.1 h).2⟩
    | true => exact ⟨_, rfl, fun h => (oT.1 h).2⟩
theorem OT {m : aw} (hm : qS m) : ∃ b, pl m = some (er b 7) := by
 have hc : ∀ x, iX m x = some (er (x || (QM m m.snapshots.length 0 || decide (4000 < Qy m m.snapshots.length 0 0))) 7) := fun x => H8 hm m.snapshots.length aQ 0 0 x (by omega) (by rw [aU]; have := hm.snaps.1; omega)
 unfold pl
 simp only [hc]
 cases decide ((40 : Int) < (m.schemas.length : Int)) with
 | true => exact ⟨_, rfl⟩
 | false =>
  cases decide ((40 : Int) < (m.specs.length : Int)) with
  | true => exact ⟨_, rfl⟩
  | false =>
   cases decide ((200 : Int) < (m.snapshots.length : Int)) with
   | true => exact ⟨_, rfl⟩
   | false =>
    cases decide ((40 : Int) < (m.refs.length : Int)) with
    | true => exact ⟨_, rfl⟩
    | false => exact ⟨_, rfl⟩
theorem QW {m : aw} (hm : qS m) : ∃ e, m7 m = some e ∧ (e = 0 → Et m = 0) := by
 obtain ⟨b, h1⟩ := OT hm
 unfold m7
 rw [h1, bS]
 cases b with
 | true => exact ⟨7, rfl, fun h => absurd h (by decide)⟩
 | false =>
  show ∃ e, ak false _ _ = _ ∧ _
  rw [iF]
  cases ((m.schemas.length : Int) == 0) with
  | true => exact UV hm true
  | false => exact UV hm _
structure JG (m : aw) (d : bc) : Prop where
 fs : ∃ fs, at? m.schemas d.schema = some fs ∧ fs ∈ m.schemas ∧ (∀ (i : Nat) (h : i < d.ids.length), Ht fs d.ids[i] = true) ∧
  ∀ k ∈ d.keys, k.length = d.ids.length ∧ ∀ (i : Nat) (h : i < d.ids.length) (h' : i < k.length), ck (zR fs d.ids[i]).type k[i] = 0
 keys : ∀ k ∈ d.keys, ∀ v ∈ k, Lv v
structure S4 (m : aw) (s : al) : Prop where
 sort : AJ s.files
 file : ∀ f ∈ s.files, Ok f ∧ ∃ fs, at? m.schemas f.schema = some fs ∧ fs ∈ m.schemas
 dby : ∀ d ∈ s.dby, JG m d
theorem Xf {m : aw} {d : bc} (hm : qS m) (hz : N1 d.ids d.keys) (h : Sq m d = 0) : JG m d := by
 unfold Sq at h
 rw [oT] at h
 obtain ⟨fs, a1, a2, a3⟩ := OY ((CU (by decide)).1 h.1)
 have h2 := h.2
 rw [a2] at h2
 unfold DT at h2
 simp only [oT] at h2
 obtain ⟨_, h3, _, _, _, h4⟩ := h2
 have hl : ∀ (i : Nat) (h : i < d.ids.length), Ht fs d.ids[i] = true := fun i hi => N7 h3 hi
 have hk : ∀ (j : Nat) (hj : j < d.keys.length), er ((d.keys[j].length : Int) != (d.ids.length : Int)) 1 = 0 ∧ fe (FF fs d.ids d.keys[j]) d.ids.length 0 = 0 := by
  intro j hj
  have := Nc.1 h4 j (Nat.zero_le _) (by omega)
  rw [wg hj, oT, oT] at this
  exact ⟨this.1, this.2.1⟩
 refine ⟨⟨fs, a1, a3, hl, fun k hk' => ?_⟩, fun k hk' => ?_⟩
 ·obtain ⟨j, hj, rfl⟩ := FY.1 hk'
  obtain ⟨b1, b2⟩ := hk j hj
  refine ⟨by rw [CU (by decide), bne_eq_false_iff_eq] at b1; omega, fun i hi hi' => ?_⟩
  have := Nc.1 b2 i (Nat.zero_le _) (by omega)
  unfold FF at this
  rw [dh hi, dh hi'] at this
  exact this
 ·obtain ⟨j, hj, rfl⟩ := FY.1 hk'
  obtain ⟨b1, b2⟩ := hk j hj
  exact Er hz (hm.schemas.2 _ a3) hl hj b1 b2
theorem P4 {m : aw} {f : aj} (h : A1 m f = 0) : ∃ fs, at? m.schemas f.schema = some fs ∧ fs ∈ m.schemas := by
 unfold A1 at h
 simp only [oT] at h
 have : LO m f = false := by
  first
  | exact (CU (by decide)).1 h.2.1
  | exact (CU (by decide)).1 h.1
 obtain ⟨fs, sp, a1, _, _, _, a2, _⟩ := Ln this
 exact ⟨fs, a1, a2⟩
theorem VW {m : aw} (hm : qS m) (h : Et m = 0) : ∀ s ∈ m.snapshots, 1 ≤ s.id ∧ S4 m s := by
 unfold Et at h
 simp only [oT] at h
 intro s hs
 have ho := Ee hm h.2.2.1 s hs
 refine ⟨ho.1, ho.2.1, fun f hf => ⟨ho.2.2 f hf, ?_⟩, fun d hd => ?_⟩
 all_goals
  obtain ⟨i, hi, rfl⟩ := FY.1 hs
  have h1 := Nc.1 h.2.2.1 i (Nat.zero_le _) (by omega)
  rw [GP hi, oT, oT] at h1
  have hh := h1.2.2
  unfold PW at hh
  rw [oT, oT] at hh
 ·obtain ⟨j, hj, rfl⟩ := FY.1 hf
  have h2 := Nc.1 hh.1 j (Nat.zero_le _) (by omega)
  unfold PX at h2
  rw [dh hj] at h2
  simp only [oT] at h2
  exact P4 h2.1
 ·have hz := VB (hm.snaps.2 _ hs) hd
  obtain ⟨j, hj, rfl⟩ := FY.1 hd
  have h2 := Nc.1 hh.2.2 j (Nat.zero_le _) (by omega)
  unfold Is at h2
  rw [dh hj] at h2
  simp only [oT] at h2
  exact Xf hm hz h2.1
theorem MW {m : aw} (hm : qS m) (h : Et m = 0) : ∀ fs ∈ m.schemas, sc fs = 0 := by
 unfold Et at h
 simp only [oT] at h
 intro fs hfs
 obtain ⟨i, hi, rfl⟩ := FY.1 hfs
 have h1 := Nc.1 h.1 i (Nat.zero_le _) (by omega)
 unfold IY at h1
 rw [dh hi] at h1
 simp only [oT] at h1
 exact h1.1
def nq {α : Type} (r : α → α → Bool) (l m : List α) (j : Nat) : Bool := match l[j]?, m[j]? with | some x, some y => !r x y | _, _ => false
theorem SH {α : Type} {r : α → α → Bool} {l m : List α} (hl : l.length = m.length) (hr : ∀ x ∈ l, ∀ y ∈ m, (r x y = true ↔ x = y)) : Il (nq r l m) l.length = true ↔ l = m := by
 rw [I1]
 constructor
 ·intro h
  refine List.ext_getElem hl fun i h1 h2 => ?_
  have := h i h1
  unfold nq at this
  rw [dh h1, dh h2] at this
  exact (hr _ (iA h1) _ (iA h2)).1 (by simpa using this)
 ·rintro rfl j hj
  unfold nq
  rw [dh hj]
  have := (hr _ (iA hj) _ (iA hj)).2 rfl
  simp [this]
theorem Ma (l : List Int) (hn : l.length < 1000000000) : Ak l l = some true := by
 unfold Ak
 rw [bne_self_eq_false, iF]
 rw [Ci (L := nf l l) (n := l.length) (p := nq (fun a b => a == b) l l) hn
  (fun k => by rw [nf, rW, iF]; rfl)
  (fun k i hi => by
   rw [nf, aW hi, iT, aE hi, bS, bS, aq hi hn]
   unfold nq
   rw [dh hi]
   rfl)]
 exact congrArg some ((SH rfl fun x _ y _ => by simp).2 rfl)
def tJ (l : List iP) (n : ByteArray) : List Int := ((l.find? fun d => decide (d.file = n)).map (·.rows)).getD []
theorem Uw {s : al} (hn : s.dat.length < 1000000000) (n : ByteArray) : xn s n = some (tJ s.dat n) := by
 have key : ∀ (d k i : Nat), i + d = s.dat.length → d < k → jq s n k (i : Int) = some (tJ (s.dat.drop i) n) := by
  intro d
  induction d with
  | zero =>
   intro k i hi hk
   obtain ⟨k, rfl⟩ := fu hk
   rw [jq, CN (by omega), iF, List.drop_of_length_le (by omega)]; rfl
  | succ d ih =>
   intro k i hi hk
   obtain ⟨k, rfl⟩ := fu hk
   have h1 : i < s.dat.length := by omega
   rw [jq, aW h1, iT, aE h1, bS, HT, qz h1, aq h1 hn]
   unfold tJ
   rw [List.find?_cons]
   cases hb : decide (s.dat[i].file = n) with
   | true => rfl
   | false => rw [iF]; exact ih k (i + 1) (by omega) (by omega)
 have := key s.dat.length aQ 0 (by omega) (by rw [aU]; omega)
 rw [List.drop_zero] at this
 exact this
theorem KK {s : al} (hs : Hw s) (n : ByteArray) : (tJ s.dat n).length < 1000000000 := by
 unfold tJ
 cases h : s.dat.find? (fun d => decide (d.file = n)) with
 | none => show ([] : List Int).length < _; simp
 | some d => exact hs.dat.2 d (List.mem_of_find?_eq_some h)
structure Xc (d : bc) : Prop where
 sz : N1 d.ids d.keys
 lv : ∀ k ∈ d.keys, ∀ v ∈ k, Lv v
structure W2 (s : al) : Prop where
 sz : Hw s
 sort : AJ s.files
 dby : ∀ d ∈ s.dby, Xc d
theorem Ta {m : aw} {s : al} (hm : qS m) (hs : s ∈ m.snapshots) (h : S4 m s) : W2 s :=
 ⟨hm.snaps.2 _ hs, h.sort, fun d hd => ⟨VB (hm.snaps.2 _ hs) hd, (h.dby d hd).keys⟩⟩
end Go.Proofs.YtfnmbpecdjncfaaGreatDoor
namespace Go.Proofs.YtfnmbpecdjncfaaGreatDoor
open Go Go.SX Go.SX.Cal
theorem C3 : ∀ l : List ac, ig l = (l.map dQ).sum
 | [] => by simp [ig]
 | x :: l => by simp [ig, C3 l]
theorem RM (k n sc : Int) (s : ByteArray) (it : List ac) : dQ ⟨k, n, sc, s, it⟩ ≤ s.size + (it.map dQ).sum + 6 := by
 simp only [dQ, C3]; omega
theorem C1 : ∀ l : List ae, dK l = (l.map wq).sum
 | [] => by simp [dK]
 | x :: l => by simp [dK, C1 l]
theorem Sh (k s : Int) (fs : List ae) : j3 ⟨k, s, fs⟩ ≤ (fs.map wq).sum + 4 := by
 rw [pT, C1]; simp only; omega
theorem SU (i : Int) (n : ByteArray) (q : Bool) (t : am) : wq ⟨i, n, q, t⟩ ≤ n.size + j3 t + 4 := by
 rw [iN]; simp only; omega
def Rd (B : wd) (t : TypeId) {α : Type} (c : α → List PV) (X : α → Prop) : Prop := ∀ N N' : Nat, N' ≤ N → ot B Tryz.prog N' t c (fun x => N ≤ 1048576 → X x) (fun _ => 1)
theorem Rd.of {B : wd} {t : TypeId} {α : Type} {c c' : α → List PV} {wf : α → Prop} {s : α → Nat} {X : α → Prop} (h : ∀ N, ot B Tryz.prog N t c wf s) (hc : ∀ x, c' x = c x) (hX : ∀ x, wf x → s x ≤ 1048576 → X x) : Rd B t c' X := by
 intro N N' hN H enc w base spare held gC cs d ps hd hb
 obtain ⟨x, h1, h2, h3⟩ := h N' hd hb
 exact ⟨x, by rw [hc]; exact h1, fun hM => hX x h2 (by omega), B.one d⟩
theorem Wl {α : Type} (xs : List α) : (xs.map fun _ => (1 : Nat)).sum = xs.length := by
 induction xs with
 | nil => rfl
 | cons x l ih => rw [List.map_cons, List.sum_cons, ih, List.length_cons]; omega
theorem Rd.list {B : wd} {t e : TypeId} {α : Type} {c : α → List PV} {X : α → Prop} (n : Nat) (h : Rd B e c X) (ht : Tryz.prog.underlying t = some (.slice e)) (he : Tryz.prog.cellsOf e = n + 1) (hc : ∀ x, (c x).length = n + 1) :
  Rd B t (fun xs : List α => [.ro (xs.map c)]) (fun xs => xs.length < 1000000000 ∧ ∀ x ∈ xs, X x) := by
 intro N N' hN H enc w base spare held gC cs d ps hd hb
 obtain ⟨x, h1, h2, h3⟩ := ot.slice (B := B) (P := Tryz.prog) (N := N') (t := t) (e := e) (cells := c) ht (fun x => by rw [hc, he]) (by rw [he]; omega) (fun N'' h'' => h N N'' (by omega)) hd hb
 have h3 : (x.map fun _ => (1 : Nat)).sum + 1 ≤ B.f d := h3
 rw [Wl] at h3
 exact ⟨x, h1, fun hM => ⟨by omega, fun y hy => h2 y hy hM⟩, B.one d⟩
def RF (B : wd) (off : Nat) (fs : List Field) {α : Type} (c : α → List PV) (X : α → Prop) : Prop := ∀ N N' : Nat, N' ≤ N → Aw B Tryz.prog N' off fs c (fun x => N ≤ 1048576 → X x) (fun _ => 0)
theorem RF.nil {B : wd} {off : Nat} : RF B off [] (fun _ : Unit => []) (fun _ => True) := fun N N' hN H enc w base spare held n cs xs hl h hb hc => by
 obtain ⟨x, h1, _, h3⟩ := Aw.nil (B := B) (P := Tryz.prog) (N := N') hl h hb hc
 exact ⟨x, h1, fun _ => trivial, h3⟩
theorem RF.cons {B : wd} {off : Nat} {f : Field} {fs : List Field} {α β : Type} {c1 : α → List PV} {c2 : β → List PV} {X : α → Prop} {Y : β → Prop} (k n : Nat) (h : Rd B k c1 X) (r : RF B (off + n) fs c2 Y) (hk : f.type = k := by kernel_rfl) (ho : f.offset = off := by kernel_rfl) (hz : Tryz.prog.cellsOf k = n := by kernel_rfl) (hc : ∀ x, (c1 x).length = n := by intro x; rfl) : RF B off (f :: fs) (fun p : α × β => c1 p.1 ++ c2 p.2) (fun p => X p.1 ∧ Y p.2) := by
 have hk : f.type = k := hk
 have hz : _ = n := hz
 subst hk; subst hz
 intro N N' hN H enc w base spare held m cs xs hl hx hb hc'
 obtain ⟨x, h1, h2, h3⟩ := Aw.cons ho hc (h N N' hN) (r N N' hN) hl hx hb hc'
 exact ⟨x, h1, fun hM => ⟨h2.1 hM, h2.2 hM⟩, Nat.zero_le _⟩
theorem Rd.struct {B : wd} {t : TypeId} {α β : Type} {L : List Field} {c : β → List PV} {X : β → Prop} {c' : α → List PV} {Y : α → Prop} (h : RF B 0 L c X) (mk : β → α) (h1 : ∀ y, c' (mk y) = c y) (h2 : ∀ y, X y → Y (mk y)) (hu : ix Tryz.prog t = true := by kernel_rfl) (hL : fieldsOf Tryz.prog t = L := by kernel_rfl) (hz : Tryz.prog.cellsOf t = 0 + (L.map fun f => Tryz.prog.cellsOf f.type).sum := by kernel_rfl) : Rd B t c' Y := fun N N' hN =>
 ot.structF (α := α) (cells := c') (wf' := fun x => N ≤ 1048576 → Y x) (size := fun _ => 1) hu hL hz (fun N'' h'' => h N N'' (by omega)) mk h1 (fun y hy hM => h2 y (hy hM)) (fun y => by omega)
variable {B : wd}
theorem rI : Rd B 3 (fun n : Int => [pi n]) (fun _ => True) := Rd.of (fun N => ot.int (k := .i64) (by kernel_rfl)) (fun _ => rfl) (fun _ _ _ => trivial)
theorem W6 : Rd B 4 (fun b : Bool => [.s (.bool b)]) (fun _ => True) := Rd.of (fun N => ot.bool (by kernel_rfl)) (fun _ => rfl) (fun _ _ _ => trivial)
theorem UF : Rd B 9 (fun s : ByteArray => [.s (.string s)]) (fun s => s.size < 10000000) := Rd.of (fun N => ot.str (by kernel_rfl)) (fun _ => rfl) (fun s _ h => by omega)
theorem rV : Rd B 114 Gp (fun v => dQ v < 1000000000) :=
 Rd.of (KR (P := Tryz.prog) (wf := fun _ => True) (sz := dQ) 114 3 9 54 (by kernel_rfl) (by kernel_rfl) (by kernel_rfl) (by kernel_rfl) (by kernel_rfl) ⟨by kernel_rfl, by kernel_rfl, by kernel_rfl, by kernel_rfl⟩ ⟨by kernel_rfl, by kernel_rfl, by kernel_rfl, by kernel_rfl, by kernel_rfl⟩ ⟨by kernel_rfl, by kernel_rfl, by kernel_rfl, by kernel_rfl, by kernel_rfl⟩ (fun _ _ _ _ _ _ _ _ _ => trivial) RM) (fun v => (congrFun FZ v).symm) (fun v _ h => by omega)
theorem Xk : Rd B 66 (fun fs : List ae => [.ro (af.els fs)]) (fun fs => dK fs < 1000000000 - 1) :=
 Rd.of (fun N => Pc (P := Tryz.prog) (wfT := fun _ => True) (szT := j3) (wfF := fun _ => True) (szF := wq) (szL := dK) 68 70 3 9 4 66 (by kernel_rfl) (by kernel_rfl) (by kernel_rfl) (by kernel_rfl) (by kernel_rfl) (by kernel_rfl) (by kernel_rfl) (by kernel_rfl) ⟨by kernel_rfl, by kernel_rfl, by kernel_rfl, by kernel_rfl, by kernel_rfl⟩ (by kernel_rfl) ⟨by kernel_rfl, by kernel_rfl, by kernel_rfl, by kernel_rfl⟩ ⟨by kernel_rfl, by kernel_rfl, by kernel_rfl, by kernel_rfl⟩ ⟨by kernel_rfl, by kernel_rfl, by kernel_rfl⟩ ⟨by kernel_rfl, by kernel_rfl, by kernel_rfl⟩ (fun _ _ _ _ _ _ => trivial) SU (fun _ _ _ _ _ _ => trivial) Sh (fun xs => by rw [C1]; omega) N) (fun _ => rfl) (fun fs _ h => by omega)
theorem Xi : Rd B 73 (fun x : cm => [PV.ro (aL.els x.fields)]) (fun x => x.fields.length < 1000000000) :=
 Rd.of (fun N => Ts (P := Tryz.prog) 73 71 111 109 3 (by kernel_rfl) (by kernel_rfl) (by kernel_rfl) ⟨by kernel_rfl, by kernel_rfl⟩ (by kernel_rfl) (by kernel_rfl) (by kernel_rfl) (by kernel_rfl) (by kernel_rfl) (by kernel_rfl) (by kernel_rfl) ⟨by kernel_rfl, by kernel_rfl, by kernel_rfl⟩ ⟨by kernel_rfl, by kernel_rfl, by kernel_rfl, by kernel_rfl⟩ ⟨by kernel_rfl, by kernel_rfl, by kernel_rfl, by kernel_rfl⟩ N) (fun _ => rfl) (fun x _ h => by omega)
theorem WJ : Rd B 54 (fun xs : List ac => [PV.ro (ah.els xs)]) (fun xs => xs.length < 1000000000 ∧ ∀ v ∈ xs, dQ v < 1000000000) := by
 have h := Rd.list (B := B) (t := 54) (e := 114) 4 rV (by kernel_rfl) (by kernel_rfl) (fun x => rfl)
 have e : (fun xs : List ac => [PV.ro (ah.els xs)]) = fun xs => [.ro (xs.map Gp)] := by funext xs; rw [ah.hels]; rfl
 rw [e]; exact h
theorem Sk : Rd B 145 JL (fun x : eM => dQ x.min < 1000000000 ∧ dQ x.max < 1000000000) :=
 Rd.struct (L := [dW Tryz.prog 145 0, dW Tryz.prog 145 1, dW Tryz.prog 145 2, dW Tryz.prog 145 3]) (RF.cons 3 1 rI (RF.cons 3 1 rI (RF.cons 114 5 rV (RF.cons 114 5 rV RF.nil))))
  (fun y => (⟨y.1, y.2.1, y.2.2.1, y.2.2.2.1⟩ : eM)) (fun y => rfl) (fun y h => ⟨h.2.2.1, h.2.2.2.1⟩)
theorem Rc : Rd B 55 (fun xs : List eM => [PV.ro (dP.els xs)]) (fun xs => xs.length < 1000000000 ∧ ∀ x ∈ xs, dQ x.min < 1000000000 ∧ dQ x.max < 1000000000) := by
 have h := Rd.list (B := B) (t := 55) (e := 145) 11 Sk (by kernel_rfl) (by kernel_rfl) (fun x => rfl)
 have e : (fun xs : List eM => [PV.ro (dP.els xs)]) = fun xs => [.ro (xs.map JL)] := by funext xs; rw [rS.hels]; rfl
 rw [e]; exact h
theorem UG : Rd B 57 Oi (fun x : aj => Mc x) :=
 Rd.struct (L := [dW Tryz.prog 57 0, dW Tryz.prog 57 1, dW Tryz.prog 57 2, dW Tryz.prog 57 3, dW Tryz.prog 57 4, dW Tryz.prog 57 5, dW Tryz.prog 57 6]) (RF.cons 9 1 UF (RF.cons 3 1 rI (RF.cons 3 1 rI (RF.cons 54 1 WJ (RF.cons 3 1 rI (RF.cons 3 1 rI (RF.cons 55 1 Rc RF.nil)))))))
  (fun y => (⟨y.1, y.2.1, y.2.2.1, y.2.2.2.1, y.2.2.2.2.1, y.2.2.2.2.2.1, y.2.2.2.2.2.2.1⟩ : aj)) (fun y => rfl) (fun y h => ⟨Nat.lt_trans h.1 (by decide), h.2.2.2.1, h.2.2.2.2.2.2.1⟩)
theorem R8 : Rd B 47 (fun xs : List aj => [PV.ro (aY.els xs)]) (fun xs => xs.length < 1000000000 ∧ ∀ x ∈ xs, Mc x) := by
 have h := Rd.list (B := B) (t := 47) (e := 57) 6 UG (by kernel_rfl) (by kernel_rfl) (fun x => rfl)
 have e : (fun xs : List aj => [PV.ro (aY.els xs)]) = fun xs => [.ro (xs.map Oi)] := by funext xs; rw [rS.hels]; rfl
 rw [e]; exact h
theorem WK : Rd B 39 (fun xs : List Int => [PV.ro (eI.els xs)]) (fun xs => xs.length < 1000000000) :=
 Rd.of (fun N => SP (P := Tryz.prog) 39 3 (by kernel_rfl) (by kernel_rfl) (by kernel_rfl) N) (fun _ => rfl) (fun x _ h => by omega)
theorem V5 : Rd B 85 (fun x : iP => [PV.s (.string x.file), .ro (eI.els x.rows)]) (fun x : iP => x.rows.length < 1000000000) :=
 Rd.struct (L := [dW Tryz.prog 85 0, dW Tryz.prog 85 1]) (RF.cons 9 1 UF (RF.cons 39 1 WK RF.nil))
  (fun y => (⟨y.1, y.2.1⟩ : iP)) (fun y => rfl) (fun y h => h.2.1)
theorem UO : Rd B 48 (fun xs : List iP => [PV.ro (cM.els xs)]) (fun xs => xs.length < 1000000000 ∧ ∀ x ∈ xs, x.rows.length < 1000000000) := by
 have h := Rd.list (B := B) (t := 48) (e := 85) 1 V5 (by kernel_rfl) (by kernel_rfl) (fun x => rfl)
 have e : (fun xs : List iP => [PV.ro (cM.els xs)]) = fun xs => [.ro (xs.map (fun x : iP => [PV.s (.string x.file), .ro (eI.els x.rows)]))] := by funext xs; rw [rS.hels]; rfl
 rw [e]; exact h
theorem TY : Rd B 38 (fun xs : List (List ac) => [PV.ro ((eL ah).els xs)]) (fun xs => xs.length < 1000000000 ∧ ∀ x ∈ xs, x.length < 1000000000 ∧ ∀ v ∈ x, dQ v < 1000000000) := by
 have h := Rd.list (B := B) (t := 38) (e := 54) 0 WJ (by kernel_rfl) (by kernel_rfl) (fun x => rfl)
 have e : (fun xs : List (List ac) => [PV.ro ((eL ah).els xs)]) = fun xs => [.ro (xs.map (fun xs : List ac => [PV.ro (ah.els xs)]))] := by funext xs; rw [rS.hels]; rfl
 rw [e]; exact h
theorem VO : Rd B 88 (fun x : bc => [pi x.schema, PV.ro (eI.els x.ids), .ro ((eL ah).els x.keys), pi x.seq]) (fun x : bc => x.ids.length < 1000000000 ∧ x.keys.length < 1000000000 ∧ ∀ k ∈ x.keys, k.length < 1000000000 ∧ ∀ v ∈ k, dQ v < 1000000000) :=
 Rd.struct (L := [dW Tryz.prog 88 0, dW Tryz.prog 88 1, dW Tryz.prog 88 2, dW Tryz.prog 88 3]) (RF.cons 3 1 rI (RF.cons 39 1 WK (RF.cons 38 1 TY (RF.cons 3 1 rI RF.nil))))
  (fun y => (⟨y.1, y.2.1, y.2.2.1, y.2.2.2.1⟩ : bc)) (fun y => rfl) (fun y h => ⟨h.2.1, h.2.2.1⟩)
theorem T8 : Rd B 49 (fun xs : List bc => [PV.ro (b9.els xs)]) (fun xs => xs.length < 1000000000 ∧ ∀ x ∈ xs, x.ids.length < 1000000000 ∧ x.keys.length < 1000000000 ∧ ∀ k ∈ x.keys, k.length < 1000000000 ∧ ∀ v ∈ k, dQ v < 1000000000) := by
 have h := Rd.list (B := B) (t := 49) (e := 88) 3 VO (by kernel_rfl) (by kernel_rfl) (fun x => rfl)
 have e : (fun xs : List bc => [PV.ro (b9.els xs)]) = fun xs => [.ro (xs.map (fun x : bc => [pi x.schema, PV.ro (eI.els x.ids), .ro ((eL ah).els x.keys), pi x.seq]))] := by funext xs; rw [rS.hels]; rfl
 rw [e]; exact h
theorem Uy : Rd B 51 Ob (fun x : al => Hw x) :=
 Rd.struct (L := [dW Tryz.prog 51 0, dW Tryz.prog 51 1, dW Tryz.prog 51 2, dW Tryz.prog 51 3, dW Tryz.prog 51 4, dW Tryz.prog 51 5, dW Tryz.prog 51 6, dW Tryz.prog 51 7, dW Tryz.prog 51 8]) (RF.cons 3 1 rI (RF.cons 3 1 rI (RF.cons 3 1 rI (RF.cons 3 1 rI (RF.cons 3 1 rI (RF.cons 3 1 rI (RF.cons 47 1 R8 (RF.cons 48 1 UO (RF.cons 49 1 T8 RF.nil)))))))))
  (fun y => (⟨y.1, y.2.1, y.2.2.1, y.2.2.2.1, y.2.2.2.2.1, y.2.2.2.2.2.1, y.2.2.2.2.2.2.1, y.2.2.2.2.2.2.2.1, y.2.2.2.2.2.2.2.2.1⟩ : al)) (fun y => rfl) (fun y h => ⟨h.2.2.2.2.2.2.1, h.2.2.2.2.2.2.2.1, h.2.2.2.2.2.2.2.2.1⟩)
theorem Tn : Rd B 24 (fun xs : List al => [PV.ro (aM.els xs)]) (fun xs => xs.length < 1000000000 ∧ ∀ x ∈ xs, Hw x) := by
 have h := Rd.list (B := B) (t := 24) (e := 51) 8 Uy (by kernel_rfl) (by kernel_rfl) (fun x => rfl)
 have e : (fun xs : List al => [PV.ro (aM.els xs)]) = fun xs => [.ro (xs.map Ob)] := by funext xs; rw [rS.hels]; rfl
 rw [e]; exact h
theorem VL : Rd B 99 (fun x : gV => [PV.s (.string x.name), .s (.bool x.branch), pi x.snapshot]) (fun x : gV => x.name.size < 1000000000) :=
 Rd.struct (L := [dW Tryz.prog 99 0, dW Tryz.prog 99 1, dW Tryz.prog 99 2]) (RF.cons 9 1 UF (RF.cons 4 1 W6 (RF.cons 3 1 rI RF.nil)))
  (fun y => (⟨y.1, y.2.1, y.2.2.1⟩ : gV)) (fun y => rfl) (fun y h => Nat.lt_trans h.1 (by decide))
theorem Ur : Rd B 25 (fun xs : List gV => [PV.ro (lg.els xs)]) (fun xs => xs.length < 1000000000 ∧ ∀ x ∈ xs, x.name.size < 1000000000) := by
 have h := Rd.list (B := B) (t := 25) (e := 99) 2 VL (by kernel_rfl) (by kernel_rfl) (fun x => rfl)
 have e : (fun xs : List gV => [PV.ro (lg.els xs)]) = fun xs => [.ro (xs.map (fun x : gV => [PV.s (.string x.name), .s (.bool x.branch), pi x.snapshot]))] := by funext xs; rw [rS.hels]; rfl
 rw [e]; exact h
theorem T9 : Rd B 102 (fun x : jk => [PV.s (.string x.name), .s (.string x.value)]) (fun x : jk => x.name.size < 1000000000 ∧ x.value.size < 100000000) :=
 Rd.struct (L := [dW Tryz.prog 102 0, dW Tryz.prog 102 1]) (RF.cons 9 1 UF (RF.cons 9 1 UF RF.nil))
  (fun y => (⟨y.1, y.2.1⟩ : jk)) (fun y => rfl) (fun y h => ⟨Nat.lt_trans h.1 (by decide), Nat.lt_trans h.2.1 (by decide)⟩)
theorem R1 : Rd B 26 (fun xs : List jk => [PV.ro (ic.els xs)]) (fun xs => xs.length < 1000000000 ∧ ∀ x ∈ xs, x.name.size < 1000000000 ∧ x.value.size < 100000000) := by
 have h := Rd.list (B := B) (t := 26) (e := 102) 1 T9 (by kernel_rfl) (by kernel_rfl) (fun x => rfl)
 have e : (fun xs : List jk => [PV.ro (ic.els xs)]) = fun xs => [.ro (xs.map (fun x : jk => [PV.s (.string x.name), .s (.string x.value)]))] := by funext xs; rw [rS.hels]; rfl
 rw [e]; exact h
theorem V7 : Rd B 22 (fun xs : List (List ae) => [PV.ro ((eL af).els xs)]) (fun xs => xs.length < 1000000000 ∧ ∀ x ∈ xs, dK x < 1000000000 - 1) := by
 have h := Rd.list (B := B) (t := 22) (e := 66) 0 Xk (by kernel_rfl) (by kernel_rfl) (fun x => rfl)
 have e : (fun xs : List (List ae) => [PV.ro ((eL af).els xs)]) = fun xs => [.ro (xs.map (fun fs : List ae => [PV.ro (af.els fs)]))] := by funext xs; rw [rS.hels]; rfl
 rw [e]; exact h
theorem Wb : Rd B 23 (fun xs : List cm => [PV.ro (em.els xs)]) (fun xs => xs.length < 1000000000 ∧ ∀ x ∈ xs, x.fields.length < 1000000000) := by
 have h := Rd.list (B := B) (t := 23) (e := 73) 0 Xi (by kernel_rfl) (by kernel_rfl) (fun x => rfl)
 have e : (fun xs : List cm => [PV.ro (em.els xs)]) = fun xs => [.ro (xs.map (fun x : cm => [PV.ro (aL.els x.fields)]))] := by funext xs; rw [rS.hels]; rfl
 rw [e]; exact h
abbrev RI (x : aw) : List PV := [.ro ((eL af).els x.schemas), .ro (em.els x.specs), pi x.nextField, pi x.nextSeq, pi x.nextSnap, pi x.purges, .ro (aM.els x.snapshots), .ro (lg.els x.refs), .ro (ic.els x.props)]
theorem Rt : Rd B 28 RI (fun x : aw => qS x) :=
 Rd.struct (L := [dW Tryz.prog 28 0, dW Tryz.prog 28 1, dW Tryz.prog 28 2, dW Tryz.prog 28 3, dW Tryz.prog 28 4, dW Tryz.prog 28 5, dW Tryz.prog 28 6, dW Tryz.prog 28 7, dW Tryz.prog 28 8]) (RF.cons 22 1 V7 (RF.cons 23 1 Wb (RF.cons 3 1 rI (RF.cons 3 1 rI (RF.cons 3 1 rI (RF.cons 3 1 rI (RF.cons 24 1 Tn (RF.cons 25 1 Ur (RF.cons 26 1 R1 RF.nil)))))))))
  (fun y => (⟨y.1, y.2.1, y.2.2.1, y.2.2.2.1, y.2.2.2.2.1, y.2.2.2.2.2.1, y.2.2.2.2.2.2.1, y.2.2.2.2.2.2.2.1, y.2.2.2.2.2.2.2.2.1⟩ : aw)) (fun y => rfl) (fun y h => ⟨h.1, h.2.1, h.2.2.2.2.2.2.1, h.2.2.2.2.2.2.2.1, h.2.2.2.2.2.2.2.2.1⟩)
noncomputable def TP (m : aw) : Nat := @ite _ (qS m) (Classical.propDecidable _) 1 1048577
theorem RY {m : aw} (h : TP m ≤ 1048576) : qS m := by
 unfold TP at h
 split at h
 ·assumption
 ·omega
theorem Sc (N : Nat) : ot B Tryz.prog N 28 RI (fun _ => True) TP := by
 intro H enc w base spare held gC cs d ps hd hb
 by_cases hs : B.f d ≤ 1048576
 ·obtain ⟨x, h1, h2, _⟩ := Rt 1048576 (B.f d) hs hd (gO _)
  refine ⟨x, h1, trivial, ?_⟩
  unfold TP
  rw [if_pos (h2 (gO _))]
  exact B.one d
 ·obtain ⟨x, h1, _, _⟩ := Rt N N (gO _) hd hb
  refine ⟨x, h1, trivial, ?_⟩
  unfold TP
  split <;> omega
end Go.Proofs.YtfnmbpecdjncfaaGreatDoor
namespace Go.Proofs.YtfnmbpecdjncfaaGreatDoor
open Go Go.SX Go.SX.Cal Go.Lib
open Go.IntKind (i64)
theorem wu (x : Int) : IntKind.u64.wrap x = x % 18446744073709551616 := rfl
theorem yc {v : ac} (h : v.items = []) : yo v = dX v := by
 unfold yo j9
 have hc : ¬ 256 < DR v 0 := by unfold DR; split <;> omega
 cases hp : dX v
 ·rw [if_pos (.inr rfl)]
 ·rw [if_neg (by simp [hc]), h]; rfl
theorem Og : ∀ v : ac, ac.mk v.kind v.n v.scale v.s v.items = v
 | ⟨_, _, _, _, _⟩ => rfl
theorem Pp {s : ByteArray} (h : s.size = 0) : s = ByteArray.empty := ByteArray.size_eq_zero_iff.1 h
theorem xC {v : ac} (h : dX v = true) (hk : v.kind = 1 ∨ v.kind = 2 ∨ v.kind = 3) : v.s = ByteArray.empty ∧ v.items = [] ∧ -999999999999999999 ≤ v.n ∧ v.n ≤ 999999999999999999 := by
 refine ⟨?_, ox h (by omega) (by omega), ?_⟩
 ·unfold dX at h
  rcases hk with hk | hk | hk <;> simp [hk] at h
  ·exact h.2.2.1
  ·exact h.2.2.1
  ·exact h.2.2.1
 ·unfold dX at h
  rcases hk with hk | hk | hk <;> simp [hk] at h <;> omega
theorem sj {k n s : Int} : dQ ⟨k, n, s, ByteArray.empty, []⟩ < 1000000000 := by
 rw [xx]; simp only [ig, EO]; omega
theorem Nr {k n sc : Int} (h : -999999999999999999 ≤ n ∧ n ≤ 999999999999999999) (hp : dX ⟨k, n, sc, ByteArray.empty, []⟩ = true) :
  (au (qM n) fun r2 => au (oY (bW.mk r2.neg (r2.size.1, r2.size.2.1, r2.size.2.2.1, r2.size.2.2.2)) sc sc) fun r3 =>
   au (vS k (bW.mk r3.neg (r3.size.1, r3.size.2.1, r3.size.2.2.1, r3.size.2.2.2)) sc) fun r4 => some r4) = some ⟨k, n, sc, ByteArray.empty, []⟩ := by
 have hs : ∀ (b : Bool) (a : Int), oY (bW.mk b (a, 0, 0, 0)) sc sc = some (bW.mk b (a, 0, 0, 0)) := by
  intro b a
  unfold oY js
  rw [decide_eq_true (Int.le_refl _), kM, Int.sub_self, show i64.wrap 0 = 0 from rfl, tj, dY, decide_eq_false (by omega), eO]
  rfl
 have hm : ∀ (b : Bool) (a : Int), 0 ≤ a → a ≤ 999999999999999999 → (if b = true then -a else a) = n → vS k (bW.mk b (a, 0, 0, 0)) sc = some ⟨k, n, sc, ByteArray.empty, []⟩ := by
  intro b a h0 h1 he
  have hnum : n7 (bW.mk b (a, 0, 0, 0)) = some (n, true) := by
   unfold n7 lS
   simp only [dZ]
   rw [show (IntKind.u64.wrap ((BitVec.ofInt IntKind.u64.bits 0 ||| BitVec.ofInt IntKind.u64.bits 0).toNat : Int)) = 0 from by decide, show (IntKind.u64.wrap ((BitVec.ofInt IntKind.u64.bits 0 ||| BitVec.ofInt IntKind.u64.bits 0).toNat : Int) != 0) = false from by decide, eO, decide_eq_false (by omega), eO, zd (x := a) (by omega) (by omega), zd (by omega) (by omega)]
   cases b
   ·rw [eO, ← he]; rfl
   ·rw [kM, ← he, Int.zero_sub]; rfl
  unfold vS tc
  rw [hnum, dZ]
  simp only [Bool.not_true, eO]
  rw [Bs _ sj, dZ, yc rfl, hp]
  rfl
 unfold qM
 by_cases h0 : n < 0
 ·rw [decide_eq_true h0, kM, dZ]
  simp only
  rw [hs, dZ]
  simp only
  rw [hm _ _ (by rw [wu, wu]; omega) (by rw [wu, wu]; omega) (by rw [if_pos rfl, wu, wu]; omega), dZ]
 ·rw [decide_eq_false h0, eO, dZ]
  simp only
  rw [hs, dZ]
  simp only
  rw [hm _ _ (by rw [wu]; omega) (by rw [wu]; omega) (by rw [if_neg (by decide), wu]; omega), dZ]
theorem Cb {v : ac} {u : am} (h : dX v = true) (hk : v.kind = 1 ∨ v.kind = 2 ∨ v.kind = 3) (hu : u.kind = 2 ∨ u.kind = 3) (hne : v.kind ≠ u.kind ∨ u.kind = 3) (hsc : v.scale = u.scale)
  (hp : dX ⟨u.kind, v.n, v.scale, ByteArray.empty, []⟩ = true) : oJ v u = some ⟨u.kind, v.n, v.scale, ByteArray.empty, []⟩ := by
 obtain ⟨_, _, hn⟩ := xC h hk
 have hj2 : n4 v u false = some ⟨u.kind, v.n, v.scale, ByteArray.empty, []⟩ := by
  unfold n4 s5
  rw [eO, show (u.kind == 4) = false by simp; omega, eO, show (v.kind == 4) = false by simp; omega, eO, show (u.kind == 1) = false by simp; omega, eO, eO, ← hsc]
  exact Nr hn hp
 unfold oJ pZ
 rw [show (v.kind == 0) = false by simp; omega, eO, show (v.kind == 6) = false by simp; omega, eO, show (v.kind == 7) = false by simp; omega, eO]
 by_cases he : v.kind = u.kind
 ·rw [show (v.kind == u.kind) = true by simp [he], kM, show (u.kind != 3) = false by simp; omega, hj2]
 ·rw [show (v.kind == u.kind) = false by simp [he], eO, hj2]
theorem Ek {v r : ac} {u : am} (hv : dQ v < 1000000000) (hr : dQ r < 1000000000) (h : oJ v u = some r) (hi : v.items = []) (hk7 : v.kind ≠ 7) (hp : dX v = true) (ht : cr u = some 0) (hc : Aq v.kind u.kind = some true) (hri : r.items = []) (hrp : dX r = true) :
  j8 v u = some r := by
 have hcv : eD aQ v u = some true := by
  rw [tj, eD]
  by_cases h0 : v.kind = 0
  ·rw [show (v.kind == 0) = true by simp [h0], kM]
  ·rw [show (v.kind == 0) = false by simp [h0], eO, hc, dZ, Bool.not_true, eO, show (v.kind == 7) = false by simp [hk7], eO]
   unfold lO
   rw [eO, tj, lP, hi]
   rfl
 unfold j8 nR
 rw [Bs v hv, dZ, yc hi, hp, Bool.not_true, eO, ht, dZ, bne_self_eq_false, eO, hcv, dZ, Bool.not_true, eO, h, dZ, Bs r hr, dZ, yc hri, hrp, Bool.not_true, eO]
def GC (v : ac) (u : am) : ac := ⟨u.kind, v.n, v.scale, v.s, v.items⟩
theorem Md : cr ⟨2, 0, []⟩ = some 0 := by
 unfold cr
 rw [tj]
 rfl
theorem OZ {k : Int} (h : 1 ≤ k ∧ k ≤ 5) : Aq k k = some true := by
 have : k = 1 ∨ k = 2 ∨ k = 3 ∨ k = 4 ∨ k = 5 := by omega
 rcases this with rfl | rfl | rfl | rfl | rfl <;> rfl
theorem PY {v : ac} (h : dX v = true) (h0 : v.kind ≠ 0) (h6 : v.kind ≠ 6) (h7 : v.kind ≠ 7) : 1 ≤ v.kind ∧ v.kind ≤ 5 := by
 unfold dX at h
 simp only at h
 by_cases h1 : v.kind = 1
 ·omega
 by_cases h2 : v.kind = 2
 ·omega
 by_cases h3 : v.kind = 3
 ·omega
 by_cases h4 : v.kind = 4
 ·omega
 by_cases h5 : v.kind = 5
 ·omega
 rw [if_neg h0, if_neg h1, if_neg h2, if_neg h3, if_neg h4, if_neg h5, if_neg h6, if_neg h7] at h
 cases h
theorem C8 {v : ac} {u : am} (hp : dX v = true) (hs : v.kind = 1 ∨ v.kind = 2) (hu : u.kind = 2 ∨ u.kind = 3) : dX ⟨u.kind, v.n, v.scale, ByteArray.empty, []⟩ = true := by
 obtain ⟨_, _, h1, h2⟩ := xC hp (by omega)
 have h3 := wD hp (by omega)
 unfold dX
 rcases hu with hu | hu <;> simp [hu, h3, h1, h2]
theorem Jv {v : ac} {u : am} (hs : v.s = ByteArray.empty) (hi : v.items = []) : GC v u = ⟨u.kind, v.n, v.scale, ByteArray.empty, []⟩ := by
 unfold GC; rw [hs, hi]
theorem JM {v : ac} {t u : am} (hv : dQ v < 1000000000) (hp : dX v = true) (h0 : v.kind ≠ 0) (h6 : v.kind ≠ 6) (h7 : v.kind ≠ 7) (hk : v.kind = t.kind) (h3 : v.kind = 3 → v.scale = t.scale) (hw : Wd t u) (hV : V u) (hc : cr u = some 0) :
  jH v u = some (GC v u) ∧ dX (GC v u) = true := by
 have hkl := PY hp h0 h6 h7
 have hi := ox hp h6 h7
 have hcast : ∀ w, j8 v u = some w → (v.kind = 1 ∧ u.kind = 3 → False) → jH v u = some w := by
  intro w hw hn
  unfold jH kL kO
  have hx : ac.mk v.kind v.n v.scale v.s v.items = v := Og v
  by_cases h1 : v.kind = 1
  ·rw [show (v.kind == 1) = true by simp [h1], kM, show (u.kind == 3) = false by simp; intro h; exact hn ⟨h1, h⟩, eO, hx, hw, dZ]
  ·rw [show (v.kind == 1) = false by simp [h1], eO, eO, hx, hw, dZ]
 have hnum : (v.kind = 1 ∧ u.kind = 2) ∨ (v.kind = 2 ∧ u.kind = 3 ∧ u.scale = 0) → j8 v u = some (GC v u) ∧ dX (GC v u) = true := by
  intro h
  have hs : v.scale = u.scale := by
   rw [wD hp (by omega)]
   rcases h with h | h
   ·rw [hV.scale (by omega)]
   ·exact h.2.2.symm
  obtain ⟨ha, hb, _⟩ := xC hp (by omega)
  have hpp := C8 (u := u) hp (by omega) (by omega)
  rw [Jv ha hb]
  refine ⟨Ek hv sj (Cb hp (by omega) (by omega) (by omega) hs hpp) hb h7 hp hc ?_ rfl hpp, hpp⟩
  rcases h with ⟨h, h'⟩ | ⟨h, h', _⟩ <;> rw [h, h'] <;> rfl
 rcases hw with ⟨hw, hw2⟩ | ⟨hw, hw2⟩ | ⟨hw, hw2, hw3⟩
 ·have hke : v.kind = u.kind := by omega
  have he : GC v u = v := by unfold GC; rw [← hke]; exact Og v
  rw [he]
  refine ⟨hcast v ?_ (by omega), hp⟩
  refine Ek hv hv ?_ hi h7 hp hc (by rw [← hke]; exact OZ hkl) hi hp
  by_cases hk3 : u.kind = 3
  ·obtain ⟨ha, hb, _⟩ := xC hp (by omega)
   have hx : (⟨u.kind, v.n, v.scale, ByteArray.empty, []⟩ : ac) = v := by rw [← Jv ha hb, he]
   rw [Cb (u := u) hp (by omega) (by omega) (by omega) (by rw [h3 (by omega)]; exact hw2) (by rw [hx]; exact hp), hx]
  ·unfold oJ pZ n4
   rw [show (v.kind == 0) = false by simp [h0], eO, show (v.kind == 6) = false by simp [h6], eO, show (v.kind == 7) = false by simp [h7], eO, show (v.kind == u.kind) = true by simp [hke], kM, show (u.kind != 3) = true by simp [hk3], kM]
 ·obtain ⟨a, b⟩ := hnum (.inl ⟨by omega, hw2⟩)
  exact ⟨hcast _ a (by omega), b⟩
 ·by_cases h1 : v.kind = 1
  ·obtain ⟨ha, hb, _⟩ := xC hp (by omega)
   have hsc := wD hp (by omega)
   have hpp := C8 (v := v) (u := ⟨2, 0, []⟩) hp (by omega) (.inl rfl)
   have hc1 : j8 v ⟨2, 0, []⟩ = some ⟨2, v.n, v.scale, ByteArray.empty, []⟩ :=
    Ek hv sj (Cb (u := ⟨2, 0, []⟩) hp (by omega) (.inl rfl) (by left; rw [h1]; decide) hsc hpp) hb h7 hp Md (by rw [h1]; rfl) rfl hpp
   have hp3 := C8 (u := u) hp (.inl h1) (.inr hw2)
   have hc2 : j8 ⟨2, v.n, v.scale, ByteArray.empty, []⟩ u = some ⟨u.kind, v.n, v.scale, ByteArray.empty, []⟩ :=
    Ek sj sj (Cb (v := ⟨2, v.n, v.scale, ByteArray.empty, []⟩) (u := u) hpp (.inr (.inl rfl)) (.inr hw2) (.inr hw2) (by show v.scale = u.scale; omega) hp3) rfl (show (2 : Int) ≠ 7 by decide) hpp hc (by rw [hw2]; rfl) rfl hp3
   rw [Jv ha hb]
   refine ⟨?_, hp3⟩
   unfold jH kL kO
   rw [show (v.kind == 1) = true by simp [h1], kM, show (u.kind == 3) = true by simp [hw2], kM, hc1, dZ]
   simp only
   rw [hc2, dZ]
  ·obtain ⟨a, b⟩ := hnum (.inr ⟨by omega, hw2, hw3⟩)
   exact ⟨hcast _ a (by omega), b⟩
theorem Mx {v : ac} {u : am} (h0 : v.kind ≠ 0) : qE v u = some (GC v u) := by
 unfold qE sS
 rw [show (v.kind != 0) = true by simp [h0], kM]
 rfl
end Go.Proofs.YtfnmbpecdjncfaaGreatDoor
namespace Go.Proofs.YtfnmbpecdjncfaaGreatDoor
open Go Go.SX Go.SX.Cal
open Go.IntKind (i64)
def Bq : ac := ⟨0, 0, 0, ByteArray.empty, []⟩
theorem LV {v : ac} (h : Lv v) (h0 : v.kind = 0) : v = Bq := by
 obtain ⟨k, n, sc, s, it⟩ := v
 obtain ⟨h1, h2, h3⟩ := h.nul h0
 have h4 := h.it
 simp only at h0 h1 h2 h3 h4
 subst h0; subst h1; subst h2; subst h4
 rw [Pp h3]; rfl
theorem Ju : Lv Bq := ⟨by decide, by decide, rfl, by decide, by decide, fun _ => by decide⟩
theorem MS {u : am} (ht : cr u = some 0) : j8 Bq u = some Bq := by
 have hs : lU Bq = some true := by
  rw [Bs _ (by show dQ ⟨0, 0, 0, ByteArray.empty, []⟩ < _; exact sj), yc rfl]; rfl
 have hcv : eD aQ Bq u = some true := by rw [tj, eD]; rfl
 have hca : oJ Bq u = some Bq := by unfold oJ; rfl
 unfold j8 nR
 rw [hs, dZ, Bool.not_true, eO, ht, dZ, bne_self_eq_false, eO, hcv, dZ, Bool.not_true, eO, hca, dZ, hs, dZ, Bool.not_true, eO]
structure Ty (t : am) (v : ac) : Prop where
 sv : dQ v < 1000000000
 st : j3 t < 1000000000
 ck : ck t v = 0
theorem LS {t u : am} {v : ac} (h : Ty t v) (hw : Ws t u) : ∃ w, jH v u = some w ∧ qE v u = some w ∧ Lv w := by
 have hl := wV h.sv h.st hw.l.1 hw.l.2 h.ck
 obtain ⟨ht, hS, ho⟩ := Rx h.sv h.st h.ck
 by_cases h0 : v.kind = 0
 ·have hn := LV hl h0
  subst hn
  refine ⟨Bq, ?_, rfl, Ju⟩
  unfold jH kL kO
  rw [show (Bq.kind == 1) = false by decide, eO, eO]
  have := MS hw.c
  unfold Bq at this
  show au (j8 ⟨0, 0, 0, ByteArray.empty, []⟩ u) _ = _
  rw [this]; rfl
 ·obtain ⟨hp, _⟩ := hS.succ
  have hk : v.kind = t.kind ∧ (v.kind = 3 → v.scale = t.scale) := by
   rw [Fk, if_neg h0] at ho
   by_cases e : v.kind = t.kind
   ·rw [if_neg (fun h => h e)] at ho
    refine ⟨e, fun h3 => ?_⟩
    rw [if_pos h3] at ho
    exact beq_iff_eq.1 ho
   ·rw [if_pos e] at ho; cases ho
  have h6 : v.kind ≠ 6 := by rw [hk.1]; exact hw.l.1
  have h7 : v.kind ≠ 7 := by rw [hk.1]; exact hw.l.2
  obtain ⟨a, b⟩ := JM h.sv hp h0 h6 h7 hk.1 hk.2 hw.w hw.b hw.c
  exact ⟨_, a, Mx h0, HC b hw.m.1 hw.m.2⟩
noncomputable def U5 (v : ac) (s : am) (k : ac) (t : am) : Bool := (iV v s k t).getD false
theorem Px {s t : am} {v k : ac} (hv : Ty s v) (hk : Ty t k) : iV v s k t = some (U5 v s k t) := by
 have : ∃ b, iV v s k t = some b := by
  unfold iV
  obtain ⟨b, b1, _, b3⟩ := qN s t hv.st hk.st
  rw [b1, bS]
  cases b with
  | true =>
   have w := b3 rfl
   obtain ⟨x, x1, _, x3⟩ := LS hv w
   rw [iT, x1, bS, C9 x3 (wV hk.sv hk.st w.m.1 w.m.2 hk.ck), bS]
   exact ⟨_, rfl⟩
  | false =>
   rw [iF]
   obtain ⟨c, c1, _, c3⟩ := qN t s hk.st hv.st
   rw [c1, bS]
   cases c with
   | true =>
    have w := c3 rfl
    obtain ⟨x, x1, _, x3⟩ := LS hk w
    rw [iT, x1, bS, C9 (wV hv.sv hv.st w.m.1 w.m.2 hv.ck) x3, bS]
    exact ⟨_, rfl⟩
   | false => rw [iF]; exact ⟨_, rfl⟩
 obtain ⟨b, hb⟩ := this
 unfold U5
 rw [hb]; rfl
structure Hj (fs : List ae) (r : List ac) : Prop where
 n : fs.length < 1000000000
 len : r.length = fs.length
 ty : ∀ (i : Nat) f v, fs[i]? = some f → r[i]? = some v → Ty f.type v
structure Sm (fs : List ae) (ids : List Int) (k : List ac) : Prop where
 n : fs.length < 1000000000
 m : ids.length < 1000000000
 len : k.length = ids.length
 tl : ∀ (i : Nat) (h : i < ids.length), Ht fs ids[i] = true
 ty : ∀ (i : Nat) (h : i < ids.length) (h' : i < k.length), Ty (zR fs ids[i]).type k[i]
noncomputable def Sp (fs : List ae) (r : List ac) (ofs : List ae) (ids : List Int) (k : List ac) (j : Nat) : Bool := match ids[j]?, k[j]? with
 | some id, some x => !(if Fb fs id then (match r[(IS fs id).toNat]? with | some v => U5 v (zR fs id).type x (zR ofs id).type | none => false) else decide (x.kind = 0))
 | _, _ => false
theorem NA {fs : List ae} {r : List ac} (hr : Hj fs r) {id : Int} (h : Fb fs id = true) : ∃ v, at? r (IS fs id) = some v ∧ r[(IS fs id).toNat]? = some v ∧ at? fs (IS fs id) = some (zR fs id) ∧ Ty (zR fs id).type v := by
 obtain ⟨_, _, _, a4⟩ := tY hr.n id
 obtain ⟨b1, _⟩ := a4 h
 obtain ⟨c1, c2, c3⟩ := at?_some b1
 have hl : (IS fs id).toNat < r.length := by rw [hr.len]; omega
 refine ⟨r[(IS fs id).toNat], ?_, dh hl, b1, hr.ty _ _ _ c3 (dh hl)⟩
 unfold at?
 rw [if_pos c1, dh hl]
theorem Q6 {fs : List ae} {r : List ac} {ofs : List ae} {ids : List Int} {k : List ac} (hr : Hj fs r) (hk : Sm ofs ids k) : sU fs r ofs ids k = some (Il (Sp fs r ofs ids k) ids.length) := by
 unfold sU
 exact Ci (L := fM fs r ofs ids k) (n := ids.length) (p := Sp fs r ofs ids k) hk.m
  (fun q => by rw [fM, rW, iF]; rfl)
  (fun q i hi => by
   have hi' : i < k.length := by rw [hk.len]; exact hi
   obtain ⟨t, t1, t2⟩ := Mm hk.n ids[i]
   obtain ⟨a1, _, a3, _⟩ := tY hr.n ids[i]
   have ht := (t2 (hk.tl i hi)).1
   rw [fM, aW hi, iT, aE hi, bS, t1, bS, a1, bS, a3]
   unfold pj Sp
   rw [aq hi hk.m, dh hi, dh hi']
   simp only
   cases hb : Fb fs ids[i] with
   | false =>
    rw [Bool.not_false, iT, aE hi', bS, if_neg (by simp)]
    congr 1
   | true =>
    obtain ⟨v, v1, v2, v3, v4⟩ := NA hr hb
    rw [Bool.not_true, iF, v1, bS, v3, bS, aE hi', bS, ht, Px v4 (hk.ty i hi hi'), bS, if_pos rfl, v2])
noncomputable def PR (m : aw) (fs : List ae) (r : List ac) (d : bc) (j : Nat) : Bool := match d.keys[j]?, m.schemas[d.schema.toNat]? with
 | some k, some ofs => Il (Sp fs r ofs d.ids k) d.ids.length
 | _, _ => false
noncomputable def Ni (m : aw) (q : Int) (fs : List ae) (r : List ac) (l : List bc) (j : Nat) : Bool := match l[j]? with
 | some d => decide (q < d.seq) && ly (PR m fs r d) d.keys.length
 | none => false
structure TO (m : aw) (d : bc) : Prop where
 n : d.keys.length < 1000000000
 fs : ∃ fs, at? m.schemas d.schema = some fs ∧ m.schemas[d.schema.toNat]? = some fs ∧ ∀ k ∈ d.keys, Sm fs d.ids k
theorem N3 {m : aw} {d : bc} (hm : qS m) (hz : N1 d.ids d.keys) (h : JG m d) : TO m d := by
 obtain ⟨fs, a1, a2, a3, a4⟩ := h.fs
 have hf := hm.schemas.2 _ a2
 refine ⟨hz.nkey, fs, a1, (at?_some a1).2.2, fun k hk => ?_⟩
 obtain ⟨b1, b2⟩ := a4 k hk
 have hn : fs.length < 1000000000 := by have := cO fs; omega
 refine ⟨hn, hz.nid, b1, a3, fun i hi hi' => ⟨(hz.key k hk).2 _ (iA hi'), ?_, b2 i hi hi'⟩⟩
 obtain ⟨t, _, t2⟩ := Mm hn d.ids[i]
 exact DN hf (t2 (a3 i hi)).2
theorem OO {m : aw} {fs : List ae} {r : List ac} {d : bc} (hr : Hj fs r) (hd : TO m d) :
  bM d.keys r m.schemas m.specs m.nextField m.nextSeq m.nextSnap m.purges m.snapshots m.refs m.props d.schema d.ids d.keys d.seq fs = some (ly (PR m fs r d) d.keys.length, fs) := by
 obtain ⟨ofs, o1, o2, o3⟩ := hd.fs
 unfold bM cI
 obtain ⟨x, x1, x2⟩ := xt (z := fs) (L := fun k i => aV d.keys r m.schemas m.specs m.nextField m.nextSeq m.nextSnap m.purges m.snapshots m.refs m.props d.schema d.ids d.keys d.seq k fs i) (n := d.keys.length) (p := PR m fs r d) hd.n
  (fun k => by rw [aV, rW, iF]; rfl)
  (fun k i hi => by
   rw [aV, aW hi, iT, aE hi, bS]
   unfold qC
   rw [o1, bS, Q6 hr (o3 _ (iA hi)), bS, bS, aq hi hd.n]
   unfold PR
   rw [dh hi, o2])
 rw [x1, bS, x2]
theorem Td {m : aw} {fs : List ae} {r : List ac} {f : aj} {l : List bc} (hr : Hj fs r) (hn : l.length < 1000000000) (hd : ∀ d ∈ l, TO m d) :
  bC l f.name f.schema f.spec f.part f.rows f.seq f.stats r m.schemas m.specs m.nextField m.nextSeq m.nextSnap m.purges m.snapshots m.refs m.props fs = some (ly (Ni m f.seq fs r l) l.length, fs) := by
 unfold bC cx
 obtain ⟨x, x1, x2⟩ := xt (z := fs) (L := fun k i => aO l f.name f.schema f.spec f.part f.rows f.seq f.stats r m.schemas m.specs m.nextField m.nextSeq m.nextSnap m.purges m.snapshots m.refs m.props k fs i) (n := l.length) (p := Ni m f.seq fs r l) hn
  (fun k => by rw [aO, rW, iF]; rfl)
  (fun k i hi => by
   rw [aO, aW hi, iT, aE hi, bS]
   unfold su
   rw [OO hr (hd _ (iA hi)), bS]
   unfold mr Ni
   rw [dh hi]
   simp only
   cases decide (f.seq < l[i].seq) with
   | true => rw [iT, bS, aq hi hn, Bool.true_and]
   | false => rw [iF, bS, aq hi hn, Bool.false_and])
 rw [x1, bS, x2]
def wP (p : Nat → Bool) : Nat → Nat → List Int
 | 0, _ => []
 | d + 1, i => (if p i = true then [(i : Int)] else []) ++ wP p d (i + 1)
theorem Gh (p : Nat → Bool) : ∀ d i, (wP p d i).length ≤ d
 | 0, _ => gO _
 | d + 1, i => by
  have := Gh p d (i + 1)
  unfold wP
  split <;> simp <;> omega
noncomputable def LI (m : aw) (fs : List ae) (rows : List (List ac)) (gone : List Int) (q : Int) (l : List bc) (i : Nat) : Bool :=
 !decide ((i : Int) ∈ gone) && !(match rows[i]? with | some r => ly (Ni m q fs r l) l.length | none => false)
theorem S8 {l : List Int} (hn : l.length < 1000000000) (x : Int) : jZ l x = some (decide (x ∈ l)) := by
 unfold jZ o7
 obtain ⟨r, r1, r2⟩ := LU (L := eo l x) (n := l.length) (p := fun j => match l[j]? with | some e => x == e | none => false) hn
  (fun k => by rw [eo, rW, iF]; rfl)
  (fun k i hi => by
   rw [eo, aW hi, iT, aE hi, bS, aq hi hn, dh hi])
 rw [r1, bS, r2]
 congr 1
 refine gu ?_
 rw [eN, decide_eq_true_iff]
 constructor
 ·rintro ⟨j, hj, h⟩
  rw [dh hj] at h
  rw [beq_iff_eq.1 h]; exact iA hj
 ·intro h
  obtain ⟨j, hj, e⟩ := FY.1 h
  exact ⟨j, hj, by rw [dh hj]; exact beq_iff_eq.2 e.symm⟩
theorem UC (l : List Int) : mm l = some l := by
 unfold mm
 rw [gP ⟨by omega, by omega, by omega, by omega⟩]
 simp
theorem SA {m : aw} {s : al} {f : aj} {rows : List (List ac)} {fs : List ae} (hs : Hw s) (hf : at? m.schemas f.schema = some fs) (hl : rows.length < 1000000000) (hr : ∀ r ∈ rows, Hj fs r) (hd : ∀ d ∈ s.dby, TO m d) :
  sq m s f rows = some (wP (LI m fs rows (tJ s.dat f.name) f.seq s.dby) rows.length 0) := by
 have hg := KK hs f.name
 have key : ∀ (d k i : Nat) (l : List Int), i + d = rows.length → d < k → l.length ≤ i →
   gw m s f rows (tJ s.dat f.name) k l fs (i : Int) = some (l ++ wP (LI m fs rows (tJ s.dat f.name) f.seq s.dby) d i) := by
  intro d
  induction d with
  | zero =>
   intro k i l hi hk _
   obtain ⟨k, rfl⟩ := fu hk
   rw [gw, CN (by omega), iF]
   unfold xo
   rw [UC, bS]
   simp [wP]
  | succ d ih =>
   intro k i l hi hk h1
   obtain ⟨k, rfl⟩ := fu hk
   have h2 : i < rows.length := by omega
   rw [gw, aW h2, iT, aE h2, bS, S8 hg, bS]
   have hj : ∀ b, b = LI m fs rows (tJ s.dat f.name) f.seq s.dby i → pS (gw m s f rows (tJ s.dat f.name) k) l (i : Int) fs b = some (l ++ wP (LI m fs rows (tJ s.dat f.name) f.seq s.dby) (d + 1) i) := by
    rintro b rfl
    unfold pS s6 wP
    rw [aq h2 hl]
    cases LI m fs rows (tJ s.dat f.name) f.seq s.dby i with
    | true => rw [iT, gP (by omega), ih k (i + 1) _ (by omega) (by omega) (by simp; omega)]; simp
    | false => rw [iF, ih k (i + 1) _ (by omega) (by omega) (by omega)]; simp
   have hp : LI m fs rows (tJ s.dat f.name) f.seq s.dby i = (!decide ((i : Int) ∈ tJ s.dat f.name) && !ly (Ni m f.seq fs rows[i] s.dby) s.dby.length) := by
    unfold LI; rw [dh h2]
   unfold vN
   rw [Td (hr _ (iA h2)) hs.dby.1 hd, bS, bS]
   cases hc : decide ((i : Int) ∈ tJ s.dat f.name) with
   | true => rw [Bool.not_true, iF]; exact hj false (by rw [hp, hc]; rfl)
   | false => rw [Bool.not_false, iT]; exact hj _ (by rw [hp, hc]; rfl)
 unfold sq
 rw [hf, bS, Uw hs.dat.1, bS]
 exact key rows.length aQ 0 [] (by omega) (by rw [aU]; omega) (Nat.zero_le _)
theorem FO {fs : List aj} {n : ByteArray} {f : aj} (h : m8 fs n = some f) : f ∈ fs ∧ f.name = n :=
 ⟨List.mem_of_find?_eq_some h, by simpa using List.find?_some h⟩
theorem KO {fs : List ae} {rows : List (List ac)} (hf : dK fs < 1000000000 - 1) (hr : ∀ r ∈ rows, ig r < 1000000000) (h : Nd fs rows = 0) : ∀ r ∈ rows, Hj fs r := by
 intro r hm
 have h1 : Cu fs rows = 0 := by
  unfold Nd at h
  split at h
  ·omega
  ·split at h
   ·omega
   ·exact h
 obtain ⟨a, b⟩ := HO h1 r hm
 have hn : fs.length < 1000000000 := by have := cO fs; omega
 refine ⟨hn, a, fun i f v e1 e2 => ?_⟩
 obtain ⟨c, _⟩ := LL b i f v e1 e2
 have s1 := lH (List.mem_of_getElem? e2)
 have s2 := hr r hm
 exact ⟨by omega, DN hf (List.mem_of_getElem? e1), c⟩
noncomputable def Ub (m : aw) (s : al) (f : aj) (fs : List ae) (rows : List (List ac)) : List Int × Int :=
 if Nd fs rows ≠ 0 then ([], Nd fs rows) else if (rows.length : Int) ≠ f.rows then ([], 1) else (wP (LI m fs rows (tJ s.dat f.name) f.seq s.dby) rows.length 0, 0)
theorem Sl {m : aw} (hm : qS m) {id : Int} {s : al} {n : ByteArray} {rows : List (List ac)} (hc : m7 m = some 0) (hs : iq m id = some (s, true)) (hd : W2 s) (ho : S4 m s) (hr : ∀ r ∈ rows, ig r < 1000000000) (hl : rows.length < 1000000000) :
  (m8 s.files n = none → nB m id n rows = some ([], 9)) ∧
  (∀ f, m8 s.files n = some f → ∃ fs, at? m.schemas f.schema = some fs ∧ nB m id n rows = some (Ub m s f fs rows)) := by
 have h0 : ∀ X, X = m8 s.files n → nB m id n rows = (ak (!X.isSome) (some ([], 9))
   (au (at? m.schemas (X.getD GU).schema) fun e1 =>
    au (mL e1 rows) fun r4 =>
    ak (r4 != (0 : Int))
     (some ([], r4))
     (ak ((rows.length : Int) != (X.getD GU).rows)
      (some ([], (1 : Int)))
      (au (sq m s (X.getD GU) rows) fun r5 =>
       some (r5, (0 : Int)))))) := by
  rintro X rfl
  unfold nB
  rw [hc, bS, bne_self_eq_false, iF, hs, bS]
  show ak false _ _ = _
  rw [iF, O5 hd.sort hd.sz.files.1, bS]
 refine ⟨fun h => by rw [h0 none h.symm]; rfl, fun f h => ?_⟩
 obtain ⟨hf, hn⟩ := FO h
 obtain ⟨_, fs, a1, a2⟩ := ho.file f hf
 have hz := hm.schemas.2 _ a2
 refine ⟨fs, a1, ?_⟩
 rw [h0 (some f) h.symm]
 show ak false _ (au (at? m.schemas f.schema) _) = _
 rw [iF, a1, bS, zIO hz hr hl, bS]
 unfold Ub
 by_cases h1 : Nd fs rows = 0
 ·rw [h1, bne_self_eq_false, iF, if_neg (fun h => h rfl)]
  show ak ((rows.length : Int) != f.rows) _ (au (sq m s f rows) _) = _
  by_cases h2 : (rows.length : Int) = f.rows
  ·rw [show ((rows.length : Int) != f.rows) = false by simp [h2], iF, if_neg (fun h => h h2), SA hd.sz a1 hl (KO hz hr h1) (fun d hdm => N3 hm (hd.dby d hdm).sz (ho.dby d hdm)), bS]
  ·rw [show ((rows.length : Int) != f.rows) = true by simp [h2], iT, if_pos h2]
 ·rw [show (Nd fs rows != 0) = true by simp [h1], iT, if_pos h1]
theorem Qt {m : aw} {s : al} {f : aj} {fs : List ae} {rows : List (List ac)} (hl : rows.length < 1000000000) : (Ub m s f fs rows).1.length < 1000000000 := by
 unfold Ub
 split
 ·show ([] : List Int).length < _; simp
 ·split
  ·show ([] : List Int).length < _; simp
  ·have := Gh (LI m fs rows (tJ s.dat f.name) f.seq s.dby) rows.length 0
   show (wP _ _ _).length < _
   omega
theorem UU {s : al} (hn : s.dat.length < 1000000000) (n : ByteArray) : CW s n = some (tJ s.dat n) := by
 have key : ∀ (d k i : Nat), i + d = s.dat.length → d < k → nn s n k (i : Int) = some (tJ (s.dat.drop i) n) := by
  intro d
  induction d with
  | zero =>
   intro k i hi hk
   obtain ⟨k, rfl⟩ := fu hk
   rw [nn, CN (by omega), iF, List.drop_of_length_le (by omega)]; rfl
  | succ d ih =>
   intro k i hi hk
   obtain ⟨k, rfl⟩ := fu hk
   have h1 : i < s.dat.length := by omega
   rw [nn, aW h1, iT, aE h1, bS, HT, qz h1, aq h1 hn]
   unfold tJ
   rw [List.find?_cons]
   cases hb : decide (s.dat[i].file = n) with
   | true => rfl
   | false => rw [iF]; exact ih k (i + 1) (by omega) (by omega)
 have := key s.dat.length aQ 0 (by omega) (by rw [aU]; omega)
 rw [List.drop_zero] at this
 exact this
theorem Mo {m : aw} (hm : qS m) (ho : ∀ s ∈ m.snapshots, 1 ≤ s.id) (id : Int) : ∃ s b, iq m id = some (s, b) ∧ sr m id = some (s, b) ∧ (b = true → s ∈ m.snapshots) := by
 have hn := hm.snaps.1
 have key : ∀ (d k k' i : Nat), i + d = m.snapshots.length → d < k → d < k' →
   (∃ (j : Nat) (hj : j < m.snapshots.length), ap m.snapshots id k (i : Int) = some (j : Int) ∧ eW m id k' (i : Int) = some (m.snapshots[j], true)) ∨
   (ap m.snapshots id k (i : Int) = some (-1) ∧ eW m id k' (i : Int) = some (⟨0, 0, 0, 0, 0, 0, [], [], []⟩, false)) := by
  intro d
  induction d with
  | zero =>
   intro k k' i hi hk hk'
   obtain ⟨k, rfl⟩ := fu hk
   obtain ⟨k', rfl⟩ := fu hk'
   rw [ap, eW, CN (by omega), iF, iF]
   exact .inr ⟨rfl, rfl⟩
  | succ d ih =>
   intro k k' i hi hk hk'
   obtain ⟨k, rfl⟩ := fu hk
   obtain ⟨k', rfl⟩ := fu hk'
   have h1 : i < m.snapshots.length := by omega
   have hid := ho _ (iA h1)
   rw [ap, eW, aW h1, iT, iT, aE h1, bS, bS, nw, bS, aq h1 hn]
   unfold qU
   rw [aq h1 hn]
   cases he : (m.snapshots[i].id == id) with
   | true =>
    have e : m.snapshots[i].id = id := by simpa using he
    rw [iT, iT, decide_eq_true (show (0 : Int) < id by omega), iT]
    exact .inl ⟨i, h1, rfl, rfl⟩
   | false =>
    rw [iF, iF, iF]
    exact ih k k' (i + 1) (by omega) (by omega) (by omega)
 unfold iq bG sr
 rcases key m.snapshots.length aQ aQ 0 (by omega) (by rw [aU]; omega) (by rw [aU]; omega) with ⟨j, hj, a, b⟩ | ⟨a, b⟩
 ·have a : ap m.snapshots id aQ (0 : Int) = _ := a
  have b : eW m id aQ (0 : Int) = _ := b
  rw [a, b, bS, decide_eq_false (show ¬ (j : Int) < 0 by omega), iF, aE hj, bS]
  exact ⟨_, _, rfl, rfl, fun _ => iA hj⟩
 ·have a : ap m.snapshots id aQ (0 : Int) = _ := a
  have b : eW m id aQ (0 : Int) = _ := b
  rw [a, b, bS]
  exact ⟨_, _, rfl, rfl, fun h => by cases h⟩
theorem JE {m : aw} (hm : qS m) : ∃ e, m7 m = some e ∧ wo m = some e ∧ (e = 0 → Et m = 0) := by
 obtain ⟨e, h1, h2⟩ := Me hm
 obtain ⟨e', k1, k2⟩ := QW hm
 rw [h1] at k1
 cases k1
 exact ⟨e, h1, h2, k2⟩
theorem Lh : ∀ (ids : List Int) (m : List (Int × Int)) (seen : List Int), Vm m seen → (scan ids m).1 = 0 → ids.Nodup ∧ ∀ x ∈ ids, x ∉ seen
 | [], _, _, _, _ => ⟨List.nodup_nil, fun x h => by cases h⟩
 | x :: l, m, seen, hi, h => by
  obtain ⟨h1, h2⟩ := PG hi x
  unfold scan at h
  by_cases h0 : (Hv x m).1 = 0
  ·rw [if_neg (fun k => k h0)] at h
   obtain ⟨a, b⟩ := Lh l _ (seen ++ [x]) (h2 h0) h
   rw [h0] at h1
   have hx : x ∉ seen := fun k => by
    split at h1
    ·omega
    ·first | omega | (rw [if_pos k] at h1; omega)
   refine ⟨List.nodup_cons.2 ⟨fun k => b x k (by simp), a⟩, fun y hy => ?_⟩
   rcases List.mem_cons.1 hy with rfl | hy
   ·exact hx
   ·exact fun k => b y hy (by simp [k])
  ·rw [if_pos h0] at h; exact absurd h h0
theorem UY {fs : List ae} (hs : dK fs < 1000000000 - 1) (h : sc fs = 0) : (fb fs).Nodup := by
 obtain ⟨e, h1, h2, h3⟩ := lW ⟨7, 0, fs⟩ (by simp only [j3]; omega)
 have hc := Pu hs
 unfold eG at hc
 rw [h1] at hc
 simp only [a6, aJ] at hc
 by_cases he : e = 0
 ·have w := Lj 1000000000 aQ fs [] (by omega) (by rw [aU]; omega) (by omega)
  have hz : (scan (fb fs) []).1 = 0 := by
   simp [he, w, a6, h] at hc
   omega
  exact (Lh _ _ [] (fun x => by simp [iJ]) hz).1
 ·simp [he, h] at hc
theorem KT : ∀ {fs : List ae} {i : Nat} (h : i < fs.length), fs[i].id ∈ fb fs
 | f :: fs, 0, _ => by
  rw [show fb (f :: fs) = BG f ++ fb fs from rfl, zG]; simp
 | f :: fs, i + 1, h => by
  rw [show fb (f :: fs) = BG f ++ fb fs from rfl]
  exact List.mem_append.2 (.inr (KT (fs := fs) (i := i) (by simpa using h)))
theorem Ls : ∀ {fs : List ae}, (fb fs).Nodup → ∀ (i j : Nat) (hi : i < fs.length) (hj : j < fs.length), fs[i].id = fs[j].id → i = j
 | [], _, i, _, hi, _, _ => by simp at hi
 | f :: fs, h, i, j, hi, hj, e => by
  rw [show fb (f :: fs) = BG f ++ fb fs from rfl, zG] at h
  obtain ⟨h1, h2⟩ := List.nodup_cons.1 (by simpa using h : (f.id :: (fb f.type.fields ++ fb fs)).Nodup)
  have h3 : (fb fs).Nodup := (List.nodup_append.1 h2).2.1
  have h4 : ∀ (q : Nat) (hq : q < fs.length), fs[q].id ≠ f.id := fun q hq e => h1 (List.mem_append.2 (.inr (by rw [← e]; exact KT hq)))
  cases i with
  | zero =>
   cases j with
   | zero => rfl
   | succ j => exact absurd e.symm (h4 j (by simpa using hj))
  | succ i =>
   cases j with
   | zero => exact absurd e (h4 i (by simpa using hi))
   | succ j => rw [Ls h3 i j (by simpa using hi) (by simpa using hj) e]
theorem Ug {s t : am} {v k : ac} (hv : Ty s v) (hk : Ty t k) : sH v k s t = some (U5 v s k t) := by
 have h0 := Px hv hk
 unfold iV at h0
 unfold sH
 obtain ⟨b, b1, b2, b3⟩ := qN s t hv.st hk.st
 rw [b1, bS] at h0
 rw [b2, bS]
 cases b with
 | true =>
  have w := b3 rfl
  obtain ⟨x, x1, x2, x3⟩ := LS hv w
  have hl := wV hk.sv hk.st w.m.1 w.m.2 hk.ck
  rw [iT, x1, bS, C9 x3 hl, bS] at h0
  rw [iT, x2, bS, Hl x3 hl, bS]
  exact h0
 | false =>
  rw [iF] at h0
  rw [iF]
  obtain ⟨c, c1, c2, c3⟩ := qN t s hk.st hv.st
  rw [c1, bS] at h0
  rw [c2, bS]
  cases c with
  | true =>
   have w := c3 rfl
   obtain ⟨x, x1, x2, x3⟩ := LS hk w
   have hl := wV hv.sv hv.st w.m.1 w.m.2 hv.ck
   rw [iT, x1, bS, C9 hl x3, bS] at h0
   rw [iT, x2, bS, Hl hl x3, bS]
   exact h0
  | false =>
   rw [iF] at h0
   rw [iF]
   exact h0
theorem Tq {s t : am} {v k : ac} (hv : Ty s v) (hk : Ty t k) (h : ¬ (s.kind ≠ 6 ∧ s.kind ≠ 7)) : U5 v s k t = false := by
 have h0 := Px hv hk
 unfold iV at h0
 obtain ⟨b, b1, b2, b3⟩ := qN s t hv.st hk.st
 rw [b1, bS] at h0
 cases b with
 | true => exact absurd (b3 rfl).l h
 | false =>
  rw [iF] at h0
  obtain ⟨c, c1, c2, c3⟩ := qN t s hk.st hv.st
  rw [c1, bS] at h0
  cases c with
  | true => exact absurd (c3 rfl).m h
  | false => rw [iF] at h0; exact (Option.some.inj h0).symm
theorem Jr {t : am} {k : ac} (hk : Ty t k) (h6 : t.kind ≠ 6) (h7 : t.kind ≠ 7) : sH Bq k t t = some (decide (k.kind = 0)) := by
 have hl := wV hk.sv hk.st h6 h7 hk.ck
 have ht : cr t = some 0 := by
  obtain ⟨e, h1, h2, h3⟩ := lW t hk.st
  have hc := Jz hk.sv hk.st
  rw [hk.ck] at hc
  unfold gQ at hc
  rw [h1] at hc
  simp only [cz] at hc
  by_cases he : e = 0
  ·rw [he] at h1; exact h1
  ·rw [show (e != (0 : Int)) = true by simp [he]] at hc
   cases hc; exact absurd rfl he
 obtain ⟨b, b1, b2, _⟩ := qN t t hk.st hk.st
 have hb : b = true := by
  unfold kG jz mC at b1
  rw [O7 ht] at b1
  simp [h6, h7, cz, aJ] at b1
  exact b1
 subst hb
 unfold sH
 rw [b2, bS, iT]
 have hw : qE Bq t = some Bq := rfl
 rw [hw, bS, Hl Ju hl, bS]
 congr 1
 refine gu ?_
 rw [beq_iff_eq, TU Ju hl, decide_eq_true_iff]
 exact ⟨fun h => by rw [← h]; rfl, fun h => (LV hl h).symm⟩
theorem Ru (k : Int) : fm k = some (decide (k ≠ 6 ∧ k ≠ 7)) := by
 unfold fm pd
 by_cases h6 : k = 6
 ·subst h6; rfl
 ·rw [show (k != 6) = true by simp [h6], iT]
  congr 1
  by_cases h7 : k = 7 <;> simp [h6, h7]
theorem Lc (rec1 : Int → Option Bool) {fs : List ae} {r key : List ac} (x1 id : Int) (r1 : ae × Bool) (hn : fs.length < 1000000000) : ∀ (d k i : Nat) (z1 z2 z3 : Int) (z4 : ByteArray) (z5 : List ac) (z6 z7 : Int) (z8 : List ae), i + d = fs.length → d < k →
  (∀ (q : Nat) (h : q < fs.length), i ≤ q → fs[q].id ≠ id) → fD rec1 fs r key x1 id r1 k z1 z2 z3 z4 z5 z6 z7 z8 (i : Int) = mX rec1 key x1 r1 z1 z2 z3 z4 z5 z6 z7 z8 := by
 intro d
 induction d with
 | zero =>
  intro k i z1 z2 z3 z4 z5 z6 z7 z8 hi hk hq
  obtain ⟨k, rfl⟩ := fu hk
  rw [fD, CN (by omega), iF]
 | succ d ih =>
  intro k i z1 z2 z3 z4 z5 z6 z7 z8 hi hk hq
  obtain ⟨k, rfl⟩ := fu hk
  have h1 : i < fs.length := by omega
  rw [fD, aW h1, iT, aE h1, bS, show (fs[i].id == id) = false by simpa using hq i h1 (gO _), iF]
  unfold pc
  rw [aq h1 hn]
  exact ih k (i + 1) z1 z2 z3 z4 z5 z6 z7 z8 (by omega) (by omega) fun q h h2 => hq q h (by omega)
theorem Qk (rec1 : Int → Option Bool) {fs : List ae} {r key : List ac} (x1 id : Int) (r1 : ae × Bool) (hn : fs.length < 1000000000) (hl : r.length = fs.length) {q : Nat} (hq : q < fs.length) (hid : fs[q].id = id) (hu : ∀ (j : Nat) (h : j < fs.length), fs[j].id = id → j = q) :
  ∀ (d k i : Nat) (z1 z2 z3 : Int) (z4 : ByteArray) (z5 : List ac) (z6 z7 : Int) (z8 : List ae), i + d = fs.length → d < k → i ≤ q →
  fD rec1 fs r key x1 id r1 k z1 z2 z3 z4 z5 z6 z7 z8 (i : Int) = mX rec1 key x1 r1 (r[q]'(by omega)).kind (r[q]'(by omega)).n (r[q]'(by omega)).scale (r[q]'(by omega)).s (r[q]'(by omega)).items fs[q].type.kind fs[q].type.scale fs[q].type.fields := by
 intro d
 induction d with
 | zero => intro k i z1 z2 z3 z4 z5 z6 z7 z8 hi hk h; omega
 | succ d ih =>
  intro k i z1 z2 z3 z4 z5 z6 z7 z8 hi hk h
  obtain ⟨k, rfl⟩ := fu hk
  have h1 : i < fs.length := by omega
  rw [fD, aW h1, iT, aE h1, bS]
  unfold pc
  rw [aq h1 hn]
  by_cases e : i = q
  ·subst e
   rw [show (fs[i].id == id) = true by simpa using hid, iT, aE (show i < r.length by omega), bS]
   exact Lc rec1 x1 id r1 hn d k (i + 1) _ _ _ _ _ _ _ _ (by omega) (by omega) fun j h h2 h3 => by have := hu j h h3; omega
  ·rw [show (fs[i].id == id) = false by simpa using fun h3 => e (hu i h1 h3), iF]
   exact ih k (i + 1) z1 z2 z3 z4 z5 z6 z7 z8 (by omega) (by omega) (by omega)
theorem Uu {fs : List ae} {r : List ac} {ofs : List ae} {ids : List Int} {k : List ac} (hr : Hj fs r) (hk : Sm ofs ids k) (hu : (fb fs).Nodup) : wT fs r ofs ids k = some (Il (Sp fs r ofs ids k) ids.length) := by
 unfold wT
 exact Ci (L := ei fs r ofs ids k) (n := ids.length) (p := Sp fs r ofs ids k) hk.m
  (fun q => by rw [ei, rW, iF]; rfl)
  (fun q i hi => by
   have hi' : i < k.length := by rw [hk.len]; exact hi
   have hty := hk.ty i hi hi'
   have htl := hk.tl i hi
   unfold Ht CZ at htl
   simp only [gZ, decide_eq_true_eq] at htl
   rw [ei, aW hi, iT, aE hi, bS, S9 hk.n, bS]
   unfold Sp
   rw [dh hi, dh hi']
   simp only
   obtain ⟨a1, a2, a3, a4⟩ := tY hr.n ids[i]
   cases hb : Fb fs ids[i] with
   | false =>
    have hno : ∀ (q : Nat) (h : q < fs.length), 0 ≤ q → fs[q].id ≠ ids[i] := by
     rcases Nh.or fs ids[i] with ⟨j, hj⟩ | hn
     ·exfalso
      rw [rh hr.n hj] at a1
      rw [hb, ← Option.some.inj a1] at a3
      have : decide ((j : Int) < 0) = false := decide_eq_false (by omega)
      rw [this] at a3; cases a3
     ·exact fun q h _ => hn q h
    have hl2 := Lc (r := r) (key := k) (ei fs r ofs ids k q) (i : Int) ids[i] (zR ofs ids[i], Ht ofs ids[i]) hr.n fs.length aQ 0 0 0 0 ByteArray.empty [] (zR ofs ids[i]).type.kind (zR ofs ids[i]).type.scale (zR ofs ids[i]).type.fields (by omega) (by rw [aU]; have := hr.n; omega) hno
    rw [show ((0 : Nat) : Int) = 0 from rfl] at hl2
    rw [hl2]
    unfold mX oP
    rw [Ru, bS, decide_eq_true (show (zR ofs ids[i]).type.kind ≠ 6 ∧ (zR ofs ids[i]).type.kind ≠ 7 from htl.2), Bool.not_true, iF, aE hi', bS]
    rw [RD, show ac.mk 0 0 0 ByteArray.empty [] = Bq from rfl, Jr hty htl.2.1 htl.2.2, bS, aq hi hk.m, if_neg (by simp)]
   | true =>
    obtain ⟨v, v1, v2, v3, v4⟩ := NA hr hb
    obtain ⟨c1, c2, c3⟩ := at?_some v3
    have hq : (IS fs ids[i]).toNat < fs.length := by omega
    have hqr : (IS fs ids[i]).toNat < r.length := by rw [hr.len]; exact hq
    have hfe : fs[(IS fs ids[i]).toNat] = zR fs ids[i] := by rw [dh hq] at c3; exact Option.some.inj c3
    have hve : r[(IS fs ids[i]).toNat] = v := by rw [dh hqr] at v2; exact Option.some.inj v2
    have hid : fs[(IS fs ids[i]).toNat].id = ids[i] := by
     rcases Nh.or fs ids[i] with ⟨j, hj⟩ | hn
     ·rw [rh hr.n hj] at a1
      have e : IS fs ids[i] = (j : Int) := (Option.some.inj a1).symm
      have e2 : (IS fs ids[i]).toNat = j := by rw [e]; rfl
      have := hj.eq hj.lt
      simp only [e2]; exact this
     ·exfalso
      rw [vX hr.n hn] at a1
      rw [hb, ← Option.some.inj a1] at a3
      cases a3
    have hl2 := Qk (r := r) (key := k) (ei fs r ofs ids k q) (i : Int) ids[i] (zR ofs ids[i], Ht ofs ids[i]) hr.n hr.len hq hid (fun j h e => Ls hu j _ h hq (by rw [e, hid])) fs.length aQ 0 0 0 0 ByteArray.empty [] (zR ofs ids[i]).type.kind (zR ofs ids[i]).type.scale (zR ofs ids[i]).type.fields (by omega) (by rw [aU]; have := hr.n; omega) (Nat.zero_le _)
    rw [show ((0 : Nat) : Int) = 0 from rfl] at hl2
    rw [hl2]
    unfold mX oP
    rw [Ru, bS, aq hi hk.m, if_pos rfl, v2]
    simp only [hve, hfe]
    by_cases hlf : (zR fs ids[i]).type.kind ≠ 6 ∧ (zR fs ids[i]).type.kind ≠ 7
    ·rw [decide_eq_true hlf, Bool.not_true, iF, aE hi', bS]
     rw [RD, Og, Ug v4 hty, bS]
    ·rw [decide_eq_false hlf, Bool.not_false, iT, iT, Tq v4 hty hlf, Bool.not_false, iT])
theorem MD {m : aw} {d : bc} {fs : List ae} {r : List ac} (hr : Hj fs r) (hd : TO m d) (hu : (fb fs).Nodup) : uB m d fs r = some (ly (PR m fs r d) d.keys.length) := by
 obtain ⟨ofs, o1, o2, o3⟩ := hd.fs
 unfold uB
 rw [tP (L := j5 m d fs r) (n := d.keys.length) (e := some true) (fin := some false) (p := PR m fs r d) hd.n
  (fun k => by rw [j5, rW, iF]; rfl)
  (fun k i hi => by
   rw [j5, aW hi, iT, aE hi, bS, o1, bS, Uu hr (o3 _ (iA hi)) hu, bS, aq hi hd.n]
   unfold PR
   rw [dh hi, o2])]
 cases ly (PR m fs r d) d.keys.length <;> rfl
theorem Th {l : List Int} (hn : l.length < 1000000000) (x : Int) : sN l x = some (decide (x ∈ l)) := by
 unfold sN
 rw [tP (L := jo l x) (n := l.length) (e := some true) (fin := some false) (p := fun j => match l[j]? with | some e => e == x | none => false) hn
  (fun k => by rw [jo, rW, iF]; rfl)
  (fun k i hi => by rw [jo, aW hi, iT, aE hi, bS, aq hi hn, dh hi])]
 have : ly (fun j => match l[j]? with | some e => e == x | none => false) l.length = decide (x ∈ l) := by
  refine gu ?_
  rw [eN, decide_eq_true_iff]
  constructor
  ·rintro ⟨j, hj, h⟩
   rw [dh hj] at h
   rw [← beq_iff_eq.1 h]; exact iA hj
  ·intro h
   obtain ⟨j, hj, e⟩ := FY.1 h
   exact ⟨j, hj, by rw [dh hj]; exact beq_iff_eq.2 e⟩
 rw [this]
 cases decide (x ∈ l) <;> rfl
theorem Tb {m : aw} {s : al} {f : aj} {rows : List (List ac)} {fs : List ae} (hs : Hw s) (hf : at? m.schemas f.schema = some fs) (hl : rows.length < 1000000000) (hr : ∀ r ∈ rows, Hj fs r) (hd : ∀ d ∈ s.dby, TO m d) (hu : (fb fs).Nodup) :
  vm m s f rows = some (wP (LI m fs rows (tJ s.dat f.name) f.seq s.dby) rows.length 0) := by
 have hg := KK hs f.name
 have hb := hs.dby.1
 have key : ∀ (d k i : Nat) (l : List Int), i + d = rows.length → d < k → l.length ≤ i →
   ff m s f rows fs k l (i : Int) = some (l ++ wP (LI m fs rows (tJ s.dat f.name) f.seq s.dby) d i) := by
  intro d
  induction d with
  | zero =>
   intro k i l hi hk _
   obtain ⟨k, rfl⟩ := fu hk
   rw [ff, CN (by omega), iF]
   unfold yw
   simp [wP]
  | succ d ih =>
   intro k i l hi hk h1
   obtain ⟨k, rfl⟩ := fu hk
   have h2 : i < rows.length := by omega
   have inner : ∀ (d' k' j : Nat) (b : Bool), j + d' = s.dby.length → d' < k' → iE (ff m s f rows fs k) m s f rows fs l (i : Int) k' b (j : Int) = uy (ff m s f rows fs k) l (i : Int) (b && !decide (∃ q, q < d' ∧ Ni m f.seq fs rows[i] s.dby (j + q) = true)) := by
    intro d'
    induction d' with
    | zero =>
     intro k' j b hj hk'
     obtain ⟨k', rfl⟩ := fu hk'
     rw [iE, CN (by omega), iF]
     simp
    | succ d' ih' =>
     intro k' j b hj hk'
     obtain ⟨k', rfl⟩ := fu hk'
     have h3 : j < s.dby.length := by omega
     have hx : (decide (∃ q, q < d' + 1 ∧ Ni m f.seq fs rows[i] s.dby (j + q) = true)) = (Ni m f.seq fs rows[i] s.dby j || decide (∃ q, q < d' ∧ Ni m f.seq fs rows[i] s.dby (j + 1 + q) = true)) := by
      refine gu ?_
      rw [Bool.or_eq_true, decide_eq_true_iff, decide_eq_true_iff]
      constructor
      ·rintro ⟨q, a, c⟩
       cases q with
       | zero => exact .inl c
       | succ q => exact .inr ⟨q, by omega, by rw [← c]; congr 1; omega⟩
      ·rintro (c | ⟨q, a, c⟩)
       ·exact ⟨0, by omega, c⟩
       ·exact ⟨q + 1, by omega, by rw [← c]; congr 1; omega⟩
     rw [iE, aW h3, iT, aE h3, bS, aE h2, bS, MD (hr _ (iA h2)) (hd _ (iA h3)) hu, bS, hx]
     unfold uv u5
     rw [aq h3 hb, ih' k' (j + 1) false (by omega) (by omega), ih' k' (j + 1) b (by omega) (by omega)]
     have hdl : Ni m f.seq fs rows[i] s.dby j = (decide (f.seq < s.dby[j].seq) && ly (PR m fs rows[i] s.dby[j]) s.dby[j].keys.length) := by
      unfold Ni; rw [dh h3]
     rw [hdl]
     cases decide (f.seq < s.dby[j].seq) with
     | false => rw [iF, iF, Bool.false_and, Bool.false_or]
     | true =>
      rw [iT, Bool.true_and]
      cases ly (PR m fs rows[i] s.dby[j]) s.dby[j].keys.length with
      | true => rw [iT]; simp
      | false => rw [iF, Bool.false_or]
   rw [ff, aW h2, iT, UU hs.dat.1, bS, Th hg, bS]
   have hin := inner s.dby.length aQ 0 (!decide ((i : Int) ∈ tJ s.dat f.name)) (by omega) (by rw [aU]; omega)
   have hin : iE _ _ _ _ _ _ _ _ aQ _ (0 : Int) = _ := hin
   rw [hin]
   have hp : LI m fs rows (tJ s.dat f.name) f.seq s.dby i = (!decide ((i : Int) ∈ tJ s.dat f.name) && !decide (∃ q, q < s.dby.length ∧ Ni m f.seq fs rows[i] s.dby (0 + q) = true)) := by
    unfold LI
    rw [dh h2]
    congr 2
    refine gu ?_
    rw [eN, decide_eq_true_iff]
    simp
   rw [← hp]
   unfold uy uq wP
   rw [aq h2 hl]
   cases LI m fs rows (tJ s.dat f.name) f.seq s.dby i with
   | true => rw [iT, gP (by omega), ih k (i + 1) _ (by omega) (by omega) (by simp; omega)]; simp
   | false => rw [iF, ih k (i + 1) _ (by omega) (by omega) (by omega)]; simp
 unfold vm
 rw [hf, bS]
 exact key rows.length aQ 0 [] (by omega) (by rw [aU]; omega) (Nat.zero_le _)
theorem MR {m : aw} (hm : qS m) (id : Int) (n : ByteArray) {rows : List (List ac)} (hr : ∀ r ∈ rows, ig r < 1000000000) (hl : rows.length < 1000000000) : ∃ r, nB m id n rows = some r ∧ sI m id n rows = some r ∧ r.1.length < 1000000000 := by
 have hz : ([] : List Int).length < 1000000000 := by simp
 obtain ⟨e, e1, e1r, e2⟩ := JE hm
 by_cases he : e = 0
 ·subst he
  have hall := e2 rfl
  have hok := VW hm hall
  obtain ⟨s, b, s1, s1r, s2⟩ := Mo hm (fun s hs => (hok s hs).1) id
  cases b with
  | false =>
   refine ⟨([], 9), ?_, ?_, hz⟩
   ·unfold nB
    rw [e1, bS, bne_self_eq_false, iF, s1, bS]; rfl
   ·unfold sI
    rw [e1r, bS, bne_self_eq_false, iF, s1r, bS]; rfl
  | true =>
   have hs := s2 rfl
   obtain ⟨_, ho⟩ := hok s hs
   have hd := Ta hm hs ho
   obtain ⟨l1, l2⟩ := Sl (n := n) hm e1 s1 hd ho hr hl
   have h0 : ∀ X, X = m8 s.files n → sI m id n rows = (ak (!X.isSome) (some ([], 9))
     (au (at? m.schemas (X.getD GU).schema) fun e1 =>
       au (o6 e1 rows) fun r4 =>
       ak (r4 != (0 : Int))
        (some ([], r4))
        (ak ((rows.length : Int) != (X.getD GU).rows)
         (some ([], (1 : Int)))
         (au (vm m s (X.getD GU) rows) fun r5 =>
          some (r5, (0 : Int)))))) := by
    rintro X rfl
    unfold sI
    rw [e1r, bS, bne_self_eq_false, iF, s1r, bS]
    show ak false _ _ = _
    rw [iF, Dq hd.sz.files.1, bS]
   cases hf : m8 s.files n with
   | none => exact ⟨([], 9), l1 hf, by rw [h0 none hf.symm]; rfl, hz⟩
   | some f =>
    obtain ⟨fs, a1, a2⟩ := l2 f hf
    refine ⟨_, a2, ?_, Qt hl⟩
    obtain ⟨hfm, _⟩ := FO hf
    obtain ⟨_, fs', b1, b2⟩ := ho.file f hfm
    rw [a1] at b1
    cases b1
    have hzf := hm.schemas.2 _ b2
    rw [h0 (some f) hf.symm]
    show ak false _ (au (at? m.schemas f.schema) _) = _
    rw [iF, a1, bS, Iq hzf hr hl, bS]
    unfold Ub
    by_cases h1 : Nd fs rows = 0
    ·rw [h1, bne_self_eq_false, iF, if_neg (fun h => h rfl)]
     show ak ((rows.length : Int) != f.rows) _ (au (vm m s f rows) _) = _
     by_cases h2 : (rows.length : Int) = f.rows
     ·rw [show ((rows.length : Int) != f.rows) = false by simp [h2], iF, if_neg (fun h => h h2), Tb hd.sz a1 hl (KO hzf hr h1) (fun d hdm => N3 hm (hd.dby d hdm).sz (ho.dby d hdm)) (UY hzf (MW hm hall fs b2)), bS]
     ·rw [show ((rows.length : Int) != f.rows) = true by simp [h2], iT, if_pos h2]
    ·rw [show (Nd fs rows != 0) = true by simp [h1], iT, if_pos h1]
 ·refine ⟨([], e), ?_, ?_, hz⟩
  ·unfold nB
   rw [e1, bS, show (e != 0) = true by simp [he], iT]
  ·unfold sI
   rw [e1r, bS, show (e != 0) = true by simp [he], iT]
theorem PF {m : aw} (hm : qS m) (id : Int) (n : ByteArray) {rows : List (List ac)} (hr : ∀ r ∈ rows, ig r < 1000000000) (hl : rows.length < 1000000000) : ja m id n rows = some true := by
 obtain ⟨r, r1, r2, h1⟩ := MR hm id n hr hl
 unfold ja
 rw [r1, r2, Ix, bS, bS, bS, iT, beq_self_eq_true, iT, Ma _ h1, bS]
 rfl
def Ir (r : List ac) : Nat := ig r + 1
def tS (rows : List (List ac)) : Nat := (rows.map Ir).sum
theorem EF : ∀ {rows : List (List ac)} {r : List ac}, r ∈ rows → ig r < tS rows + 1
 | [], _, h => by cases h
 | x :: rows, r, h => by
  have hx : tS (x :: rows) = (ig x + 1) + tS rows := by unfold tS; simp only [List.map_cons, List.sum_cons, Ir]
  rcases List.mem_cons.1 h with rfl | h
  ·omega
  ·have := EF h; omega
theorem Ew : ∀ rows : List (List ac), rows.length ≤ tS rows
 | [] => by simp [tS]
 | x :: rows => by
  have hx : tS (x :: rows) = (ig x + 1) + tS rows := by unfold tS; simp only [List.map_cons, List.sum_cons, Ir]
  have := Ew rows
  rw [List.length_cons]; omega
theorem Mj {m : aw} {rows : List (List ac)} (h1 : TP m ≤ 1048576) (h2 : tS rows ≤ 1048576) (a : Int) (n : ByteArray) : ja m a n rows = some true :=
 PF (RY h1) a n (fun r hr => by have := EF hr; omega) (by have := Ew rows; omega)
end Go.Proofs.YtfnmbpecdjncfaaGreatDoor
