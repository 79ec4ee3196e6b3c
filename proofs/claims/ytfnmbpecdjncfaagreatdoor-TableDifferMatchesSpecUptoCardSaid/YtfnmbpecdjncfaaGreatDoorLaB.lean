/- Files with one name: both sides find whether they differ. Files with one name in different snapshots: both sides find the same error. References, properties, limits, schemas: both sides find the same error. Schemas, specs; Check of both sides; the law. What a table has that the program's Check accepts. What is different between two snapshots of a checked table: the program's answer. Differ of the program: which files it names. A table, read from a row. Differ of the reference, and the law: both name the same files. -/
import Derived.Test.YtfnmbpecdjncfaaGreatDoorProg
import Derived.Test.YtfnmbpecdjncfaaGreatDoorLaA
set_option linter.unusedVariables false
set_option linter.unusedSimpArgs false
set_option linter.unnecessarySimpa false
namespace Go.Proofs.YtfnmbpecdjncfaaGreatDoor
open Go Go.SX Go.SX.Cal
theorem Ex {R : Type} {e fin : Option R} {n : Nat} {L : Nat → Int → Option R} {p : Nat → Bool} (h0 : ∀ k, L (k + 1) (n : Int) = fin) (h1 : ∀ k i, i < n → L (k + 1) (i : Int) = al (p i) e (L k ((i + 1 : Nat) : Int))) :
  ∀ m k i, i + m = n → m < k → ∃ b, L k (i : Int) = al b e fin ∧ (b = true ↔ ∃ j, i ≤ j ∧ j < n ∧ p j = true)
 | 0, k, i, hi, hk => by
  obtain ⟨k, rfl⟩ := fu hk
  have : i = n := by omega
  subst this
  exact ⟨false, h0 k, by simp; intro j h1 h2; omega⟩
 | m + 1, k, i, hi, hk => by
  obtain ⟨k, rfl⟩ := fu hk
  rw [h1 k i (by omega)]
  cases hp : p i with
  | true => exact ⟨true, rfl, by simp; exact ⟨i, Nat.le_refl _, by omega, hp⟩⟩
  | false =>
   obtain ⟨b, e1, e2⟩ := Ex h0 h1 m k (i + 1) (by omega) (by omega)
   refine ⟨b, e1, e2.trans ⟨fun ⟨j, a, b, c⟩ => ⟨j, by omega, b, c⟩, fun ⟨j, a, b, c⟩ => ⟨j, ?_, b, c⟩⟩⟩
   by_cases e : j = i
   ·subst e; rw [hp] at c; cases c
   ·omega
theorem ux {R : Type} {e fin : Option R} {n : Nat} {L : Nat → Int → Option R} {p : Nat → Bool} (hn : n < 1000000000) (h0 : ∀ k, L (k + 1) (n : Int) = fin) (h1 : ∀ k i, i < n → L (k + 1) (i : Int) = al (p i) e (L k ((i + 1 : Nat) : Int))) :
  L aX (0 : Int) = al (nY p n) e fin := by
 obtain ⟨b, e1, e2⟩ := Ex h0 h1 n aX 0 (by omega) (by rw [be]; omega)
 have : b = nY p n := gn (e2.trans (Iff.trans ⟨fun ⟨j, _, b, c⟩ => ⟨j, b, c⟩, fun ⟨j, b, c⟩ => ⟨j, Nat.zero_le _, b, c⟩⟩ eE.symm))
 rw [← this]; exact e1
def MB (l m : List ae) (j : Nat) : Bool := match l[j]?, m[j]? with | some x, some y => !N0 x y | _, _ => false
def Le (s t : eN) : Bool := s.id == t.id && (s.nulls == t.nulls && (N0 s.min t.min && N0 s.max t.max))
def Dl (l m : List eN) (j : Nat) : Bool := match l[j]?, m[j]? with | some x, some y => !Le x y | _, _ => false
def Pg (l m : List ae) : Bool := decide (l.length = m.length) && !nY (MB l m) l.length
def QJ (l m : List eN) : Bool := decide (l.length = m.length) && !nY (Dl l m) l.length
def HI (a b : ah) : Bool := decide (a.name = b.name) && (a.schema == b.schema && (a.spec == b.spec && (a.rows == b.rows && (Pg a.part b.part && QJ a.stats b.stats))))
theorem Oj {l m : List ae} (hl : ∀ v ∈ l, Lv v) (hm : ∀ v ∈ m, Lv v) : Pg l m = true ↔ l = m := by
 unfold Pg
 rw [Bool.and_eq_true, decide_eq_true_iff, Bool.not_eq_true', ← Bool.not_eq_true, eE]
 constructor
 ·rintro ⟨h1, h2⟩
  refine List.ext_getElem h1 fun i hi hi' => ?_
  have : MB l m i = false := by
   cases h : MB l m i with
   | false => rfl
   | true => exact absurd ⟨i, hi, h⟩ h2
  unfold MB at this
  rw [List.getElem?_eq_getElem hi, List.getElem?_eq_getElem hi'] at this
  exact (BI (hl _ (List.getElem_mem hi)) (hm _ (List.getElem_mem hi'))).1 (by simpa using this)
 ·rintro rfl
  refine ⟨rfl, ?_⟩
  rintro ⟨j, hj, h⟩
  unfold MB at h
  rw [List.getElem?_eq_getElem hj] at h
  simp only [Bool.not_eq_true'] at h
  rw [(BI (hl _ (List.getElem_mem hj)) (hl _ (List.getElem_mem hj))).2 rfl] at h
  cases h
theorem G0 {s t : eN} (hs : Lv s.min ∧ Lv s.max) (ht : Lv t.min ∧ Lv t.max) : Le s t = true ↔ s = t := by
 unfold Le
 rw [Bool.and_eq_true, Bool.and_eq_true, Bool.and_eq_true, BI hs.1 ht.1, BI hs.2 ht.2, beq_iff_eq, beq_iff_eq]
 obtain ⟨a, b, c, d⟩ := s
 obtain ⟨a', b', c', d'⟩ := t
 simp
theorem OC {l m : List eN} (hl : ∀ v ∈ l, Lv v.min ∧ Lv v.max) (hm : ∀ v ∈ m, Lv v.min ∧ Lv v.max) : QJ l m = true ↔ l = m := by
 unfold QJ
 rw [Bool.and_eq_true, decide_eq_true_iff, Bool.not_eq_true', ← Bool.not_eq_true, eE]
 constructor
 ·rintro ⟨h1, h2⟩
  refine List.ext_getElem h1 fun i hi hi' => ?_
  have : Dl l m i = false := by
   cases h : Dl l m i with
   | false => rfl
   | true => exact absurd ⟨i, hi, h⟩ h2
  unfold Dl at this
  rw [List.getElem?_eq_getElem hi, List.getElem?_eq_getElem hi'] at this
  exact (G0 (hl _ (List.getElem_mem hi)) (hm _ (List.getElem_mem hi'))).1 (by simpa using this)
 ·rintro rfl
  refine ⟨rfl, ?_⟩
  rintro ⟨j, hj, h⟩
  unfold Dl at h
  rw [List.getElem?_eq_getElem hj] at h
  simp only [Bool.not_eq_true'] at h
  rw [(G0 (hl _ (List.getElem_mem hj)) (hl _ (List.getElem_mem hj))).2 rfl] at h
  cases h
def Sf (a b : ah) : Prop := a.name = b.name ∧ a.schema = b.schema ∧ a.spec = b.spec ∧ a.rows = b.rows ∧ a.part = b.part ∧ a.stats = b.stats
theorem CW {a b : ah} (ha : Ml a) (hb : Ml b) : HI a b = true ↔ Sf a b := by
 unfold HI Sf
 rw [Bool.and_eq_true, Bool.and_eq_true, Bool.and_eq_true, Bool.and_eq_true, Bool.and_eq_true, decide_eq_true_iff, beq_iff_eq, beq_iff_eq, beq_iff_eq, Oj ha.part hb.part, OC ha.stats hb.stats]
theorem Sf.symm {a b : ah} (h : Sf a b) : Sf b a := ⟨h.1.symm, h.2.1.symm, h.2.2.1.symm, h.2.2.2.1.symm, h.2.2.2.2.1.symm, h.2.2.2.2.2.symm⟩
theorem Sf.trans {a b c : ah} (h : Sf a b) (k : Sf b c) : Sf a c := ⟨h.1.trans k.1, h.2.1.trans k.2.1, h.2.2.1.trans k.2.2.1, h.2.2.2.1.trans k.2.2.2.1, h.2.2.2.2.1.trans k.2.2.2.2.1, h.2.2.2.2.2.trans k.2.2.2.2.2⟩
theorem Qp {a b : ae} (ha : Lv a) (hb : Lv b) : kl a b = some (N0 a b) := by
 unfold kl
 rw [M2 ha hb, bS]; rfl
theorem TC {l m : List ae} (hn : l.length < 1000000000) (hl : ∀ v ∈ l, Lv v) (hm : ∀ v ∈ m, Lv v) : bk l m = some (Pg l m) := by
 unfold bk Pg
 by_cases h : l.length = m.length
 ·rw [show ((l.length : Int) != (m.length : Int)) = false by simp [h], iF, decide_eq_true h, Bool.true_and]
  rw [ux (L := aA l m) (n := l.length) (e := some false) (fin := some true) (p := MB l m) hn
   (fun k => by rw [aA, rC, iF]; rfl)
   (fun k i hi => by
    have hi' : i < m.length := by omega
    rw [aA, bc hi, iT, aN hi, bS, aN hi', bS, Qp (hl _ (List.getElem_mem hi)) (hm _ (List.getElem_mem hi')), bS, ar hi hn]
    unfold MB
    rw [List.getElem?_eq_getElem hi, List.getElem?_eq_getElem hi'])]
  cases nY (MB l m) l.length <;> rfl
 ·rw [show ((l.length : Int) != (m.length : Int)) = true by simp; omega, iT, decide_eq_false h]; rfl
theorem SB {s t : eN} (hs : Lv s.min ∧ Lv s.max) (ht : Lv t.min ∧ Lv t.max) : oO s t = some (Le s t, ()) := by
 unfold oO iA Le
 rw [Qp hs.1 ht.1, Qp hs.2 ht.2, bS, bS]
 cases (s.id == t.id) <;> cases (s.nulls == t.nulls) <;> cases N0 s.min t.min <;> rfl
theorem Ua {l m : List eN} (hn : l.length < 1000000000) (hl : ∀ v ∈ l, Lv v.min ∧ Lv v.max) (hm : ∀ v ∈ m, Lv v.min ∧ Lv v.max) : aV l m = some (QJ l m, ()) := by
 unfold aV QJ
 by_cases h : l.length = m.length
 ·rw [show ((l.length : Int) != (m.length : Int)) = false by simp [h], iF, decide_eq_true h, Bool.true_and]
  rw [ux (L := aq l m) (n := l.length) (e := some (false, ())) (fin := some (true, ())) (p := Dl l m) hn
   (fun k => by rw [aq, rC, iF]; rfl)
   (fun k i hi => by
    have hi' : i < m.length := by omega
    rw [aq, bc hi, iT, aN hi, bS, aN hi', bS, SB (hl _ (List.getElem_mem hi)) (hm _ (List.getElem_mem hi')), bS, ar hi hn]
    unfold Dl
    rw [List.getElem?_eq_getElem hi, List.getElem?_eq_getElem hi'])]
  cases nY (Dl l m) l.length <;> rfl
 ·rw [show ((l.length : Int) != (m.length : Int)) = true by simp; omega, iT, decide_eq_false h]; rfl
theorem T5 {a b : ah} (ha : Ml a) (hb : Ml b) (za : Lk a) : n5 a b = some (HI a b) := by
 unfold n5 gd HI
 rw [F3, TC za.part.1 ha.part hb.part, Ua za.stats.1 ha.stats hb.stats, bS, bS]
 cases decide (a.name = b.name) <;> cases (a.schema == b.schema) <;> cases (a.spec == b.spec) <;> cases (a.rows == b.rows) <;> cases Pg a.part b.part <;> rfl
theorem Uh {a b : ah} (ha : Ml a) (hb : Ml b) (za : Lk a) : pJ a b = some (HI a b) := by
 have h1 : ∀ x, x = (!decide (a.part.length = b.part.length) || !decide (a.stats.length = b.stats.length)) → ef a b x = some (Pg a.part b.part && QJ a.stats b.stats) := by
  intro x hx
  unfold ef Pg QJ
  cases x with
  | true =>
   rw [iT]
   by_cases h : a.part.length = b.part.length
   ·rw [decide_eq_true h] at hx
    have h2 : decide (a.stats.length = b.stats.length) = false := by simpa using hx.symm
    rw [h2, Bool.false_and, Bool.and_false]
   ·rw [decide_eq_false h]; rfl
  | false =>
   have hx := hx.symm
   rw [Bool.or_eq_false_iff, Bool.not_eq_false', Bool.not_eq_false', decide_eq_true_iff, decide_eq_true_iff] at hx
   obtain ⟨hp, hs⟩ := hx
   rw [iF, decide_eq_true hp, decide_eq_true hs, Bool.true_and, Bool.true_and]
   rw [ux (L := iX a b) (n := a.part.length) (e := some false) (fin := oK a b) (p := MB a.part b.part) za.part.1
    (fun k => by rw [iX, rC, iF])
    (fun k i hi => by
     have hi' : i < b.part.length := by omega
     rw [iX, bc hi, iT, aN hi, bS, aN hi', bS, D4 (ha.part _ (List.getElem_mem hi)) (hb.part _ (List.getElem_mem hi')), bS, ar hi za.part.1]
     unfold MB
     rw [List.getElem?_eq_getElem hi, List.getElem?_eq_getElem hi'])]
   unfold oK
   rw [ux (L := ei a b) (n := a.stats.length) (e := some false) (fin := some true) (p := Dl a.stats b.stats) za.stats.1
    (fun k => by rw [ei, rC, iF]; rfl)
    (fun k i hi => by
     have hi' : i < b.stats.length := by omega
     obtain ⟨u1, u2⟩ := ha.stats _ (List.getElem_mem hi)
     obtain ⟨w1, w2⟩ := hb.stats _ (List.getElem_mem hi')
     rw [ei, bc hi, iT, aN hi, bS, aN hi', bS, D4 u1 w1, D4 u2 w2, bS, bS]
     unfold kg
     rw [ar hi za.stats.1]
     unfold Dl
     rw [List.getElem?_eq_getElem hi, List.getElem?_eq_getElem hi']
     simp only
     unfold Le bne
     cases (a.stats[i].id == b.stats[i].id) <;> cases (a.stats[i].nulls == b.stats[i].nulls) <;> cases N0 a.stats[i].min b.stats[i].min <;> rfl)]
   cases nY (MB a.part b.part) a.part.length <;> cases nY (Dl a.stats b.stats) a.stats.length <;> rfl
 have ht : ∀ y, ef a b true = some y → y = false := fun y h => by cases h; rfl
 unfold pJ HI
 rw [F3]
 have hb2 : ef a b true = some false := rfl
 unfold bne
 cases decide (a.name = b.name) with
 | false => rfl
 | true =>
  cases (a.schema == b.schema) with
  | false => rfl
  | true =>
   cases (a.spec == b.spec) with
   | false => rfl
   | true =>
    cases (a.rows == b.rows) with
    | false => rfl
    | true =>
     have e1 : ((a.part.length : Int) == (b.part.length : Int)) = decide (a.part.length = b.part.length) := gn (by rw [beq_iff_eq, decide_eq_true_iff]; omega)
     have e2 : ((a.stats.length : Int) == (b.stats.length : Int)) = decide (a.stats.length = b.stats.length) := gn (by rw [beq_iff_eq, decide_eq_true_iff]; omega)
     rw [e1, e2]
     cases hp : decide (a.part.length = b.part.length) with
     | false =>
      rw [hp] at h1
      exact h1 true rfl
     | true =>
      rw [hp] at h1
      exact h1 _ rfl
end Go.Proofs.YtfnmbpecdjncfaaGreatDoor
namespace Go.Proofs.YtfnmbpecdjncfaaGreatDoor
open Go Go.SX Go.SX.Cal
theorem EX (a b : ByteArray) : ur.eq a b = decide (a = b) := by
 refine gn ?_
 rw [decide_eq_true_iff]
 constructor
 ·intro h
  have h' : (a.data == b.data) = true := h
  exact ByteArray.ext (by simpa using h')
 ·rintro rfl
  show (a.data == a.data) = true
  simp
theorem CY {α : Type} : ∀ (m : List (ByteArray × α)) (k : ByteArray) (v : α), iB ur (jq ur m k v) k = some v
 | [], k, v => by simp only [jq, iB, EX, decide_true, if_true]
 | (k', v') :: l, k, v => by
  by_cases h : k = k'
  ·simp only [jq, iB, EX, decide_eq_true h, if_true, decide_true]
  ·simp only [jq, iB, EX, decide_eq_false h, Bool.false_eq_true, if_false]
   exact CY l k v
theorem AQ {α : Type} : ∀ (m : List (ByteArray × α)) (k : ByteArray) (v : α) (x : ByteArray), x ≠ k → iB ur (jq ur m k v) x = iB ur m x
 | [], k, v, x, hx => by simp only [jq, iB, EX, decide_eq_false hx, Bool.false_eq_true, if_false]
 | (k', v') :: l, k, v, x, hx => by
  by_cases h : k = k'
  ·subst h
   simp only [jq, iB, EX, decide_true, if_true, decide_eq_false hx, Bool.false_eq_true, if_false]
  ·simp only [jq, iB, EX, decide_eq_false h, Bool.false_eq_true, if_false]
   rw [AQ l k v x hx]
def Pe (m : ax) : Prop := ∀ s ∈ m.snapshots, 1 ≤ s.id ∧ Ab s.files ∧ ∀ f ∈ s.files, Ml f
def P4 (m : ax) (i : Nat) : Prop := ∃ (hi : i < m.snapshots.length) (x : Nat) (hx : x < i) (f g : ah), f ∈ m.snapshots[i].files ∧ g ∈ (m.snapshots[x]'(by omega)).files ∧ g.name = f.name ∧ ¬ Sf g f
structure QD (m : ax) (i : Nat) (z : List (ByteArray × ah)) : Prop where
 a : ∀ n g, iB ur z n = some g → g.name = n ∧ ∃ (x : Nat) (hx : x < i) (hl : x < m.snapshots.length), g ∈ m.snapshots[x].files
 b : ∀ (x : Nat) (hl : x < m.snapshots.length), x < i → ∀ f ∈ m.snapshots[x].files, ∃ g, iB ur z f.name = some g ∧ Sf g f
structure R6 (m : ax) (i : Nat) (fs : List ah) (j : Nat) (z : List (ByteArray × ah)) : Prop where
 a : ∀ n g, iB ur z n = some g → g.name = n ∧ ((∃ (x : Nat) (hx : x < i) (hl : x < m.snapshots.length), g ∈ m.snapshots[x].files) ∨ ∃ (q : Nat) (hq : q < j) (hl : q < fs.length), g = fs[q])
 b : ∀ (x : Nat) (hl : x < m.snapshots.length), x < i → ∀ f ∈ m.snapshots[x].files, ∃ g, iB ur z f.name = some g ∧ Sf g f
 c : ∀ (q : Nat) (hl : q < fs.length), q < j → iB ur z fs[q].name = some fs[q]
def OS (m : ax) (i : Nat) (rec1 : List (ByteArray × ah) → Int → Option Int) (e : Option Int) : Prop :=
 (e = some 5 ∧ P4 m i) ∨ (∃ z', QD m (i + 1) z' ∧ e = rec1 z' ((i + 1 : Nat) : Int) ∧ ¬ P4 m i)
theorem Mj {m : ax} (hm : rl m) (ho : Pe m) (rec1 : List (ByteArray × ah) → Int → Option Int) {i : Nat} (hi : i < m.snapshots.length) : ∀ (d k j : Nat) (z : List (ByteArray × ah)), j + d = m.snapshots[i].files.length → d < k → R6 m i m.snapshots[i].files j z →
  (∀ (q : Nat) (hq : q < m.snapshots[i].files.length), q < j → ∀ (x : Nat) (hx : x < i), ∀ g ∈ (m.snapshots[x]'(by omega)).files, g.name = m.snapshots[i].files[q].name → Sf g m.snapshots[i].files[q]) →
  OS m i rec1 (fq rec1 (i : Int) m.snapshots[i] k z (j : Int)) := by
 have hsi := ho _ (List.getElem_mem hi)
 have hzi := hm.snaps.2 _ (List.getElem_mem hi)
 intro d
 induction d with
 | zero =>
  intro k j z hj hk hz hg
  obtain ⟨k, rfl⟩ := fu hk
  right
  refine ⟨z, ⟨fun n g h => ?_, fun x hl hx f hf => ?_⟩, ?_, ?_⟩
  ·obtain ⟨h1, h2⟩ := hz.a n g h
   refine ⟨h1, ?_⟩
   rcases h2 with ⟨x, hx, hl, h2⟩ | ⟨q, hq, hl, rfl⟩
   ·exact ⟨x, by omega, hl, h2⟩
   ·exact ⟨i, by omega, hi, List.getElem_mem hl⟩
  ·by_cases e : x = i
   ·subst e
    obtain ⟨q, hq, rfl⟩ := List.mem_iff_getElem.1 hf
    exact ⟨_, hz.c q hq (by omega), ⟨rfl, rfl, rfl, rfl, rfl, rfl⟩⟩
   ·exact hz.b x hl (by omega) f hf
  ·rw [fq, Bt (by omega), iF]
   unfold vm
   rw [ar hi hm.snaps.1]
  ·rintro ⟨_, x, hx, f, g, hf, hg', hn, hs⟩
   obtain ⟨q, hq, rfl⟩ := List.mem_iff_getElem.1 hf
   exact hs (hg q hq (by omega) x hx g hg' hn)
 | succ d ih =>
  intro k j z hj hk hz hg
  obtain ⟨k, rfl⟩ := fu hk
  have h1 : j < m.snapshots[i].files.length := by omega
  have hfj := hsi.2.2 _ (List.getElem_mem h1)
  rw [fq, bc h1, iT, aN h1, bS, bS]
  unfold qO
  rw [ar h1 hzi.files.1]
  -- what follows when the file agrees with those before
  have hgo : (∀ (x : Nat) (hx : x < i), ∀ g ∈ (m.snapshots[x]'(by omega)).files, g.name = m.snapshots[i].files[j].name → Sf g m.snapshots[i].files[j]) →
    OS m i rec1 (fq rec1 (i : Int) m.snapshots[i] k (jq ur z m.snapshots[i].files[j].name m.snapshots[i].files[j]) ((j + 1 : Nat) : Int)) := by
   intro hag
   refine ih k (j + 1) _ (by omega) (by omega) ⟨fun n g h => ?_, fun x hl hx f hf => ?_, fun q hl hq => ?_⟩ (fun q hq hqj x hx g hg' hn => ?_)
   ·by_cases e : n = m.snapshots[i].files[j].name
    ·subst e
     rw [CY] at h; cases h
     exact ⟨rfl, .inr ⟨j, by omega, h1, rfl⟩⟩
    ·rw [AQ _ _ _ _ e] at h
     obtain ⟨a, b⟩ := hz.a n g h
     refine ⟨a, ?_⟩
     rcases b with b | ⟨q, hq, hl, rfl⟩
     ·exact .inl b
     ·exact .inr ⟨q, by omega, hl, rfl⟩
   ·by_cases e : f.name = m.snapshots[i].files[j].name
    ·rw [e, CY]
     exact ⟨_, rfl, (hag x hx f hf e).symm⟩
    ·rw [AQ _ _ _ _ e]; exact hz.b x hl hx f hf
   ·by_cases e : q = j
    ·subst e; exact CY _ _ _
    ·have hlt := hsi.2.1 q j h1 (by omega)
     rw [AQ _ _ _ _ (fun e => by rw [e, rK] at hlt; omega)]
     exact hz.c q hl (by omega)
   ·by_cases e : q = j
    ·subst e; exact hag x hx g hg' hn
    ·exact hg q hq (by omega) x hx g hg' hn
  cases hm' : iB ur z m.snapshots[i].files[j].name with
  | none =>
   show OS m i rec1 (al false _ (al false _ _))
   rw [iF, iF]
   refine hgo fun x hx g hg' hn => ?_
   obtain ⟨g', h2, _⟩ := hz.b x (by omega) hx g hg'
   rw [hn, hm'] at h2; cases h2
  | some g =>
   obtain ⟨hgn, hgp⟩ := hz.a _ g hm'
   have hgx : ∃ (x : Nat) (hx : x < i) (hl : x < m.snapshots.length), g ∈ m.snapshots[x].files := by
    rcases hgp with h | ⟨q, hq, hl, rfl⟩
    ·exact h
    ·have hlt := hsi.2.1 q j h1 hq
     rw [hgn, rK] at hlt; omega
   obtain ⟨x0, hx0, hl0, hg0⟩ := hgx
   have hgo' := (ho _ (List.getElem_mem hl0)).2.2 _ hg0
   show OS m i rec1 (al true (aw (n5 g m.snapshots[i].files[j]) _) _)
   rw [iT, T5 hgo' hfj ((hm.snaps.2 _ (List.getElem_mem hl0)).files.2 _ hg0), bS]
   cases hsf : HI g m.snapshots[i].files[j] with
   | false =>
    left
    refine ⟨rfl, hi, x0, hx0, _, g, List.getElem_mem h1, hg0, hgn, fun h => ?_⟩
    rw [(CW hgo' hfj).2 h] at hsf; cases hsf
   | true =>
    rw [Bool.not_true, iF]
    have hs := (CW hgo' hfj).1 hsf
    refine hgo fun x hx g' hg' hn => ?_
    obtain ⟨g2, h2, h3⟩ := hz.b x (by omega) hx g' hg'
    rw [hn, hm'] at h2; cases h2
    exact h3.symm.trans hs
theorem KH {m : ax} (hm : rl m) (ho : Pe m) : ∀ (d k i : Nat) (z : List (ByteArray × ah)), i + d = m.snapshots.length → d < k → QD m i z →
  (ed m k z (i : Int) = some 5 ∧ ∃ q, i ≤ q ∧ P4 m q) ∨ (ed m k z (i : Int) = some 0 ∧ ∀ q, i ≤ q → ¬ P4 m q) := by
 intro d
 induction d with
 | zero =>
  intro k i z hi hk hz
  obtain ⟨k, rfl⟩ := fu hk
  right
  rw [ed, Bt (by omega), iF]
  exact ⟨rfl, fun q hq ⟨h, _⟩ => by omega⟩
 | succ d ih =>
  intro k i z hi hk hz
  obtain ⟨k, rfl⟩ := fu hk
  have h1 : i < m.snapshots.length := by omega
  rw [ed, bc h1, iT, aN h1, bS]
  have h3 : R6 m i m.snapshots[i].files 0 z := ⟨fun n g h => ⟨(hz.a n g h).1, .inl (hz.a n g h).2⟩, hz.b, fun q _ hq => by omega⟩
  rcases Mj hm ho (ed m k) h1 m.snapshots[i].files.length aX 0 z (by omega) (by rw [be]; have := (hm.snaps.2 _ (List.getElem_mem h1)).files.1; omega) h3 (fun q hq h => by omega) with ⟨a, b⟩ | ⟨z', a, b, c⟩
  ·exact .inl ⟨a, i, Nat.le_refl _, b⟩
  ·have b : fq (ed m k) (i : Int) m.snapshots[i] aX z (0 : Int) = _ := b
   rw [b]
   rcases ih k (i + 1) z' (by omega) (by omega) a with ⟨e1, q, e2, e3⟩ | ⟨e1, e2⟩
   ·exact .inl ⟨e1, q, by omega, e3⟩
   ·refine .inr ⟨e1, fun q hq => ?_⟩
    by_cases e : q = i
    ·subst e; exact c
    ·exact e2 q (by omega)
theorem Oa {m : ax} (hm : rl m) (ho : Pe m) : (sI m = some 5 ∧ ∃ q, P4 m q) ∨ (sI m = some 0 ∧ ∀ q, ¬ P4 m q) := by
 have h0 : QD m 0 [] := ⟨(fun n g h => by cases h), fun x _ hx => by omega⟩
 rcases KH hm ho m.snapshots.length aX 0 [] (by omega) (by rw [be]; have := hm.snaps.1; omega) h0 with ⟨a, q, _, b⟩ | ⟨a, b⟩
 ·exact .inl ⟨a, q, b⟩
 ·exact .inr ⟨a, fun q => b q (Nat.zero_le _)⟩
def GT (s x : aj) (j : Nat) : Bool := match s.files[j]? with
 | some f => (match mw x.files f.name with | some g => !HI f g | none => false)
 | none => false
def Ny (m : ax) (i x : Nat) : Bool := match m.snapshots[i]?, m.snapshots[x]? with
 | some s, some y => nY (GT s y) s.files.length
 | _, _ => false
def Io (m : ax) (i : Nat) : Bool := nY (Ny m i) i
theorem FV {α : Type} {l : List α} {i x : Nat} (hx : x < i) (hi : i ≤ l.length) : at? (List.take ((i : Int).toNat - (0 : Int).toNat) (List.drop (0 : Int).toNat l)) (x : Int) = some (l[x]'(by omega)) := by
 have h : x < (List.take ((i : Int).toNat - (0 : Int).toNat) (List.drop (0 : Int).toNat l)).length := by simp; omega
 rw [aN h]
 simp
theorem wz {α : Type} {l : List α} {i : Nat} (hi : i ≤ l.length) : (List.take ((i : Int).toNat - (0 : Int).toNat) (List.drop (0 : Int).toNat l)).length = i := by simp; omega
theorem OR {m : ax} (hm : rl m) (ho : Pe m) : pe m = ee (er (nY (Io m) m.snapshots.length) 5) (me m) := by
 unfold pe
 rw [gS (L := dE m) (n := m.snapshots.length) (fin := me m) (c := fun i => er (Io m i) 5) hm.snaps.1
  (fun k => by rw [dE, rC, iF])
  (fun k i hi => by
   rw [dE, bc hi, iT, aN hi, bS, gP ⟨by omega, by omega, by omega⟩]
   have hil : i ≤ m.snapshots.length := by omega
   rw [gS (L := fH (dE m k) m (i : Int) m.snapshots[i]) (n := i) (fin := dE m k ((i + 1 : Nat) : Int)) (c := fun x => er (Ny m i x) 5) (by have := hm.snaps.1; omega)
    (fun q => by
     rw [fH, bS, wz hil, rC, iF]
     unfold v8
     rw [ar hi hm.snaps.1])
    (fun q x hx => by
     have hxl : x < m.snapshots.length := by omega
     have hzi := hm.snaps.2 _ (List.getElem_mem hi)
     rw [fH, bS, wz hil, bc hx, iT, FV hx hil, bS]
     rw [gS (L := ji (fH (dE m k) m (i : Int) m.snapshots[i] q) m.snapshots[i] (x : Int) m.snapshots[x]) (n := m.snapshots[i].files.length) (fin := fH (dE m k) m (i : Int) m.snapshots[i] q ((x + 1 : Nat) : Int)) (c := fun j => er (GT m.snapshots[i] m.snapshots[x] j) 5) hzi.files.1
      (fun q' => by
       rw [ji, rC, iF]
       unfold wc
       rw [ar hxl hm.snaps.1])
      (fun q' j hj => by
       have hxo := ho _ (List.getElem_mem hxl)
       have hio := ho _ (List.getElem_mem hi)
       rw [ji, bc hj, iT, aN hj, bS, zn (hm.snaps.2 _ (List.getElem_mem hxl)).files.1, bS]
       unfold sH GT
       rw [ar hj hzi.files.1, List.getElem?_eq_getElem hj]
       simp only
       cases hf : mw m.snapshots[x].files m.snapshots[i].files[j].name with
       | none => rfl
       | some g =>
        have hgm : g ∈ m.snapshots[x].files := List.mem_of_find?_eq_some hf
        show al true (aw (pJ m.snapshots[i].files[j] g) _) _ = _
        rw [iT, Uh (hio.2.2 _ (List.getElem_mem hj)) (hxo.2.2 _ hgm) (hzi.files.2 _ (List.getElem_mem hj)), bS, dS (by decide)])]
     rw [Cj (by decide)]
     unfold Ny
     rw [List.getElem?_eq_getElem hi, List.getElem?_eq_getElem hxl])]
   rw [Cj (by decide)]
   rfl)]
 rw [Cj (by decide)]
theorem GR {m : ax} (ho : Pe m) {i : Nat} (hi : i < m.snapshots.length) : Io m i = true ↔ P4 m i := by
 unfold Io
 rw [eE]
 constructor
 ·rintro ⟨x, hx, h⟩
  have hxl : x < m.snapshots.length := by omega
  unfold Ny at h
  rw [List.getElem?_eq_getElem hi, List.getElem?_eq_getElem hxl] at h
  simp only at h
  obtain ⟨j, hj, h⟩ := eE.1 h
  unfold GT at h
  rw [List.getElem?_eq_getElem hj] at h
  simp only at h
  cases hf : mw m.snapshots[x].files m.snapshots[i].files[j].name with
  | none => rw [hf] at h; cases h
  | some g =>
   rw [hf] at h
   simp only at h
   have hgm : g ∈ m.snapshots[x].files := List.mem_of_find?_eq_some hf
   have hgn : g.name = m.snapshots[i].files[j].name := by simpa using List.find?_some hf
   refine ⟨hi, x, hx, _, g, List.getElem_mem hj, hgm, hgn, fun hs => ?_⟩
   rw [(CW ((ho _ (List.getElem_mem hi)).2.2 _ (List.getElem_mem hj)) ((ho _ (List.getElem_mem hxl)).2.2 _ hgm)).2 hs.symm] at h
   cases h
 ·rintro ⟨_, x, hx, f, g, hf, hg, hn, hs⟩
  have hxl : x < m.snapshots.length := by omega
  refine ⟨x, hx, ?_⟩
  unfold Ny
  rw [List.getElem?_eq_getElem hi, List.getElem?_eq_getElem hxl]
  obtain ⟨j, hj, rfl⟩ := List.mem_iff_getElem.1 hf
  refine eE.2 ⟨j, hj, ?_⟩
  unfold GT
  rw [List.getElem?_eq_getElem hj]
  obtain ⟨q, hq, rfl⟩ := List.mem_iff_getElem.1 hg
  have := Dh (ho _ (List.getElem_mem hxl)).2.1 hq
  rw [hn] at this
  simp only [this]
  cases hb : HI m.snapshots[i].files[j] m.snapshots[x].files[q] with
  | false => rfl
  | true => exact absurd ((CW ((ho _ (List.getElem_mem hi)).2.2 _ hf) ((ho _ (List.getElem_mem hxl)).2.2 _ hg)).1 hb).symm hs
def Ub (m : ax) : Int := er (nY (Io m) m.snapshots.length) 5
theorem NN {m : ax} (hm : rl m) (ho : Pe m) : sI m = some (Ub m) := by
 unfold Ub
 rcases Oa hm ho with ⟨a, q, b⟩ | ⟨a, b⟩
 ·have hb : nY (Io m) m.snapshots.length = true := by
   have hq : q < m.snapshots.length := b.1
   exact eE.2 ⟨q, hq, (GR ho hq).2 b⟩
  rw [a, hb]; rfl
 ·have hb : nY (Io m) m.snapshots.length = false := by
   rw [← Bool.not_eq_true, eE]
   rintro ⟨q, hq, h⟩
   exact b q ((GR ho hq).1 h)
  rw [a, hb]; rfl
end Go.Proofs.YtfnmbpecdjncfaaGreatDoor
namespace Go.Proofs.YtfnmbpecdjncfaaGreatDoor
open Go Go.SX Go.SX.Cal
def DB (m : ax) (id : Int) : Bool := nY (fun q => match m.snapshots[q]? with | some s => s.id == id | none => false) m.snapshots.length
theorem TQ {m : ax} (hm : rl m) (id : Int) : ∃ s, fp m id = some (s, DB m id) := by
 unfold fp bK
 have key : ∀ d k i, i + d = m.snapshots.length → d < k → ∃ r, ak m.snapshots id k (i : Int) = some r ∧ ((r = -1 ∧ ∀ j, i ≤ j → ∀ (h : j < m.snapshots.length), m.snapshots[j].id ≠ id) ∨ ∃ (j : Nat) (h : j < m.snapshots.length), r = (j : Int) ∧ m.snapshots[j].id = id) := by
  intro d
  induction d with
  | zero =>
   intro k i hi hk
   obtain ⟨k, rfl⟩ := fu hk
   rw [ak, Bt (by omega), iF]
   exact ⟨-1, rfl, .inl ⟨rfl, fun j h1 h2 => by omega⟩⟩
  | succ d ih =>
   intro k i hi hk
   obtain ⟨k, rfl⟩ := fu hk
   have h1 : i < m.snapshots.length := by omega
   rw [ak, bc h1, iT, aN h1, bS, m7, bS, ar h1 hm.snaps.1]
   cases he : (m.snapshots[i].id == id) with
   | true => exact ⟨i, rfl, .inr ⟨i, h1, rfl, by simpa using he⟩⟩
   | false =>
    obtain ⟨r, e1, e2⟩ := ih k (i + 1) (by omega) (by omega)
    refine ⟨r, e1, e2.imp (fun ⟨a, b⟩ => ⟨a, fun j hj h => ?_⟩) fun h => h⟩
    by_cases e : j = i
    ·subst e; simpa using he
    ·exact b j (by omega) h
 obtain ⟨r, r1, r2⟩ := key m.snapshots.length aX 0 (by omega) (by rw [be]; have := hm.snaps.1; omega)
 have r1 : ak m.snapshots id aX (0 : Int) = _ := r1
 rw [r1, bS]
 rcases r2 with ⟨rfl, h⟩ | ⟨j, hj, rfl, h⟩
 ·refine ⟨⟨0, 0, 0, 0, 0, 0, [], [], []⟩, ?_⟩
  have hb : DB m id = false := by
   unfold DB
   rw [← Bool.not_eq_true, eE]
   rintro ⟨q, hq, e⟩
   rw [List.getElem?_eq_getElem hq] at e
   exact h q (Nat.zero_le _) hq (by simpa using e)
  rw [hb]; rfl
 ·refine ⟨m.snapshots[j], ?_⟩
  have hb : DB m id = true := eE.2 ⟨j, hj, by rw [List.getElem?_eq_getElem hj]; simpa using h⟩
  rw [decide_eq_false (show ¬ (j : Int) < 0 by omega), iF, aN hj, bS, hb]
theorem TY {m : ax} (hm : rl m) (ho : Pe m) (id : Int) : ∃ s, qn m id = some (s, DB m id) := by
 have key : ∀ d k i, i + d = m.snapshots.length → d < k → ∃ s b, eJ m id k (i : Int) = some (s, b) ∧ (b = true ↔ ∃ j, i ≤ j ∧ ∃ (h : j < m.snapshots.length), m.snapshots[j].id = id) := by
  intro d
  induction d with
  | zero =>
   intro k i hi hk
   obtain ⟨k, rfl⟩ := fu hk
   rw [eJ, Bt (by omega), iF]
   exact ⟨_, _, rfl, by simp; intro j h1 h2; omega⟩
  | succ d ih =>
   intro k i hi hk
   obtain ⟨k, rfl⟩ := fu hk
   have h1 : i < m.snapshots.length := by omega
   have hid := (ho _ (List.getElem_mem h1)).1
   rw [eJ, bc h1, iT, aN h1, bS]
   unfold qV
   rw [ar h1 hm.snaps.1]
   cases he : (m.snapshots[i].id == id) with
   | true =>
    have he : m.snapshots[i].id = id := by simpa using he
    rw [iT, decide_eq_true (by omega), iT]
    exact ⟨_, _, rfl, fun _ => ⟨i, Nat.le_refl _, h1, he⟩, fun _ => rfl⟩
   | false =>
    rw [iF, iF]
    obtain ⟨s, b, e1, e2⟩ := ih k (i + 1) (by omega) (by omega)
    refine ⟨s, b, e1, e2.trans ⟨fun ⟨j, a, h, c⟩ => ⟨j, by omega, h, c⟩, fun ⟨j, a, h, c⟩ => ⟨j, ?_, h, c⟩⟩⟩
    by_cases e : j = i
    ·subst e; rw [c] at he; simp at he
    ·omega
 obtain ⟨s, b, e1, e2⟩ := key m.snapshots.length aX 0 (by omega) (by rw [be]; have := hm.snaps.1; omega)
 refine ⟨s, ?_⟩
 unfold qn
 rw [show ((0 : Nat) : Int) = 0 from rfl] at e1
 rw [e1]
 congr 2
 refine gn (e2.trans ?_)
 unfold DB
 rw [eE]
 constructor
 ·rintro ⟨j, _, h, c⟩; exact ⟨j, h, by rw [List.getElem?_eq_getElem h]; simpa using c⟩
 ·rintro ⟨j, h, c⟩; rw [List.getElem?_eq_getElem h] at c; exact ⟨j, Nat.zero_le _, h, by simpa using c⟩
def Qu (m : ax) (r : kN) (j : Nat) : Bool := nY (fun q => match m.refs[q]? with | some p => decide (p.name = r.name) | none => false) j
def HQ (m : ax) (j : Nat) : Int := match m.refs[j]? with
 | some r => n4 (er (!rR r.name) 4) (n4 (er (Qu m r j) 5) (er (!DB m r.snapshot && !(r.branch && r.snapshot == 0)) 9))
 | none => 0
def I6 (s : ByteArray) : Bool := Ax ⟨4, 0, 0, s, []⟩
theorem Pc {s : ByteArray} (h : s.size < 100000000) : eP ⟨4, 0, 0, s, []⟩ < 1000000000 := by simp only [eP, nW]; omega
def yO (m : ax) (j : Nat) : Int := match m.props[j]? with
 | some p => n4 (er (!rR p.name) 4) (er ((decide (0 < j) && (match m.props[j - 1]? with | some q => F6 p.name q.name | none => false)) || !I6 p.value) 1)
 | none => 0
theorem Gc {m : ax} (hm : rl m) {i : Nat} (hi : i < m.props.length) (X : Option Int) (O : Option Bool) (ho : O = some (I6 m.props[i].value)) :
  al (decide ((0 : Int) < (i : Int))) (aw (at? m.props (IntKind.i64.wrap ((i : Int) - (1 : Int)))) fun e3 => aw (some (Op.bytesLess m.props[i].name.toList e3.name.toList || m.props[i].name.toList == e3.name.toList)) fun y1 => al y1 (al true (some (1 : Int)) X) (aw O fun r5 => al (!r5) (some (1 : Int)) X)) (aw O fun r6 => al (!r6) (some (1 : Int)) X) =
   ee (er ((decide (0 < i) && (match m.props[i - 1]? with | some q => F6 m.props[i].name q.name | none => false)) || !I6 m.props[i].value) 1) X := by
 subst ho
 by_cases h0 : 0 < i
 ·have hi1 : i - 1 < m.props.length := by omega
  rw [decide_eq_true (show (0 : Int) < (i : Int) by omega), iT, pU hi h0 hm.props.1, bS, bS, decide_eq_true h0, List.getElem?_eq_getElem hi1, Bool.true_and, bS]
  show al (F6 m.props[i].name m.props[i - 1].name) _ _ = ee (er (F6 m.props[i].name m.props[i - 1].name || !I6 m.props[i].value) 1) X
  cases F6 m.props[i].name m.props[i - 1].name with
  | true => rfl
  | false => rw [iF, dS (by decide), Bool.false_or]
 ·rw [decide_eq_false (show ¬ (0 : Int) < (i : Int) by omega), iF, decide_eq_false h0, Bool.false_and, Bool.false_or, bS, dS (by decide)]
theorem P6 {m : ax} (hm : rl m) : rY m = some (fe (yO m) m.props.length 0) := by
 unfold rY
 rw [gS (L := ig m) (n := m.props.length) (fin := some 0) (c := yO m) hm.props.1
  (fun k => by rw [ig, rC, iF]; rfl)
  (fun k i hi => by
   obtain ⟨z1, z2⟩ := hm.props.2 _ (List.getElem_mem hi)
   rw [ig, bc hi, iT, aN hi, bS, LR _ z1, bS, dS (by decide)]
   unfold yO
   rw [List.getElem?_eq_getElem hi]
   simp only
   rw [← bC]
   refine eD fun _ => ?_
   unfold pn
   rw [ar hi hm.props.1]
   refine Gc hm hi _ _ ?_
   unfold pN
   rw [Iu _ (Pc z2), bS]; rfl)]
 exact dX _
theorem P9 {m : ax} (hm : rl m) : qG m = some (fe (yO m) m.props.length 0) := by
 unfold qG
 rw [gS (L := gi m) (n := m.props.length) (fin := some 0) (c := yO m) hm.props.1
  (fun k => by rw [gi, rC, iF]; rfl)
  (fun k i hi => by
   obtain ⟨z1, z2⟩ := hm.props.2 _ (List.getElem_mem hi)
   rw [gi, bc hi, iT, aN hi, bS, LX _ z1, bS, dS (by decide)]
   unfold yO
   rw [List.getElem?_eq_getElem hi]
   simp only
   rw [← bC]
   refine eD fun _ => ?_
   unfold oc
   rw [ar hi hm.props.1]
   refine Gc hm hi _ _ ?_
   unfold zb
   rw [Na _ (Pc z2), bS]; rfl)]
 exact dX _
theorem S0 {m : ax} (hm : rl m) {i : Nat} (hi : i < m.refs.length) (r : kN) :
  co (List.take ((i : Int).toNat - (0 : Int).toNat) (List.drop (0 : Int).toNat m.refs)) r = some (Qu m r i, r) := by
 unfold co dK
 have hil : i ≤ m.refs.length := by omega
 obtain ⟨q, q1, q2⟩ := AM (z := r) (L := fun k j => aZ (List.take ((i : Int).toNat - (0 : Int).toNat) (List.drop (0 : Int).toNat m.refs)) k r.name r.branch r.snapshot j) (n := i) (p := fun q => match m.refs[q]? with | some p => decide (p.name = r.name) | none => false) (by have := hm.refs.1; omega)
  (fun k => by rw [aZ, wz hil, rC, iF]; rfl)
  (fun k j hj => by
   have hjl : j < m.refs.length := by omega
   rw [aZ, wz hil, bc hj, iT, FV hj hil, bS, xp, bS, F3, ar hjl hm.refs.1, List.getElem?_eq_getElem hjl])
 have q1 : aZ (List.take ((i : Int).toNat - (0 : Int).toNat) (List.drop (0 : Int).toNat m.refs)) aX r.name r.branch r.snapshot (0 : Int) = some (q, r) := q1
 rw [q1, bS]
 show some (decide (0 ≤ q), r) = _
 rw [q2]; rfl
theorem JW {b : Bool} (br : Bool) (s : Int) (X : Option Int) : al (!b) (al br (al (!(s == 0)) (some (9 : Int)) X) (al true (some 9) X)) (al false (some 9) X) = ee (er (!b && !(br && s == 0)) 9) X := by
 cases b <;> cases br <;> cases (s == 0) <;> rfl
theorem P7 {m : ax} (hm : rl m) : wW m = some (n4 (fe (HQ m) m.refs.length 0) (fe (yO m) m.props.length 0)) := by
 unfold wW
 rw [gS (L := ii m) (n := m.refs.length) (fin := some (fe (yO m) m.props.length 0)) (c := HQ m) hm.refs.1
  (fun k => by rw [ii, rC, iF, P6 hm])
  (fun k i hi => by
   obtain ⟨s, hs⟩ := TQ hm m.refs[i].snapshot
   rw [ii, bc hi, iT, aN hi, bS, LR _ (hm.refs.2 _ (List.getElem_mem hi)), bS, dS (by decide), gP ⟨by omega, by omega, by omega⟩, S0 hm hi, bS]
   show ee _ (al (Qu m m.refs[i] i) _ (aw (fp m m.refs[i].snapshot) _)) = _
   rw [hs, bS, dS (by decide)]
   unfold HQ pm
   rw [List.getElem?_eq_getElem hi, ar hi hm.refs.1]
   simp only
   rw [← bC, ← bC, JW])]
 exact vH _ _
theorem Qt {m : ax} (hm : rl m) (ho : Pe m) : me m = some (n4 (fe (HQ m) m.refs.length 0) (fe (yO m) m.props.length 0)) := by
 unfold me
 rw [gS (L := fG m) (n := m.refs.length) (fin := some (fe (yO m) m.props.length 0)) (c := HQ m) hm.refs.1
  (fun k => by rw [fG, rC, iF, P9 hm])
  (fun k i hi => by
   obtain ⟨s, hs⟩ := TY hm ho m.refs[i].snapshot
   rw [fG, bc hi, iT, aN hi, bS, LX _ (hm.refs.2 _ (List.getElem_mem hi)), bS, dS (by decide)]
   rw [ux (L := lL (fG m k) m (i : Int) m.refs[i]) (n := i) (e := some 5) (fin := q7 (fG m k) m (i : Int) m.refs[i]) (p := fun q => match m.refs[q]? with | some p => decide (p.name = m.refs[i].name) | none => false) (by have := hm.refs.1; omega)
    (fun q => by rw [lL, rC, iF])
    (fun q j hj => by
     have hjl : j < m.refs.length := by omega
     rw [lL, bc hj, iT, aN hjl, bS, F3, ar hjl hm.refs.1, List.getElem?_eq_getElem hjl])]
   unfold HQ q7 ov
   rw [List.getElem?_eq_getElem hi, ar hi hm.refs.1, hs, bS, dS (by decide)]
   simp only
   rw [← bC, ← bC, JW]; rfl)]
 exact vH _ _
def TP (m : ax) (i : Nat) : Bool := match m.snapshots[i]? with | some s => decide ((400 : Int) < (s.files.length : Int)) || decide ((400 : Int) < (s.dby.length : Int)) | none => false
def Tv (m : ax) (i : Nat) : Int := match m.snapshots[i]? with | some s => IntKind.i64.wrap ((s.files.length : Int) + (s.dby.length : Int)) | none => 0
def OX (m : ax) : Nat → Nat → Bool
 | 0, _ => false
 | d + 1, i => TP m i || OX m d (i + 1)
def OH (m : ax) : Nat → Nat → Int → Int
 | 0, _, x => x
 | d + 1, i, x => OH m d (i + 1) (IntKind.i64.wrap (x + Tv m i))
theorem Gp {m : ax} (hm : rl m) : ∀ (d k i : Nat) (x : Int) (b : Bool), i + d = m.snapshots.length → d < k → fD m k x b (i : Int) = some (er (b || (OX m d i || decide (4000 < OH m d i x))) 7)
 | 0, k, i, x, b, hi, hk => by
  obtain ⟨k, rfl⟩ := fu hk
  rw [fD, Bt (by omega), iF]
  unfold tk pR OX OH
  cases b with
  | true => rfl
  | false => rw [iF]; cases decide (4000 < x) <;> rfl
 | d + 1, k, i, x, b, hi, hk => by
  obtain ⟨k, rfl⟩ := fu hk
  have h1 : i < m.snapshots.length := by omega
  rw [fD, bc h1, iT, aN h1, bS]
  unfold nt OX OH TP Tv
  rw [bS, ar h1 hm.snaps.1, List.getElem?_eq_getElem h1]
  simp only
  cases b with
  | true => rw [iT, Gp hm d k (i + 1) _ true (by omega) (by omega)]; rfl
  | false =>
   rw [iF]
   cases decide ((400 : Int) < (m.snapshots[i].files.length : Int)) with
   | true => rw [iT, Gp hm d k (i + 1) _ true (by omega) (by omega)]; rfl
   | false =>
    rw [iF, bS, Gp hm d k (i + 1) _ _ (by omega) (by omega)]
    cases decide ((400 : Int) < (m.snapshots[i].dby.length : Int)) <;> rfl
theorem Pl {m : ax} (hm : rl m) : ∀ (d k i : Nat) (x : Int), i + d = m.snapshots.length → d < k → jf m k x (i : Int) = some (OX m d i || decide (4000 < OH m d i x))
 | 0, k, i, x, hi, hk => by
  obtain ⟨k, rfl⟩ := fu hk
  rw [jf, Bt (by omega), iF]; rfl
 | d + 1, k, i, x, hi, hk => by
  obtain ⟨k, rfl⟩ := fu hk
  have h1 : i < m.snapshots.length := by omega
  rw [jf, bc h1, iT, aN h1, bS]
  unfold sd OX OH TP Tv
  rw [bS, ar h1 hm.snaps.1, List.getElem?_eq_getElem h1]
  simp only
  cases decide ((400 : Int) < (m.snapshots[i].files.length : Int)) with
  | true => rfl
  | false =>
   rw [iF]
   cases decide ((400 : Int) < (m.snapshots[i].dby.length : Int)) with
   | true => rfl
   | false => rw [iF, Pl hm d k (i + 1) _ (by omega) (by omega)]; rfl
theorem Kn {m : ax} (hm : rl m) : ∃ b, oI m = some (er b 7) ∧ xk m = some b := by
 have hc : ∀ x, iH m x = some (er (x || (OX m m.snapshots.length 0 || decide (4000 < OH m m.snapshots.length 0 0))) 7) := fun x => Gp hm m.snapshots.length aX 0 0 x (by omega) (by rw [be]; have := hm.snaps.1; omega)
 have hr : ∀ x, ke m x = some (x || (OX m m.snapshots.length 0 || decide (4000 < OH m m.snapshots.length 0 0))) := fun x => by
  unfold ke
  have := Pl hm m.snapshots.length aX 0 0 (by omega) (by rw [be]; have := hm.snaps.1; omega)
  rw [show ((0 : Nat) : Int) = 0 from rfl] at this
  rw [this]
  cases x <;> rfl
 unfold oI xk
 simp only [hc, hr]
 cases decide ((40 : Int) < (m.schemas.length : Int)) with
 | true => exact ⟨_, rfl, rfl⟩
 | false =>
  cases decide ((40 : Int) < (m.specs.length : Int)) with
  | true => exact ⟨_, rfl, rfl⟩
  | false =>
   cases decide ((200 : Int) < (m.snapshots.length : Int)) with
   | true => exact ⟨_, rfl, rfl⟩
   | false =>
    cases decide ((40 : Int) < (m.refs.length : Int)) with
    | true => exact ⟨_, rfl, rfl⟩
    | false => exact ⟨_, rfl, rfl⟩
end Go.Proofs.YtfnmbpecdjncfaaGreatDoor
namespace Go.Proofs.YtfnmbpecdjncfaaGreatDoor
open Go Go.SX Go.SX.Cal
def Bj (n : Int) (l : List Int) : Bool := l.any fun x => decide (n ≤ x)
theorem Mb (n : Int) (a b : List Int) : Bj n (a ++ b) = (Bj n a || Bj n b) := by unfold Bj; rw [List.any_append]
theorem PU (m : ax) : ∀ (N k : Nat) (fs : List ac), eV fs ≤ N → N < k → eV fs < 1000000000 → bM k fs m.schemas m.specs m.nextField m.nextSeq m.nextSnap m.purges m.snapshots m.refs m.props = some (er (Bj m.nextField (jy fs)) 3) := by
 intro N
 induction N with
 | zero =>
  intro k fs h hk _
  obtain ⟨k, rfl⟩ := fu hk
  have hl := eg fs
  have : fs = [] := List.eq_nil_of_length_eq_zero (by omega)
  subst this
  rw [bM, B1, ca]
  rfl
 | succ N ih =>
  intro k fs hN hk hs
  obtain ⟨k, rfl⟩ := fu hk
  have hl := eg fs
  rw [bM]
  have loop : ∀ (d kk i : Nat), i + d = fs.length → d < kk → ca (bM k) fs m.schemas m.specs m.nextField m.nextSeq m.nextSnap m.purges m.snapshots m.refs m.props kk (i : Int) = some (er (Bj m.nextField (jy (fs.drop i))) 3) := by
   intro d
   induction d with
   | zero =>
    intro kk i hi hk2
    obtain ⟨kk, rfl⟩ := fu hk2
    rw [ca, Bt (by omega), iF, List.drop_of_length_le (by omega)]; rfl
   | succ d ihd =>
    intro kk i hi hk2
    obtain ⟨kk, rfl⟩ := fu hk2
    have h1 : i < fs.length := by omega
    have m1 := jA (List.getElem_mem h1)
    have m2 := i0 fs[i]
    have m3 := ph fs[i].type
    rw [ca, bc h1, iT, aN h1, bS, ih k _ (by omega) (by omega) (by omega), bS, ar h1 (by omega), ihd kk (i + 1) (by omega) (by omega), Ah h1, D2]
    unfold qS
    have hb : Bj m.nextField (fs[i].id :: jy fs[i].type.fields ++ jy (fs.drop (i + 1))) = (decide (m.nextField ≤ fs[i].id) || (Bj m.nextField (jy fs[i].type.fields) || Bj m.nextField (jy (fs.drop (i + 1))))) := by
     rw [Mb]
     unfold Bj
     rw [List.any_cons, Bool.or_assoc]
    rw [hb]
    cases decide (m.nextField ≤ fs[i].id) with
    | true => rfl
    | false =>
     rw [iF, bS]
     show al false _ _ = _
     rw [iF]
     cases Bj m.nextField (jy fs[i].type.fields) <;> rfl
  have := loop fs.length aX 0 (by omega) (by rw [be]; omega)
  rw [show ((0 : Nat) : Int) = 0 from rfl, List.drop_zero] at this
  exact this
noncomputable def Rx (p q : List ac) : Int := n4 (sc p) (n4 (sc q) ((bw aX p q).getD 0))
theorem Pb {p q : List ac} (hp : eV p < 1000000000 - 1) (hq : eV q < 1000000000 - 1) : (∃ r, nP p q = some (r, Rx p q)) ∧ ∃ r, pX p q = some (r, Rx p q) := by
 obtain ⟨e, e1, e2, _⟩ := FQ (eV q) aX aX p q (Nat.le_refl _) (by rw [be]; omega) (by rw [be]; omega) (by omega) (by omega)
 unfold nP pX nH o7 Rx
 rw [PY hp, Qv hp, PY hq, Qv hq, e1, e2]
 simp only [bS]
 show (∃ r, aw (al (sc p != 0) _ _) _ = some (r, n4 (sc p) (n4 (sc q) e))) ∧ ∃ r, aw (al (sc p != 0) _ _) _ = some (r, n4 (sc p) (n4 (sc q) e))
 by_cases h1 : sc p = 0
 ·rw [h1]
  show (∃ r, al (sc q != 0) _ _ = some (r, n4 (sc q) e)) ∧ ∃ r, al (sc q != 0) _ _ = some (r, n4 (sc q) e)
  by_cases h2 : sc q = 0
  ·rw [h2]
   show (∃ r, al (e != 0) _ _ = some (r, e)) ∧ ∃ r, al (e != 0) _ _ = some (r, e)
   by_cases h3 : e = 0
   ·subst h3; exact ⟨⟨[], rfl⟩, ⟨[], rfl⟩⟩
   ·rw [show (e != 0) = true by simp [h3]]; exact ⟨⟨[], rfl⟩, ⟨[], rfl⟩⟩
  ·rw [show (sc q != 0) = true by simp [h2], HP h2]; exact ⟨⟨[], rfl⟩, ⟨[], rfl⟩⟩
 ·rw [show (sc p != 0) = true by simp [h1], HP h1, iT, bS, bS, show (sc p != 0) = true by simp [h1]]; exact ⟨⟨[], rfl⟩, ⟨[], rfl⟩⟩
noncomputable def Sl (m : ax) (l : List ac) (q : Nat) : Int := match m.schemas[q]? with | some o => Rx o l | none => 0
noncomputable def IY (m : ax) (j : Nat) : Int := match m.schemas[j]? with
 | some l => n4 (sc l) (n4 (er (Bj m.nextField (jy l)) 3) (fe (Sl m l) j 0))
 | none => 0
theorem SR {m : ax} (hm : rl m) : sA m = some (fe (IY m) m.schemas.length 0) := by
 unfold sA
 rw [gS (L := ej m) (n := m.schemas.length) (fin := some 0) (c := IY m) hm.schemas.1
  (fun k => by rw [ej, rC, iF]; rfl)
  (fun k i hi => by
   have hs := hm.schemas.2 _ (List.getElem_mem hi)
   have hil : i ≤ m.schemas.length := by omega
   rw [ej, bc hi, iT, aN hi, bS, PY hs, bS, iI, PU m _ aX _ (Nat.le_refl _) (by rw [be]; omega) (by omega), bS, iI, gP ⟨by omega, by omega, by omega⟩]
   rw [gS (L := i4 (ej m k) m (i : Int) m.schemas[i]) (n := i) (fin := ej m k ((i + 1 : Nat) : Int)) (c := Sl m m.schemas[i]) (by have := hm.schemas.1; omega)
    (fun q => by
     rw [i4, bS, wz hil, rC, iF]
     unfold rN
     rw [ar hi hm.schemas.1])
    (fun q x hx => by
     have hxl : x < m.schemas.length := by omega
     obtain ⟨⟨r, hr⟩, _⟩ := Pb (hm.schemas.2 _ (List.getElem_mem hxl)) hs
     rw [i4, bS, wz hil, bc hx, iT, FV hx hil, bS, hr, bS]
     show al (Rx m.schemas[x] m.schemas[i] != 0) _ _ = _
     rw [iI, ar hxl hm.schemas.1]
     unfold Sl
     rw [List.getElem?_eq_getElem hxl])]
   unfold IY
   rw [List.getElem?_eq_getElem hi]
   simp only
   rw [← bC, ← bC])]
 exact dX _
theorem Sz {m : ax} (hm : rl m) : dD m aX (0 : Int) = ee (fe (IY m) m.schemas.length 0) (sE m) :=
 gS (L := dD m) (n := m.schemas.length) (c := IY m) hm.schemas.1
  (fun k => by rw [dD, rC, iF])
  (fun k i hi => by
   have hs := hm.schemas.2 _ (List.getElem_mem hi)
   have hids := wF m.schemas[i]
   rw [dD, bc hi, iT, aN hi, bS, Qv hs, bS, iI, M4 _ aX _ (Nat.le_refl _) (by rw [be]; omega) (by omega), bS]
   rw [ux (L := lH (dD m k) m (i : Int) m.schemas[i] (jy m.schemas[i])) (n := (jy m.schemas[i]).length) (e := some 3) (fin := sx (dD m k) m (i : Int) m.schemas[i]) (p := fun j => match (jy m.schemas[i])[j]? with | some x => decide (m.nextField ≤ x) | none => false) (by omega)
    (fun q => by rw [lH, rC, iF])
    (fun q j hj => by rw [lH, bc hj, iT, aN hj, bS, ar hj (by omega), List.getElem?_eq_getElem hj])]
   have hb : nY (fun j => match (jy m.schemas[i])[j]? with | some x => decide (m.nextField ≤ x) | none => false) (jy m.schemas[i]).length = Bj m.nextField (jy m.schemas[i]) := by
    refine gn ?_
    unfold Bj
    rw [eE, List.any_eq_true]
    constructor
    ·rintro ⟨j, hj, h⟩; rw [List.getElem?_eq_getElem hj] at h; exact ⟨_, List.getElem_mem hj, h⟩
    ·rintro ⟨x, hx, h⟩
     obtain ⟨j, hj, rfl⟩ := List.mem_iff_getElem.1 hx
     exact ⟨j, hj, by rw [List.getElem?_eq_getElem hj]; exact h⟩
   rw [hb, dS (by decide)]
   unfold sx
   rw [gS (L := lG (dD m k) m (i : Int) m.schemas[i]) (n := i) (fin := dD m k ((i + 1 : Nat) : Int)) (c := Sl m m.schemas[i]) (by have := hm.schemas.1; omega)
    (fun q => by
     rw [lG, rC, iF]
     unfold vX
     rw [ar hi hm.schemas.1])
    (fun q x hx => by
     have hxl : x < m.schemas.length := by omega
     obtain ⟨_, ⟨r, hr⟩⟩ := Pb (hm.schemas.2 _ (List.getElem_mem hxl)) hs
     rw [lG, bc hx, iT, aN hxl, bS, hr, bS]
     show al (Rx m.schemas[x] m.schemas[i] != 0) _ _ = _
     rw [iI, ar hxl hm.schemas.1]
     unfold Sl
     rw [List.getElem?_eq_getElem hxl])]
   unfold IY
   rw [List.getElem?_eq_getElem hi]
   simp only
   rw [← bC, ← bC])
def Fv (m : ax) (sp : dq) (d : Nat) : Bool := match m.schemas[d]? with | some fs => !nY (qE fs sp) sp.fields.length | none => false
def tr (m : ax) (sp : dq) : Nat → Int
 | 0 => -1
 | d + 1 => if Fv m sp d then (d : Int) else tr m sp d
theorem Cg (m : ax) (sp : dq) : ∀ d, -1 ≤ tr m sp d ∧ tr m sp d < d
 | 0 => by simp [tr]
 | d + 1 => by
  unfold tr
  have := Cg m sp d
  split <;> constructor <;> omega
noncomputable def RA (sp : dq) (fs : List ac) : Int := (ql sp fs).getD 0
noncomputable def Qf (m : ax) (j : Nat) : Int := match m.specs[j]? with
 | some sp => n4 (er (decide (tr m sp m.schemas.length < 0) || (decide (j + 1 = m.specs.length) && decide (tr m sp m.schemas.length < (m.schemas.length : Int) - 1))) 9)
  (match m.schemas[(tr m sp m.schemas.length).toNat]? with | some fs => RA sp fs | none => 0)
 | none => 0
theorem R4 {m : ax} (hm : rl m) {sp : dq} (hsp : sp.fields.length < 1000000000) {d : Nat} (hd : d < m.schemas.length) :
  bB sp.fields m.schemas m.specs m.nextField m.nextSeq m.nextSnap m.purges m.snapshots m.refs m.props (d : Int) = some (!Fv m sp d, (d : Int)) := by
 have hfs := hm.schemas.2 _ (List.getElem_mem hd)
 have hn : m.schemas[d].length < 1000000000 := by have := eg m.schemas[d]; omega
 unfold bB cx
 obtain ⟨r, r1, r2⟩ := AM (z := (d : Int)) (L := fun k i => aI sp.fields m.schemas m.specs m.nextField m.nextSeq m.nextSnap m.purges m.snapshots m.refs m.props k (d : Int) i) (n := sp.fields.length) (p := qE m.schemas[d] sp) hsp
  (fun k => by rw [aI, rC, iF]; rfl)
  (fun k i hi => by
   obtain ⟨t1, _, t3, _⟩ := xu hn sp.fields[i].source
   rw [aI, bc hi, iT, aN hi, bS]
   unfold s9
   rw [aN hd, bS, t1, bS, bS, t3, ar hi hsp]
   unfold qE
   rw [List.getElem?_eq_getElem hi])
 have r1 : aI sp.fields m.schemas m.specs m.nextField m.nextSeq m.nextSnap m.purges m.snapshots m.refs m.props aX (d : Int) (0 : Int) = some (r, (d : Int)) := r1
 rw [r1, bS]
 show some (decide (0 ≤ r), (d : Int)) = _
 rw [r2]
 unfold Fv
 rw [List.getElem?_eq_getElem hd, Bool.not_not]
theorem LI {m : ax} (hm : rl m) {sp : dq} (hsp : sp.fields.length < 1000000000) (rec1 : Int → Option Int) (x1 : Int) : ∀ (d k : Nat), d ≤ m.schemas.length → d < k → gk rec1 m x1 sp k ((d : Int) - 1) = n7 rec1 m x1 sp (tr m sp d)
 | 0, k, hd, hk => by
  obtain ⟨k, rfl⟩ := fu hk
  rw [gk]
  show al (decide ((0 : Int) ≤ -1)) _ _ = _
  rw [decide_eq_false (by decide), iF]
  rfl
 | d + 1, k, hd, hk => by
  obtain ⟨k, rfl⟩ := fu hk
  have h1 : d < m.schemas.length := by omega
  rw [gk, show (((d + 1 : Nat) : Int) - 1) = (d : Int) by omega, decide_eq_true (show (0 : Int) ≤ (d : Int) by omega), iT, R4 hm hsp h1, bS]
  unfold qz tr
  show al (!Fv m sp d) (gk rec1 m x1 sp k (IntKind.i64.wrap ((d : Int) - 1))) (n7 rec1 m x1 sp (d : Int)) = _
  cases Fv m sp d with
  | true => rfl
  | false =>
   rw [Bool.not_false, iT, yB (by have := hm.schemas.1; omega) (by have := hm.schemas.1; omega), LI hm hsp rec1 x1 d k (by omega) (by omega)]; rfl
theorem PE {m : ax} (hm : rl m) {sp : dq} (hsp : sp.fields.length < 1000000000) {fs : List ac} (hfs : fs ∈ m.schemas) : ql sp fs = some (RA sp fs) ∧ tX sp fs = some (RA sp fs) := by
 have := hm.schemas.2 _ hfs
 obtain ⟨c, h1, h2, _⟩ := Lz sp hsp (fs := fs) (by omega)
 unfold RA
 rw [h1, h2]; exact ⟨rfl, rfl⟩
theorem QY {m : ax} (hm : rl m) : vB m = some (fe (Qf m) m.specs.length 0) := by
 unfold vB
 rw [gS (L := dM m) (n := m.specs.length) (fin := some 0) (c := Qf m) hm.specs.1
  (fun k => by rw [dM, rC, iF]; rfl)
  (fun k i hi => by
   have hsp := hm.specs.2 _ (List.getElem_mem hi)
   obtain ⟨l1, l2⟩ := Cg m m.specs[i] m.schemas.length
   rw [dM, bc hi, iT, aN hi, bS, kX hm.schemas.1, LI hm hsp _ _ m.schemas.length aX (Nat.le_refl _) (by rw [be]; have := hm.schemas.1; omega)]
   unfold Qf
   rw [List.getElem?_eq_getElem hi]
   simp only
   generalize hK : tr m m.specs[i] m.schemas.length = K at l1 l2
   have hj : ∀ x, x = (decide (K < 0) || (decide (i + 1 = m.specs.length) && decide (K < (m.schemas.length : Int) - 1))) → l0 (dM m k) m (i : Int) m.specs[i] K x =
     ee (n4 (er (decide (K < 0) || (decide (i + 1 = m.specs.length) && decide (K < (m.schemas.length : Int) - 1))) 9) (match m.schemas[K.toNat]? with | some fs => RA m.specs[i] fs | none => 0)) (dM m k ((i + 1 : Nat) : Int)) := by
    rintro x rfl
    unfold l0
    rw [dS (by decide), ← bC]
    refine eD fun e => ?_
    have e := (Cb (by decide)).1 e
    rw [Bool.or_eq_false_iff, decide_eq_false_iff_not] at e
    obtain ⟨h1, h2, h3⟩ := DJ (l := m.schemas) (x := K) (by omega) (by omega)
    rw [h2, h3, bS, (PE hm hsp (List.getElem_mem h1)).1, bS, iI, ar hi hm.specs.1]
   generalize hB : (decide (K < 0) || (decide (i + 1 = m.specs.length) && decide (K < (m.schemas.length : Int) - 1))) = B at hj ⊢
   unfold n7
   by_cases h0 : K < 0
   ·rw [decide_eq_true h0, iT]
    exact hj true (by rw [← hB, decide_eq_true h0]; rfl)
   ·rw [decide_eq_false h0, iF, kX hm.specs.1]
    by_cases hl : i + 1 = m.specs.length
    ·rw [show ((i : Int) == (m.specs.length : Int) - 1) = true from beq_iff_eq.2 (by omega), iT, kX hm.schemas.1, bS]
     exact hj _ (by rw [← hB, decide_eq_false h0, decide_eq_true hl]; rfl)
    ·rw [show ((i : Int) == (m.specs.length : Int) - 1) = false from beq_eq_false_iff_ne.2 (by omega), iF]
     exact hj false (by rw [← hB, decide_eq_false h0, decide_eq_false hl]; rfl))]
 exact dX _
theorem Sd {m : ax} (hm : rl m) {sp : dq} (hsp : sp.fields.length < 1000000000) (rec2 : Int → Int → Option Int) (x2 : Int) {d : Nat} (hd : d < m.schemas.length) :
  dn rec2 m sp x2 (d : Int) aX true (0 : Int) = kF rec2 x2 (d : Int) (Fv m sp d) := by
 have hfs := hm.schemas.2 _ (List.getElem_mem hd)
 have hn : m.schemas[d].length < 1000000000 := by have := eg m.schemas[d]; omega
 have key : ∀ (q k i : Nat) (b : Bool), i + q = sp.fields.length → q < k → dn rec2 m sp x2 (d : Int) k b (i : Int) = kF rec2 x2 (d : Int) (b && !decide (∃ j, j < q ∧ qE m.schemas[d] sp (i + j) = true)) := by
  intro q
  induction q with
  | zero =>
   intro k i b hi hk
   obtain ⟨k, rfl⟩ := fu hk
   rw [dn, Bt (by omega), iF]
   simp
  | succ q ih =>
   intro k i b hi hk
   obtain ⟨k, rfl⟩ := fu hk
   have h1 : i < sp.fields.length := by omega
   obtain ⟨_, t2, _, _⟩ := xu hn sp.fields[i].source
   rw [dn, bc h1, iT, aN h1, bS, aN hd, bS, t2, bS]
   unfold ng
   rw [ar h1 hsp]
   have hl : qE m.schemas[d] sp i = !F4 m.schemas[d] sp.fields[i].source := by unfold qE; rw [List.getElem?_eq_getElem h1]
   have hx : (!decide (∃ j, j < q + 1 ∧ qE m.schemas[d] sp (i + j) = true)) = (F4 m.schemas[d] sp.fields[i].source && !decide (∃ j, j < q ∧ qE m.schemas[d] sp (i + 1 + j) = true)) := by
    refine gn ?_
    rw [Bool.and_eq_true, Bool.not_eq_true', Bool.not_eq_true', decide_eq_false_iff_not, decide_eq_false_iff_not]
    constructor
    ·intro h
     refine ⟨?_, fun ⟨j, a, b⟩ => h ⟨j + 1, by omega, by rw [← b]; congr 1; omega⟩⟩
     cases hb : F4 m.schemas[d] sp.fields[i].source with
     | true => rfl
     | false => exact absurd ⟨0, by omega, by rw [Nat.add_zero, hl, hb]; rfl⟩ h
    ·rintro ⟨h1, h2⟩ ⟨j, a, b⟩
     cases j with
     | zero => rw [Nat.add_zero, hl, h1] at b; cases b
     | succ j => exact h2 ⟨j, by omega, by rw [← b]; congr 1; omega⟩
   rw [hx]
   cases b with
   | true =>
    rw [iT]
    show dn rec2 m sp x2 (d : Int) k (F4 m.schemas[d] sp.fields[i].source) ((i + 1 : Nat) : Int) = _
    rw [ih k (i + 1) _ (by omega) (by omega), Bool.true_and]
   | false => rw [iF, ih k (i + 1) _ (by omega) (by omega), Bool.false_and, Bool.false_and]
 have := key sp.fields.length aX 0 true (by omega) (by rw [be]; omega)
 rw [show ((0 : Nat) : Int) = 0 from rfl] at this
 rw [this, Bool.true_and]
 congr 1
 unfold Fv
 rw [List.getElem?_eq_getElem hd]
 congr 1
 refine gn ?_
 rw [decide_eq_true_iff, eE]
 simp
theorem Sc {m : ax} (hm : rl m) {sp : dq} (hsp : sp.fields.length < 1000000000) (rec1 : Int → Option Int) (x1 : Int) : ∀ (d k i : Nat), i + d = m.schemas.length → d < k → cW rec1 m x1 sp k (tr m sp i) (i : Int) = m6 rec1 m x1 sp (tr m sp m.schemas.length)
 | 0, k, i, hi, hk => by
  obtain ⟨k, rfl⟩ := fu hk
  have : i = m.schemas.length := by omega
  rw [cW, Bt (by omega), iF, this]
 | d + 1, k, i, hi, hk => by
  obtain ⟨k, rfl⟩ := fu hk
  have h1 : i < m.schemas.length := by omega
  rw [cW, bc h1, iT, Sd hm hsp _ _ h1]
  unfold kF mK
  rw [ar h1 hm.schemas.1, ← Sc hm hsp rec1 x1 d k (i + 1) (by omega) (by omega)]
  rw [show tr m sp (i + 1) = if Fv m sp i then (i : Int) else tr m sp i from rfl]
  cases Fv m sp i <;> rfl
theorem QH {m : ax} (hm : rl m) : pW m = some (fe (Qf m) m.specs.length 0) := by
 unfold pW
 rw [gS (L := bH m) (n := m.specs.length) (fin := some 0) (c := Qf m) hm.specs.1
  (fun k => by rw [bH, rC, iF]; rfl)
  (fun k i hi => by
   have hsp := hm.specs.2 _ (List.getElem_mem hi)
   obtain ⟨l1, l2⟩ := Cg m m.specs[i] m.schemas.length
   have hu := Sc hm hsp (bH m k) (i : Int) m.schemas.length aX 0 (by omega) (by rw [be]; have := hm.schemas.1; omega)
   have hu : cW (bH m k) m (i : Int) m.specs[i] aX (-1 : Int) (0 : Int) = _ := hu
   rw [bH, bc hi, iT, aN hi, bS, hu]
   unfold Qf
   rw [List.getElem?_eq_getElem hi]
   simp only
   generalize hK : tr m m.specs[i] m.schemas.length = K at l1 l2
   have hj : ∀ x, x = (decide (K < 0) || (decide (i + 1 = m.specs.length) && decide (K < (m.schemas.length : Int) - 1))) → i5 (bH m k) m (i : Int) m.specs[i] K x =
     ee (n4 (er (decide (K < 0) || (decide (i + 1 = m.specs.length) && decide (K < (m.schemas.length : Int) - 1))) 9) (match m.schemas[K.toNat]? with | some fs => RA m.specs[i] fs | none => 0)) (bH m k ((i + 1 : Nat) : Int)) := by
    rintro x rfl
    unfold i5
    rw [dS (by decide), ← bC]
    refine eD fun e => ?_
    have e := (Cb (by decide)).1 e
    rw [Bool.or_eq_false_iff, decide_eq_false_iff_not] at e
    obtain ⟨h1, h2, h3⟩ := DJ (l := m.schemas) (x := K) (by omega) (by omega)
    rw [h2, h3, bS, (PE hm hsp (List.getElem_mem h1)).2, bS, iI, ar hi hm.specs.1]
   generalize hB : (decide (K < 0) || (decide (i + 1 = m.specs.length) && decide (K < (m.schemas.length : Int) - 1))) = B at hj ⊢
   unfold m6
   by_cases h0 : K < 0
   ·rw [decide_eq_true h0, iT]
    exact hj true (by rw [← hB, decide_eq_true h0]; rfl)
   ·rw [decide_eq_false h0, iF, kX hm.specs.1]
    by_cases hl : i + 1 = m.specs.length
    ·rw [show ((i : Int) == (m.specs.length : Int) - 1) = true from beq_iff_eq.2 (by omega), iT, kX hm.schemas.1]
     refine hj _ ?_
     rw [← hB, decide_eq_false h0, decide_eq_true hl, Bool.true_and, Bool.false_or]
     refine gn ?_
     rw [bne_iff_ne, decide_eq_true_iff]; omega
    ·rw [show ((i : Int) == (m.specs.length : Int) - 1) = false from beq_eq_false_iff_ne.2 (by omega), iF]
     exact hj false (by rw [← hB, decide_eq_false h0, decide_eq_false hl]; rfl))]
 exact dX _
noncomputable def Fl (m : ax) : Int := n4 (fe (IY m) m.schemas.length 0) (n4 (fe (Qf m) m.specs.length 0) (n4 (fe (PD m) m.snapshots.length 0) (n4 (Ub m) (n4 (fe (HQ m) m.refs.length 0) (fe (yO m) m.props.length 0)))))
theorem RK {m : ax} (hm : rl m) (x : Bool) : kv m x = some (n4 (er x 3) (Fl m)) := by
 unfold kv Fl
 rw [dS (by decide), SR hm, bS, iI, QY hm, bS, iI, Qm hm, bS, iI]
 refine Eq.trans ?_ (dX _)
 rw [← bC, ← bC, ← bC, ← bC]
 refine eD fun _ => eD fun _ => eD fun _ => eD fun e => ?_
 rw [NN hm (CU hm e), bS, iI, P7 hm, bS, iI, bC]
theorem TN {m : ax} (hm : rl m) (x : Bool) : lF m x = some (n4 (er x 3) (Fl m)) := by
 unfold lF Fl
 rw [dS (by decide), Sz hm]
 unfold sE
 rw [QH hm, bS, iI, Qd hm]
 refine Eq.trans ?_ (dX _)
 rw [← bC, ← bC, ← bC, ← bC]
 refine eD fun _ => eD fun _ => eD fun _ => eD fun e => ?_
 rw [OR hm (CU hm e), Qt hm (CU hm e), dX]
 exact vH _ _
theorem Pi {m : ax} (hm : rl m) (x : Bool) : ∃ e, kz m x = some e ∧ pz m x = some e := by
 unfold kz pz
 simp only [ki, nJ, RK hm, TN hm, bS]
 cases x with
 | true => exact ⟨9, rfl, rfl⟩
 | false =>
  cases decide (1 ≤ m.nextField ∧ m.nextField ≤ 1099511627776) with
  | false => exact ⟨_, rfl, rfl⟩
  | true =>
   cases decide (1 ≤ m.nextSeq ∧ m.nextSeq ≤ 1099511627776) with
   | false => exact ⟨_, rfl, rfl⟩
   | true =>
    cases decide (1 ≤ m.nextSnap ∧ m.nextSnap ≤ 1099511627776) with
    | false => exact ⟨_, rfl, rfl⟩
    | true => exact ⟨_, rfl, rfl⟩
theorem KZ {m : ax} (hm : rl m) : ∃ e, mG m = some e ∧ un m = some e := by
 obtain ⟨b, h1, h2⟩ := Kn hm
 unfold mG un
 rw [h1, h2, bS, bS]
 cases b with
 | true => exact ⟨7, rfl, rfl⟩
 | false =>
  show ∃ e, al false _ _ = _ ∧ al false _ _ = _
  rw [iF, iF]
  cases ((m.schemas.length : Int) == 0) with
  | true => exact Pi hm true
  | false => exact Pi hm _
theorem F7 : yk = some true := by decide +kernel
end Go.Proofs.YtfnmbpecdjncfaaGreatDoor
namespace Go.Proofs.YtfnmbpecdjncfaaGreatDoor
open Go Go.SX Go.SX.Cal
theorem R2 {m : ax} (hm : rl m) (x : Bool) : ∃ e, kz m x = some e ∧ (e = 0 → Fl m = 0) := by
 unfold kz
 simp only [ki, RK hm, bS]
 cases x with
 | true => exact ⟨9, rfl, fun h => absurd h (by decide)⟩
 | false =>
  cases decide (1 ≤ m.nextField ∧ m.nextField ≤ 1099511627776) with
  | false => exact ⟨_, rfl, fun h => (o5.1 h).2⟩
  | true =>
   cases decide (1 ≤ m.nextSeq ∧ m.nextSeq ≤ 1099511627776) with
   | false => exact ⟨_, rfl, fun h => (o5.1 h).2⟩
   | true =>
    cases decide (1 ≤ m.nextSnap ∧ m.nextSnap ≤ 1099511627776) with
    | false => exact ⟨_, rfl, fun h => (o5.1 h).2⟩
    | true => exact ⟨_, rfl, fun h => (o5.1 h).2⟩
theorem M8 {m : ax} (hm : rl m) : ∃ b, oI m = some (er b 7) := by
 have hc : ∀ x, iH m x = some (er (x || (OX m m.snapshots.length 0 || decide (4000 < OH m m.snapshots.length 0 0))) 7) := fun x => Gp hm m.snapshots.length aX 0 0 x (by omega) (by rw [be]; have := hm.snaps.1; omega)
 unfold oI
 simp only [hc]
 cases decide ((40 : Int) < (m.schemas.length : Int)) with
 | true => exact ⟨_, rfl⟩
 | false =>
  cases decide ((40 : Int) < (m.specs.length : Int)) with
  | true => exact ⟨_, rfl⟩
  | false =>
   cases decide ((200 : Int) < (m.snapshots.length : Int)) with
   | true => exact ⟨_, rfl⟩
   | false =>
    cases decide ((40 : Int) < (m.refs.length : Int)) with
    | true => exact ⟨_, rfl⟩
    | false => exact ⟨_, rfl⟩
theorem O9 {m : ax} (hm : rl m) : ∃ e, mG m = some e ∧ (e = 0 → Fl m = 0) := by
 obtain ⟨b, h1⟩ := M8 hm
 unfold mG
 rw [h1, bS]
 cases b with
 | true => exact ⟨7, rfl, fun h => absurd h (by decide)⟩
 | false =>
  show ∃ e, al false _ _ = _ ∧ _
  rw [iF]
  cases ((m.schemas.length : Int) == 0) with
  | true => exact R2 hm true
  | false => exact R2 hm _
structure Jy (m : ax) (d : aD) : Prop where
 fs : ∃ fs, at? m.schemas d.schema = some fs ∧ fs ∈ m.schemas ∧ (∀ (i : Nat) (h : i < d.ids.length), JL fs d.ids[i] = true) ∧
  ∀ k ∈ d.keys, k.length = d.ids.length ∧ ∀ (i : Nat) (h : i < d.ids.length) (h' : i < k.length), ck (GB fs d.ids[i]).type k[i] = 0
 keys : ∀ k ∈ d.keys, ∀ v ∈ k, Lv v
structure R0 (m : ax) (s : aj) : Prop where
 sort : Ab s.files
 file : ∀ f ∈ s.files, Ml f ∧ ∃ fs, at? m.schemas f.schema = some fs ∧ fs ∈ m.schemas
 dby : ∀ d ∈ s.dby, Jy m d
theorem UT {m : ax} {d : aD} (hm : rl m) (hz : N1 d.ids d.keys) (h : Rj m d = 0) : Jy m d := by
 unfold Rj at h
 rw [o5] at h
 obtain ⟨fs, a1, a2, a3⟩ := NT ((Cb (by decide)).1 h.1)
 have h2 := h.2
 rw [a2] at h2
 unfold CB at h2
 simp only [o5] at h2
 obtain ⟨_, h3, _, _, _, h4⟩ := h2
 have hl : ∀ (i : Nat) (h : i < d.ids.length), JL fs d.ids[i] = true := fun i hi => ND h3 hi
 have hk : ∀ (j : Nat) (hj : j < d.keys.length), er ((d.keys[j].length : Int) != (d.ids.length : Int)) 1 = 0 ∧ fe (Ea fs d.ids d.keys[j]) d.ids.length 0 = 0 := by
  intro j hj
  have := Nn.1 h4 j (Nat.zero_le _) (by omega)
  rw [uc hj, o5, o5] at this
  exact ⟨this.1, this.2.1⟩
 refine ⟨⟨fs, a1, a3, hl, fun k hk' => ?_⟩, fun k hk' => ?_⟩
 ·obtain ⟨j, hj, rfl⟩ := List.mem_iff_getElem.1 hk'
  obtain ⟨b1, b2⟩ := hk j hj
  refine ⟨by rw [Cb (by decide), bne_eq_false_iff_eq] at b1; omega, fun i hi hi' => ?_⟩
  have := Nn.1 b2 i (Nat.zero_le _) (by omega)
  unfold Ea at this
  rw [List.getElem?_eq_getElem hi, List.getElem?_eq_getElem hi'] at this
  exact this
 ·obtain ⟨j, hj, rfl⟩ := List.mem_iff_getElem.1 hk'
  obtain ⟨b1, b2⟩ := hk j hj
  exact Dm hz (hm.schemas.2 _ a3) hl hj b1 b2
theorem OO {m : ax} {f : ah} (h : zH m f = 0) : ∃ fs, at? m.schemas f.schema = some fs ∧ fs ∈ m.schemas := by
 unfold zH at h
 simp only [o5] at h
 have : JB m f = false := by
  first
  | exact (Cb (by decide)).1 h.2.1
  | exact (Cb (by decide)).1 h.1
 obtain ⟨fs, sp, a1, _, _, _, a2, _⟩ := Ji this
 exact ⟨fs, a1, a2⟩
theorem TS {m : ax} (hm : rl m) (h : Fl m = 0) : ∀ s ∈ m.snapshots, 1 ≤ s.id ∧ R0 m s := by
 unfold Fl at h
 simp only [o5] at h
 intro s hs
 have ho := CU hm h.2.2.1 s hs
 refine ⟨ho.1, ho.2.1, fun f hf => ⟨ho.2.2 f hf, ?_⟩, fun d hd => ?_⟩
 all_goals
  obtain ⟨i, hi, rfl⟩ := List.mem_iff_getElem.1 hs
  have h1 := Nn.1 h.2.2.1 i (Nat.zero_le _) (by omega)
  rw [FW hi, o5, o5] at h1
  have hh := h1.2.2
  unfold NW at hh
  rw [o5, o5] at hh
 ·obtain ⟨j, hj, rfl⟩ := List.mem_iff_getElem.1 hf
  have h2 := Nn.1 hh.1 j (Nat.zero_le _) (by omega)
  unfold NV at h2
  rw [List.getElem?_eq_getElem hj] at h2
  simp only [o5] at h2
  exact OO h2.1
 ·have hz := Ti (hm.snaps.2 _ hs) hd
  obtain ⟨j, hj, rfl⟩ := List.mem_iff_getElem.1 hd
  have h2 := Nn.1 hh.2.2 j (Nat.zero_le _) (by omega)
  unfold Hu at h2
  rw [List.getElem?_eq_getElem hj] at h2
  simp only [o5] at h2
  exact UT hm hz h2.1
end Go.Proofs.YtfnmbpecdjncfaaGreatDoor
namespace Go.Proofs.YtfnmbpecdjncfaaGreatDoor
open Go Go.SX Go.SX.Cal
def nq {α : Type} (r : α → α → Bool) (l m : List α) (j : Nat) : Bool := match l[j]?, m[j]? with | some x, some y => !r x y | _, _ => false
theorem Df {α : Type} {r : α → α → Bool} {l m : List α} (hl : l.length = m.length) (hr : ∀ x ∈ l, ∀ y ∈ m, (r x y = true ↔ x = y)) : Ng (nq r l m) l.length = true ↔ l = m := by
 rw [Gi]
 constructor
 ·intro h
  refine List.ext_getElem hl fun i h1 h2 => ?_
  have := h i h1
  unfold nq at this
  rw [List.getElem?_eq_getElem h1, List.getElem?_eq_getElem h2] at this
  exact (hr _ (List.getElem_mem h1) _ (List.getElem_mem h2)).1 (by simpa using this)
 ·rintro rfl j hj
  unfold nq
  rw [List.getElem?_eq_getElem hj]
  have := (hr _ (List.getElem_mem hj) _ (List.getElem_mem hj)).2 rfl
  simp [this]
theorem PB {l m : List Int} (hn : l.length < 1000000000) : ∃ b, js l m = some b ∧ (b = true ↔ l = m) := by
 unfold js
 by_cases hl : l.length = m.length
 ·rw [show ((l.length : Int) != (m.length : Int)) = false by simp [hl], iF]
  rw [wV (L := ec l m) (n := l.length) (p := nq (fun a b => a == b) l m) hn
   (fun k => by rw [ec, rC, iF]; rfl)
   (fun k i hi => by
    have h2 : i < m.length := by omega
    rw [ec, bc hi, iT, aN hi, bS, aN h2, bS, ar hi hn]
    unfold nq
    rw [List.getElem?_eq_getElem hi, List.getElem?_eq_getElem h2]
    rfl)]
  exact ⟨_, rfl, Df hl fun x _ y _ => by simp⟩
 ·rw [show ((l.length : Int) != (m.length : Int)) = true by simp; omega, iT]
  exact ⟨false, rfl, by simp; rintro rfl; exact hl rfl⟩
theorem Ae (l : List ByteArray) (hn : l.length < 1000000000) : rD l l = some true := by
 unfold rD
 rw [bne_self_eq_false, iF]
 rw [wV (L := lI l l) (n := l.length) (p := nq (fun a b => a.toList == b.toList) l l) hn
  (fun k => by rw [lI, rC, iF]; rfl)
  (fun k i hi => by
   rw [lI, bc hi, iT, aN hi, bS, bS, ar hi hn]
   unfold nq
   rw [List.getElem?_eq_getElem hi])]
 exact congrArg some ((Df rfl fun x _ y _ => by rw [F3, decide_eq_true_iff]).2 rfl)
def zw (l : List eT) (n : ByteArray) : List Int := ((l.find? fun d => decide (d.file = n)).map (·.rows)).getD []
theorem PH {s : aj} (hn : s.dat.length < 1000000000) (n : ByteArray) : se s n = some (zw s.dat n) := by
 have key : ∀ (d k i : Nat), i + d = s.dat.length → d < k → jb s n k (i : Int) = some (zw (s.dat.drop i) n) := by
  intro d
  induction d with
  | zero =>
   intro k i hi hk
   obtain ⟨k, rfl⟩ := fu hk
   rw [jb, Bt (by omega), iF, List.drop_of_length_le (by omega)]; rfl
  | succ d ih =>
   intro k i hi hk
   obtain ⟨k, rfl⟩ := fu hk
   have h1 : i < s.dat.length := by omega
   rw [jb, bc h1, iT, aN h1, bS, F3, re h1, ar h1 hn]
   unfold zw
   rw [List.find?_cons]
   cases hb : decide (s.dat[i].file = n) with
   | true => rfl
   | false => rw [iF]; exact ih k (i + 1) (by omega) (by omega)
 have := key s.dat.length aX 0 (by omega) (by rw [be]; omega)
 rw [List.drop_zero] at this
 exact this
theorem JF {s : aj} (hs : HH s) (n : ByteArray) : (zw s.dat n).length < 1000000000 := by
 unfold zw
 cases h : s.dat.find? (fun d => decide (d.file = n)) with
 | none => show ([] : List Int).length < _; simp
 | some d => exact hs.dat.2 d (List.mem_of_find?_eq_some h)
theorem NK : ∀ {a b : List ae}, (∀ v ∈ a, Lv v) → (∀ v ∈ b, Lv v) → (Ord.cmpL a b = 0 ↔ a = b)
 | [], [], _, _ => by simp [Ord.cmpL]
 | [], _ :: _, _, _ => by simp [Ord.cmpL]
 | _ :: _, [], _, _ => by simp [Ord.cmpL]
 | x :: a, y :: b, ha, hb => by
  simp only [Ord.cmpL]
  rw [CS, ST (ha x (by simp)) (hb y (by simp)), NK (fun v hv => ha v (by simp [hv])) (fun v hv => hb v (by simp [hv])), List.cons.injEq]
structure Lm (d : aD) : Prop where
 sz : N1 d.ids d.keys
 lv : ∀ k ∈ d.keys, ∀ v ∈ k, Lv v
theorem Q9 {a b : List (List ae)} (hn : a.length < 1000000000) (ha : ∀ k ∈ a, k.length < 1000000000 ∧ ∀ v ∈ k, Lv v) (hb : ∀ k ∈ b, ∀ v ∈ k, Lv v) :
  ∃ x, bq a b = some x ∧ (x = true ↔ a = b) := by
 unfold bq
 by_cases hl : a.length = b.length
 ·rw [show ((a.length : Int) != (b.length : Int)) = false by simp [hl], iF]
  rw [wV (L := aC a b) (n := a.length) (p := nq (fun x y => Ord.cmpL x y == 0) a b) hn
   (fun k => by rw [aC, rC, iF]; rfl)
   (fun k i hi => by
    have h2 : i < b.length := by omega
    have h3 := ha _ (List.getElem_mem hi)
    rw [aC, bc hi, iT, aN hi, bS, aN h2, bS, ar hi hn]
    unfold uq nq
    rw [L6 h3.2 (hb _ (List.getElem_mem h2)) h3.1, bS, bS, List.getElem?_eq_getElem hi, List.getElem?_eq_getElem h2])]
  exact ⟨_, rfl, Df hl fun x hx y hy => by rw [beq_iff_eq]; exact NK (ha x hx).2 (hb y hy)⟩
 ·rw [show ((a.length : Int) != (b.length : Int)) = true by simp; omega, iT]
  exact ⟨false, rfl, by simp; rintro rfl; exact hl rfl⟩
theorem Nt {a d : aD} (ha : Lm a) (hd : Lm d) : ∃ b, oN a d = some b ∧ (b = true ↔ a = d) := by
 obtain ⟨s1, i1, k1, q1⟩ := a
 obtain ⟨s2, i2, k2, q2⟩ := d
 unfold oN
 obtain ⟨x, x1, x2⟩ := PB (l := i1) (m := i2) ha.sz.nid
 obtain ⟨y, y1, y2⟩ := Q9 (a := k1) (b := k2) ha.sz.nkey (fun k hk => ⟨(ha.sz.key k hk).1, ha.lv k hk⟩) hd.lv
 rw [aD.mk.injEq]
 simp only [x1, y1, bS]
 by_cases h1 : s1 = s2
 ·rw [show (s1 == s2) = true by simp [h1], iT]
  by_cases h2 : q1 = q2
  ·rw [show (q1 == q2) = true by simp [h2], iT]
   cases x with
   | true => rw [iT]; exact ⟨y, rfl, by rw [y2]; simp [h1, h2, x2.1 rfl]⟩
   | false => rw [iF]; exact ⟨false, rfl, by simp; intro _ h; exact absurd (x2.2 h) (by simp)⟩
  ·rw [show (q1 == q2) = false by simp [h2], iF]; exact ⟨false, rfl, by simp [h2]⟩
 ·rw [show (s1 == s2) = false by simp [h1], iF]; exact ⟨false, rfl, by simp [h1]⟩
noncomputable def Ef (l : List aD) (q : Int) (l' : List aD) : Bool := @decide (∃ d ∈ l, q < d.seq ∧ d ∉ l') (Classical.propDecidable _)
theorem GH {l : List aD} {q : Int} {l' : List aD} : Ef l q l' = true ↔ ∃ d ∈ l, q < d.seq ∧ d ∉ l' := by
 unfold Ef; exact @decide_eq_true_iff _ (Classical.propDecidable _)
theorem LK {l' : List aD} (hn : l'.length < 1000000000) (hl : ∀ d ∈ l', Lm d) {d : aD} (hd : Lm d) :
  ∃ b, bA l' d.schema d.ids d.keys d.seq = some b ∧ (b = true ↔ d ∈ l') := by
 have hs : ∀ e ∈ l', ∃ b, oN d e = some b ∧ (b = true ↔ d = e) := fun e he => Nt hd (hl e he)
 unfold bA cq
 obtain ⟨r, r1, r2⟩ := FH (L := aQ l' d.schema d.ids d.keys d.seq) (n := l'.length) (p := fun j => match l'[j]? with | some e => (oN d e).getD false | none => false) hn
  (fun k => by rw [aQ, rC, iF]; rfl)
  (fun k i hi => by
   rw [aQ, bc hi, iT, aN hi, bS, ar hi hn]
   unfold oY
   obtain ⟨b, b1, b2⟩ := hs _ (List.getElem_mem hi)
   have he : (aD.mk d.schema d.ids d.keys d.seq) = d := rfl
   rw [he, b1, bS, bS, List.getElem?_eq_getElem hi]
   simp only [b1, Option.getD_some])
 rw [r1, bS, r2]
 refine ⟨_, rfl, ?_⟩
 rw [eE]
 constructor
 ·rintro ⟨j, hj, h⟩
  obtain ⟨b, b1, b2⟩ := hs _ (List.getElem_mem hj)
  rw [List.getElem?_eq_getElem hj] at h
  simp only [b1, Option.getD_some] at h
  rw [b2.1 h]; exact List.getElem_mem hj
 ·intro h
  obtain ⟨j, hj, e⟩ := List.mem_iff_getElem.1 h
  obtain ⟨b, b1, b2⟩ := hs _ (List.getElem_mem hj)
  refine ⟨j, hj, ?_⟩
  rw [List.getElem?_eq_getElem hj]
  simp only [b1, Option.getD_some]
  exact b2.2 e.symm
theorem JX {x y : aj} {f : ah} (hx : x.dby.length < 1000000000) (hy : y.dby.length < 1000000000) (lx : ∀ d ∈ x.dby, Lm d) (ly : ∀ d ∈ y.dby, Lm d) : pc x f y = some (Ef x.dby f.seq y.dby) := by
 unfold pc cm cy
 have hp : ∀ d ∈ x.dby, ∃ b, lD d f.name f.schema f.spec f.part f.rows f.seq f.stats y.id y.parent y.seq y.schema y.time y.kind y.files y.dat y.dby = some b ∧ (b = true ↔ f.seq < d.seq ∧ d ∉ y.dby) := by
  intro d hd
  unfold lD
  obtain ⟨b, b1, b2⟩ := LK hy ly (lx d hd)
  rw [b1, bS]
  by_cases h : f.seq < d.seq
  ·rw [decide_eq_true h, iT]; exact ⟨!b, rfl, by cases b <;> simp_all⟩
  ·rw [decide_eq_false h, iF]; exact ⟨false, rfl, by simp [h]⟩
 obtain ⟨r, r1, r2⟩ := FH (L := aR x.dby f.name f.schema f.spec f.part f.rows f.seq f.stats y.id y.parent y.seq y.schema y.time y.kind y.files y.dat y.dby) (n := x.dby.length)
  (p := fun j => match x.dby[j]? with | some d => (lD d f.name f.schema f.spec f.part f.rows f.seq f.stats y.id y.parent y.seq y.schema y.time y.kind y.files y.dat y.dby).getD false | none => false) hx
  (fun k => by rw [aR, rC, iF]; rfl)
  (fun k i hi => by
   rw [aR, bc hi, iT, aN hi, bS, ar hi hx]
   obtain ⟨b, b1, b2⟩ := hp _ (List.getElem_mem hi)
   rw [b1, bS, List.getElem?_eq_getElem hi]
   simp only [b1, Option.getD_some])
 rw [r1, bS, r2, bS]
 congr 1
 refine gn ?_
 rw [eE, GH]
 constructor
 ·rintro ⟨j, hj, h⟩
  obtain ⟨b, b1, b2⟩ := hp _ (List.getElem_mem hj)
  rw [List.getElem?_eq_getElem hj] at h
  simp only [b1, Option.getD_some] at h
  exact ⟨_, List.getElem_mem hj, b2.1 h⟩
 ·rintro ⟨d, hd, h⟩
  obtain ⟨j, hj, rfl⟩ := List.mem_iff_getElem.1 hd
  obtain ⟨b, b1, b2⟩ := hp _ hd
  refine ⟨j, hj, ?_⟩
  rw [List.getElem?_eq_getElem hj]
  simp only [b1, Option.getD_some]
  exact b2.2 h
end Go.Proofs.YtfnmbpecdjncfaaGreatDoor
namespace Go.Proofs.YtfnmbpecdjncfaaGreatDoor
open Go Go.SX Go.SX.Cal
noncomputable def Fm (x y : aj) (f g : ah) : Bool := (f.seq != g.seq) || (!decide (zw x.dat f.name = zw y.dat f.name) || (Ef x.dby f.seq y.dby || Ef y.dby g.seq x.dby))
def kd (y : aj) (fs : List ah) : List ByteArray := (fs.filter fun f => (mw y.files f.name).isNone).map (·.name)
noncomputable def vu (x y : aj) (fs : List ah) : List ByteArray := (fs.filter fun f => match mw y.files f.name with | some g => Fm x y f g | none => false).map (·.name)
structure KU (s : aj) : Prop where
 sz : HH s
 sort : Ab s.files
 dby : ∀ d ∈ s.dby, Lm d
theorem LY {m : ax} {s : aj} (hm : rl m) (hs : s ∈ m.snapshots) (h : R0 m s) : KU s :=
 ⟨hm.snaps.2 _ hs, h.sort, fun d hd => ⟨Ti (hm.snaps.2 _ hs) hd, (h.dby d hd).keys⟩⟩
theorem L8 (l : List ByteArray) : eF l = some l := by
 unfold eF
 rw [gP ⟨by omega, by omega, by omega, by omega⟩]
 simp
theorem KD {r2 r3 : aj × Bool} (hx : KU r2.1) (hy : KU r3.1) : ∀ (d k i : Nat) (l1 l2 : List ByteArray), i + d = r2.1.files.length → d < k → l1.length ≤ i → l2.length ≤ i →
  cY r2 r3 k l1 l2 (i : Int) = lg r2 r3 (l1 ++ vu r2.1 r3.1 (r2.1.files.drop i)) (l2 ++ kd r3.1 (r2.1.files.drop i)) := by
 have hn := hx.sz.files.1
 intro d
 induction d with
 | zero =>
  intro k i l1 l2 hi hk _ _
  obtain ⟨k, rfl⟩ := fu hk
  rw [cY, Bt (by omega), iF, List.drop_of_length_le (by omega)]
  simp [vu, kd]
 | succ d ih =>
  intro k i l1 l2 hi hk h1 h2
  obtain ⟨k, rfl⟩ := fu hk
  have hl : i < r2.1.files.length := by omega
  rw [cY, bc hl, iT, aN hl, bS, In hy.sort hy.sz.files.1, bS, re hl]
  unfold kZ
  have ha : ∀ (a b : List ByteArray), a.length ≤ i + 1 → b.length ≤ i + 1 → cY r2 r3 k a b (IntKind.i64.wrap ((i : Int) + 1)) = lg r2 r3 (a ++ vu r2.1 r3.1 (r2.1.files.drop (i + 1))) (b ++ kd r3.1 (r2.1.files.drop (i + 1))) := by
   intro a b h3 h4
   rw [ar hl hn]
   exact ih k (i + 1) a b (by omega) (by omega) h3 h4
  cases hf : mw r3.1.files r2.1.files[i].name with
  | none =>
   show al (!(false : Bool)) _ _ = _
   rw [Bool.not_false, iT, gP (by omega), ha _ _ (by omega) (by simp; omega)]
   unfold vu kd
   rw [List.filter_cons, List.filter_cons, hf]
   simp
  | some g =>
   show al (!(true : Bool)) _ _ = _
   rw [Bool.not_true, iF]
   have hj : ∀ b, b = Fm r2.1 r3.1 r2.1.files[i] g → jD (cY r2 r3 k) l1 l2 (i : Int) r2.1.files[i] b = lg r2 r3 (l1 ++ vu r2.1 r3.1 (r2.1.files[i] :: r2.1.files.drop (i + 1))) (l2 ++ kd r3.1 (r2.1.files[i] :: r2.1.files.drop (i + 1))) := by
    intro b hb
    unfold jD kZ
    have e1 : kd r3.1 (r2.1.files[i] :: r2.1.files.drop (i + 1)) = kd r3.1 (r2.1.files.drop (i + 1)) := by
     unfold kd; rw [List.filter_cons, hf]; rfl
    have e2 : vu r2.1 r3.1 (r2.1.files[i] :: r2.1.files.drop (i + 1)) = (if b = true then [r2.1.files[i].name] else []) ++ vu r2.1 r3.1 (r2.1.files.drop (i + 1)) := by
     unfold vu; rw [List.filter_cons]; simp only [hf, ← hb]; cases b <;> simp
    rw [e1, e2]
    cases b with
    | true => rw [iT, gP (by omega), ha _ _ (by simp; omega) (by omega)]; simp
    | false => rw [iF, ha _ _ (by omega) (by omega)]; simp
   have hr : Fm r2.1 r3.1 r2.1.files[i] g = Fm r2.1 r3.1 r2.1.files[i] g := rfl
   conv at hr => rhs; unfold Fm
   rw [PH hx.sz.dat.1, PH hy.sz.dat.1, bS, bS]
   obtain ⟨e, e1, e2⟩ := PB (m := zw r3.1.dat r2.1.files[i].name) (JF hx.sz r2.1.files[i].name)
   rw [e1, bS, JX hx.sz.dby.1 hy.sz.dby.1 hx.dby hy.dby, bS, JX hy.sz.dby.1 hx.sz.dby.1 hy.dby hx.dby, bS]
   have he : decide (zw r2.1.dat r2.1.files[i].name = zw r3.1.dat r2.1.files[i].name) = e := gn (by rw [decide_eq_true_iff, e2])
   rw [he] at hr
   show al (r2.1.files[i].seq != g.seq) _ _ = _
   cases hq : (r2.1.files[i].seq != g.seq) with
   | true => rw [hq] at hr; rw [iT]; exact hj true (by rw [hr]; rfl)
   | false =>
    rw [hq] at hr; rw [iF]
    cases e with
    | false => rw [Bool.not_false, iT]; exact hj true (by rw [hr]; rfl)
    | true =>
     rw [Bool.not_true, iF]
     cases ho : Ef r2.1.dby r2.1.files[i].seq r3.1.dby with
     | true => rw [ho] at hr; rw [iT]; exact hj true (by rw [hr]; rfl)
     | false => rw [ho] at hr; rw [iF]; exact hj _ (by rw [hr]; rfl)
theorem Kh {r2 r3 : aj × Bool} (hx : KU r2.1) (hy : KU r3.1) (a b : List ByteArray) : ∀ (d k i : Nat) (l : List ByteArray), i + d = r3.1.files.length → d < k → l.length ≤ i →
  gv r2 r3 a b k l (i : Int) = some (⟨b, l ++ kd r2.1 (r3.1.files.drop i), a⟩, 0) := by
 have hn := hy.sz.files.1
 intro d
 induction d with
 | zero =>
  intro k i l hi hk _
  obtain ⟨k, rfl⟩ := fu hk
  rw [gv, Bt (by omega), iF, List.drop_of_length_le (by omega)]
  unfold td
  rw [L8, L8, L8]
  simp [kd, bS]
 | succ d ih =>
  intro k i l hi hk h1
  obtain ⟨k, rfl⟩ := fu hk
  have hl : i < r3.1.files.length := by omega
  rw [gv, bc hl, iT, aN hl, bS, In hx.sort hx.sz.files.1, bS, re hl]
  unfold pM
  rw [ar hl hn]
  cases hf : mw r2.1.files r3.1.files[i].name with
  | none =>
   show al (!(false : Bool)) _ _ = _
   rw [Bool.not_false, iT, gP (by omega), ih k (i + 1) _ (by omega) (by omega) (by simp; omega)]
   unfold kd
   rw [List.filter_cons, hf]
   simp
  | some g =>
   show al (!(true : Bool)) _ _ = _
   rw [Bool.not_true, iF, ih k (i + 1) _ (by omega) (by omega) (by omega)]
   unfold kd
   rw [List.filter_cons, hf]
   simp
theorem L0 {m : ax} (hm : rl m) {a b : Int} {x y : aj} (hc : mG m = some 0) (ha : fp m a = some (x, true)) (hb : fp m b = some (y, true)) (hx : KU x) (hy : KU y) :
  m8 m a b = some (⟨kd y x.files, kd x y.files, vu x y x.files⟩, 0) := by
 unfold m8
 rw [hc, bS, bne_self_eq_false, iF, ha, bS, hb, bS]
 show al false _ _ = _
 rw [iF]
 unfold pV
 show al false _ _ = _
 rw [iF]
 have h1 := KD (r2 := (x, true)) (r3 := (y, true)) hx hy x.files.length aX 0 [] [] (Nat.zero_add _) (by rw [be]; have := hx.sz.files.1; omega) (Nat.zero_le _) (Nat.zero_le _)
 rw [show ((0 : Nat) : Int) = 0 from rfl, List.drop_zero] at h1
 rw [h1]
 unfold lg
 have h2 := Kh (r2 := (x, true)) (r3 := (y, true)) hx hy ([] ++ vu x y x.files) ([] ++ kd y x.files) y.files.length aX 0 [] (Nat.zero_add _) (by rw [be]; have := hy.sz.files.1; omega) (Nat.zero_le _)
 rw [show ((0 : Nat) : Int) = 0 from rfl, List.drop_zero] at h2
 rw [h2]
 simp
end Go.Proofs.YtfnmbpecdjncfaaGreatDoor
namespace Go.Proofs.YtfnmbpecdjncfaaGreatDoor
open Go Go.SX Go.SX.Cal
theorem ED : ∀ l : List ae, nW l = (l.map eP).sum
 | [] => by simp [nW]
 | x :: l => by simp [nW, ED l]
theorem SP (k n sc : Int) (s : ByteArray) (it : List ae) : eP ⟨k, n, sc, s, it⟩ ≤ s.size + (it.map eP).sum + 6 := by
 simp only [eP, ED]; omega
theorem Cm : ∀ l : List ac, eV l = (l.map tY).sum
 | [] => by simp [eV]
 | x :: l => by simp [eV, Cm l]
theorem Rk (k s : Int) (fs : List ac) : kr ⟨k, s, fs⟩ ≤ (fs.map tY).sum + 4 := by
 rw [ph, Cm]; simp only; omega
theorem Rn (i : Int) (n : ByteArray) (q : Bool) (t : ap) : tY ⟨i, n, q, t⟩ ≤ n.size + kr t + 4 := by
 rw [i0]; simp only; omega
def Rd (B : wg) (t : TypeId) {α : Type} (c : α → List PV) (X : α → Prop) : Prop := ∀ N N' : Nat, N' ≤ N → oX B Tryz.prog N' t c (fun x => N ≤ 1048576 → X x) (fun _ => 1)
theorem Rd.of {B : wg} {t : TypeId} {α : Type} {c c' : α → List PV} {wf : α → Prop} {s : α → Nat} {X : α → Prop} (h : ∀ N, oX B Tryz.prog N t c wf s) (hc : ∀ x, c' x = c x) (hX : ∀ x, wf x → s x ≤ 1048576 → X x) : Rd B t c' X := by
 intro N N' hN H enc w base spare held iO cs d ps hd hb
 obtain ⟨x, h1, h2, h3⟩ := h N' hd hb
 exact ⟨x, by rw [hc]; exact h1, fun hM => hX x h2 (by omega), B.one d⟩
theorem Uo {α : Type} (xs : List α) : (xs.map fun _ => (1 : Nat)).sum = xs.length := by
 induction xs with
 | nil => rfl
 | cons x l ih => rw [List.map_cons, List.sum_cons, ih, List.length_cons]; omega
theorem Rd.list {B : wg} {t e : TypeId} {α : Type} {c : α → List PV} {X : α → Prop} (n : Nat) (h : Rd B e c X) (ht : Tryz.prog.underlying t = some (.slice e)) (he : Tryz.prog.cellsOf e = n + 1) (hc : ∀ x, (c x).length = n + 1) :
  Rd B t (fun xs : List α => [.ro (xs.map c)]) (fun xs => xs.length < 1000000000 ∧ ∀ x ∈ xs, X x) := by
 intro N N' hN H enc w base spare held iO cs d ps hd hb
 obtain ⟨x, h1, h2, h3⟩ := oX.slice (B := B) (P := Tryz.prog) (N := N') (t := t) (e := e) (cells := c) ht (fun x => by rw [hc, he]) (by rw [he]; omega) (fun N'' h'' => h N N'' (by omega)) hd hb
 have h3 : (x.map fun _ => (1 : Nat)).sum + 1 ≤ B.f d := h3
 rw [Uo] at h3
 exact ⟨x, h1, fun hM => ⟨by omega, fun y hy => h2 y hy hM⟩, B.one d⟩
def RF (B : wg) (off : Nat) (fs : List Field) {α : Type} (c : α → List PV) (X : α → Prop) : Prop := ∀ N N' : Nat, N' ≤ N → zu B Tryz.prog N' off fs c (fun x => N ≤ 1048576 → X x) (fun _ => 0)
theorem RF.nil {B : wg} {off : Nat} : RF B off [] (fun _ : Unit => []) (fun _ => True) := fun N N' hN H enc w base spare held n cs xs hl h hb hc => by
 obtain ⟨x, h1, _, h3⟩ := zu.nil (B := B) (P := Tryz.prog) (N := N') hl h hb hc
 exact ⟨x, h1, fun _ => trivial, h3⟩
theorem RF.cons {B : wg} {off : Nat} {f : Field} {fs : List Field} {α β : Type} {c1 : α → List PV} {c2 : β → List PV} {X : α → Prop} {Y : β → Prop} (k n : Nat) (hk : f.type = k) (ho : f.offset = off) (hz : Tryz.prog.cellsOf k = n) (hc : ∀ x, (c1 x).length = n)
  (h : Rd B k c1 X) (r : RF B (off + n) fs c2 Y) : RF B off (f :: fs) (fun p : α × β => c1 p.1 ++ c2 p.2) (fun p => X p.1 ∧ Y p.2) := by
 subst hk; subst hz
 intro N N' hN H enc w base spare held m cs xs hl hx hb hc'
 obtain ⟨x, h1, h2, h3⟩ := zu.cons ho hc (h N N' hN) (r N N' hN) hl hx hb hc'
 exact ⟨x, h1, fun hM => ⟨h2.1 hM, h2.2 hM⟩, Nat.zero_le _⟩
theorem Rd.struct {B : wg} {t : TypeId} {α β : Type} {L : List Field} {c : β → List PV} {X : β → Prop} {c' : α → List PV} {Y : α → Prop} (h : RF B 0 L c X) (hu : jp Tryz.prog t = true) (hL : fieldsOf Tryz.prog t = L) (hz : Tryz.prog.cellsOf t = 0 + (L.map fun f => Tryz.prog.cellsOf f.type).sum)
  (mk : β → α) (h1 : ∀ y, c' (mk y) = c y) (h2 : ∀ y, X y → Y (mk y)) : Rd B t c' Y := fun N N' hN =>
 oX.structF (α := α) (cells := c') (wf' := fun x => N ≤ 1048576 → Y x) (size := fun _ => 1) hu hL hz (fun N'' h'' => h N N'' (by omega)) mk h1 (fun y hy hM => h2 y (hy hM)) (fun y => by omega)
variable {B : wg}
theorem rI : Rd B 3 (fun n : Int => [pi n]) (fun _ => True) := Rd.of (fun N => oX.int (k := .i64) (by kernel_rfl)) (fun _ => rfl) (fun _ _ _ => trivial)
theorem U2 : Rd B 4 (fun b : Bool => [.s (.bool b)]) (fun _ => True) := Rd.of (fun N => oX.bool (by kernel_rfl)) (fun _ => rfl) (fun _ _ _ => trivial)
theorem SO : Rd B 9 (fun s : ByteArray => [.s (.string s)]) (fun s => s.size < 10000000) := Rd.of (fun N => oX.str (by kernel_rfl)) (fun _ => rfl) (fun s _ h => by omega)
theorem rV : Rd B 114 FB (fun v => eP v < 1000000000) :=
 Rd.of (OQ (P := Tryz.prog) (wf := fun _ => True) (sz := eP) 114 3 9 54 (by kernel_rfl) (by kernel_rfl) (by kernel_rfl) (by kernel_rfl) (by kernel_rfl) ⟨by kernel_rfl, by kernel_rfl, by kernel_rfl, by kernel_rfl⟩ ⟨by kernel_rfl, by kernel_rfl, by kernel_rfl, by kernel_rfl, by kernel_rfl⟩ ⟨by kernel_rfl, by kernel_rfl, by kernel_rfl, by kernel_rfl, by kernel_rfl⟩ (fun _ _ _ _ _ _ _ _ _ => trivial) SP) (fun v => (congrFun EI v).symm) (fun v _ h => by omega)
theorem UW : Rd B 66 (fun fs : List ac => [.ro (af.els fs)]) (fun fs => eV fs < 1000000000 - 1) :=
 Rd.of (fun N => LA (P := Tryz.prog) (wfT := fun _ => True) (szT := kr) (wfF := fun _ => True) (szF := tY) (szL := eV) 68 70 3 9 4 66 (by kernel_rfl) (by kernel_rfl) (by kernel_rfl) (by kernel_rfl) (by kernel_rfl) (by kernel_rfl) (by kernel_rfl) (by kernel_rfl) ⟨by kernel_rfl, by kernel_rfl, by kernel_rfl, by kernel_rfl, by kernel_rfl⟩ (by kernel_rfl) ⟨by kernel_rfl, by kernel_rfl, by kernel_rfl, by kernel_rfl⟩ ⟨by kernel_rfl, by kernel_rfl, by kernel_rfl, by kernel_rfl⟩ ⟨by kernel_rfl, by kernel_rfl, by kernel_rfl⟩ ⟨by kernel_rfl, by kernel_rfl, by kernel_rfl⟩ (fun _ _ _ _ _ _ => trivial) Rn (fun _ _ _ _ _ _ => trivial) Rk (fun xs => by rw [Cm]; omega) N) (fun _ => rfl) (fun fs _ h => by omega)
theorem U5 : Rd B 73 (fun x : dq => [PV.ro (aM.els x.fields)]) (fun x => x.fields.length < 1000000000) :=
 Rd.of (fun N => QI (P := Tryz.prog) 73 71 111 109 3 (by kernel_rfl) (by kernel_rfl) (by kernel_rfl) ⟨by kernel_rfl, by kernel_rfl⟩ (by kernel_rfl) (by kernel_rfl) (by kernel_rfl) (by kernel_rfl) (by kernel_rfl) (by kernel_rfl) (by kernel_rfl) ⟨by kernel_rfl, by kernel_rfl, by kernel_rfl⟩ ⟨by kernel_rfl, by kernel_rfl, by kernel_rfl, by kernel_rfl⟩ ⟨by kernel_rfl, by kernel_rfl, by kernel_rfl, by kernel_rfl⟩ N) (fun _ => rfl) (fun x _ h => by omega)
theorem Us : Rd B 54 (fun xs : List ae => [PV.ro (am.els xs)]) (fun xs => xs.length < 1000000000 ∧ ∀ v ∈ xs, eP v < 1000000000) := by
 have h := Rd.list (B := B) (t := 54) (e := 114) 4 rV (by kernel_rfl) (by kernel_rfl) (fun x => rfl)
 have e : (fun xs : List ae => [PV.ro (am.els xs)]) = fun xs => [.ro (xs.map FB)] := by funext xs; rw [am.hels]; rfl
 rw [e]; exact h
theorem Rs : Rd B 145 H9 (fun x : eN => eP x.min < 1000000000 ∧ eP x.max < 1000000000) :=
 Rd.struct (L := [fj Tryz.prog 145 0, fj Tryz.prog 145 1, fj Tryz.prog 145 2, fj Tryz.prog 145 3]) (RF.cons 3 1 (by kernel_rfl) (by kernel_rfl) (by kernel_rfl) (fun x => rfl) rI (RF.cons 3 1 (by kernel_rfl) (by kernel_rfl) (by kernel_rfl) (fun x => rfl) rI (RF.cons 114 5 (by kernel_rfl) (by kernel_rfl) (by kernel_rfl) (fun x => rfl) rV (RF.cons 114 5 (by kernel_rfl) (by kernel_rfl) (by kernel_rfl) (fun x => rfl) rV RF.nil)))) (by kernel_rfl) (by kernel_rfl) (by kernel_rfl)
  (fun y => (⟨y.1, y.2.1, y.2.2.1, y.2.2.2.1⟩ : eN)) (fun y => rfl) (fun y h => ⟨h.2.2.1, h.2.2.2.1⟩)
theorem Ox : Rd B 55 (fun xs : List eN => [PV.ro (dJ.els xs)]) (fun xs => xs.length < 1000000000 ∧ ∀ x ∈ xs, eP x.min < 1000000000 ∧ eP x.max < 1000000000) := by
 have h := Rd.list (B := B) (t := 55) (e := 145) 11 Rs (by kernel_rfl) (by kernel_rfl) (fun x => rfl)
 have e : (fun xs : List eN => [PV.ro (dJ.els xs)]) = fun xs => [.ro (xs.map H9)] := by funext xs; rw [rn.hels]; rfl
 rw [e]; exact h
theorem SV : Rd B 57 Mo (fun x : ah => Lk x) :=
 Rd.struct (L := [fj Tryz.prog 57 0, fj Tryz.prog 57 1, fj Tryz.prog 57 2, fj Tryz.prog 57 3, fj Tryz.prog 57 4, fj Tryz.prog 57 5, fj Tryz.prog 57 6]) (RF.cons 9 1 (by kernel_rfl) (by kernel_rfl) (by kernel_rfl) (fun x => rfl) SO (RF.cons 3 1 (by kernel_rfl) (by kernel_rfl) (by kernel_rfl) (fun x => rfl) rI (RF.cons 3 1 (by kernel_rfl) (by kernel_rfl) (by kernel_rfl) (fun x => rfl) rI (RF.cons 54 1 (by kernel_rfl) (by kernel_rfl) (by kernel_rfl) (fun x => rfl) Us (RF.cons 3 1 (by kernel_rfl) (by kernel_rfl) (by kernel_rfl) (fun x => rfl) rI (RF.cons 3 1 (by kernel_rfl) (by kernel_rfl) (by kernel_rfl) (fun x => rfl) rI (RF.cons 55 1 (by kernel_rfl) (by kernel_rfl) (by kernel_rfl) (fun x => rfl) Ox RF.nil))))))) (by kernel_rfl) (by kernel_rfl) (by kernel_rfl)
  (fun y => (⟨y.1, y.2.1, y.2.2.1, y.2.2.2.1, y.2.2.2.2.1, y.2.2.2.2.2.1, y.2.2.2.2.2.2.1⟩ : ah)) (fun y => rfl) (fun y h => ⟨Nat.lt_trans h.1 (by decide), h.2.2.2.1, h.2.2.2.2.2.2.1⟩)
theorem PW : Rd B 47 (fun xs : List ah => [PV.ro (aF.els xs)]) (fun xs => xs.length < 1000000000 ∧ ∀ x ∈ xs, Lk x) := by
 have h := Rd.list (B := B) (t := 47) (e := 57) 6 SV (by kernel_rfl) (by kernel_rfl) (fun x => rfl)
 have e : (fun xs : List ah => [PV.ro (aF.els xs)]) = fun xs => [.ro (xs.map Mo)] := by funext xs; rw [rn.hels]; rfl
 rw [e]; exact h
theorem UK : Rd B 39 (fun xs : List Int => [PV.ro (eI.els xs)]) (fun xs => xs.length < 1000000000) :=
 Rd.of (fun N => Q4 (P := Tryz.prog) 39 3 (by kernel_rfl) (by kernel_rfl) (by kernel_rfl) N) (fun _ => rfl) (fun x _ h => by omega)
theorem Uf : Rd B 85 (fun x : eT => [PV.s (.string x.file), .ro (eI.els x.rows)]) (fun x : eT => x.rows.length < 1000000000) :=
 Rd.struct (L := [fj Tryz.prog 85 0, fj Tryz.prog 85 1]) (RF.cons 9 1 (by kernel_rfl) (by kernel_rfl) (by kernel_rfl) (fun x => rfl) SO (RF.cons 39 1 (by kernel_rfl) (by kernel_rfl) (by kernel_rfl) (fun x => rfl) UK RF.nil)) (by kernel_rfl) (by kernel_rfl) (by kernel_rfl)
  (fun y => (⟨y.1, y.2.1⟩ : eT)) (fun y => rfl) (fun y h => h.2.1)
theorem RU : Rd B 48 (fun xs : List eT => [PV.ro (cw.els xs)]) (fun xs => xs.length < 1000000000 ∧ ∀ x ∈ xs, x.rows.length < 1000000000) := by
 have h := Rd.list (B := B) (t := 48) (e := 85) 1 Uf (by kernel_rfl) (by kernel_rfl) (fun x => rfl)
 have e : (fun xs : List eT => [PV.ro (cw.els xs)]) = fun xs => [.ro (xs.map (fun x : eT => [PV.s (.string x.file), .ro (eI.els x.rows)]))] := by funext xs; rw [rn.hels]; rfl
 rw [e]; exact h
theorem RQ : Rd B 38 (fun xs : List (List ae) => [PV.ro ((eL am).els xs)]) (fun xs => xs.length < 1000000000 ∧ ∀ x ∈ xs, x.length < 1000000000 ∧ ∀ v ∈ x, eP v < 1000000000) := by
 have h := Rd.list (B := B) (t := 38) (e := 54) 0 Us (by kernel_rfl) (by kernel_rfl) (fun x => rfl)
 have e : (fun xs : List (List ae) => [PV.ro ((eL am).els xs)]) = fun xs => [.ro (xs.map (fun xs : List ae => [PV.ro (am.els xs)]))] := by funext xs; rw [rn.hels]; rfl
 rw [e]; exact h
theorem Ty : Rd B 88 (fun x : aD => [pi x.schema, PV.ro (eI.els x.ids), .ro ((eL am).els x.keys), pi x.seq]) (fun x : aD => x.ids.length < 1000000000 ∧ x.keys.length < 1000000000 ∧ ∀ k ∈ x.keys, k.length < 1000000000 ∧ ∀ v ∈ k, eP v < 1000000000) :=
 Rd.struct (L := [fj Tryz.prog 88 0, fj Tryz.prog 88 1, fj Tryz.prog 88 2, fj Tryz.prog 88 3]) (RF.cons 3 1 (by kernel_rfl) (by kernel_rfl) (by kernel_rfl) (fun x => rfl) rI (RF.cons 39 1 (by kernel_rfl) (by kernel_rfl) (by kernel_rfl) (fun x => rfl) UK (RF.cons 38 1 (by kernel_rfl) (by kernel_rfl) (by kernel_rfl) (fun x => rfl) RQ (RF.cons 3 1 (by kernel_rfl) (by kernel_rfl) (by kernel_rfl) (fun x => rfl) rI RF.nil)))) (by kernel_rfl) (by kernel_rfl) (by kernel_rfl)
  (fun y => (⟨y.1, y.2.1, y.2.2.1, y.2.2.2.1⟩ : aD)) (fun y => rfl) (fun y h => ⟨h.2.1, h.2.2.1⟩)
theorem Se : Rd B 49 (fun xs : List aD => [PV.ro (bp.els xs)]) (fun xs => xs.length < 1000000000 ∧ ∀ x ∈ xs, x.ids.length < 1000000000 ∧ x.keys.length < 1000000000 ∧ ∀ k ∈ x.keys, k.length < 1000000000 ∧ ∀ v ∈ k, eP v < 1000000000) := by
 have h := Rd.list (B := B) (t := 49) (e := 88) 3 Ty (by kernel_rfl) (by kernel_rfl) (fun x => rfl)
 have e : (fun xs : List aD => [PV.ro (bp.els xs)]) = fun xs => [.ro (xs.map (fun x : aD => [pi x.schema, PV.ro (eI.els x.ids), .ro ((eL am).els x.keys), pi x.seq]))] := by funext xs; rw [rn.hels]; rfl
 rw [e]; exact h
theorem RS : Rd B 51 MI (fun x : aj => HH x) :=
 Rd.struct (L := [fj Tryz.prog 51 0, fj Tryz.prog 51 1, fj Tryz.prog 51 2, fj Tryz.prog 51 3, fj Tryz.prog 51 4, fj Tryz.prog 51 5, fj Tryz.prog 51 6, fj Tryz.prog 51 7, fj Tryz.prog 51 8]) (RF.cons 3 1 (by kernel_rfl) (by kernel_rfl) (by kernel_rfl) (fun x => rfl) rI (RF.cons 3 1 (by kernel_rfl) (by kernel_rfl) (by kernel_rfl) (fun x => rfl) rI (RF.cons 3 1 (by kernel_rfl) (by kernel_rfl) (by kernel_rfl) (fun x => rfl) rI (RF.cons 3 1 (by kernel_rfl) (by kernel_rfl) (by kernel_rfl) (fun x => rfl) rI (RF.cons 3 1 (by kernel_rfl) (by kernel_rfl) (by kernel_rfl) (fun x => rfl) rI (RF.cons 3 1 (by kernel_rfl) (by kernel_rfl) (by kernel_rfl) (fun x => rfl) rI (RF.cons 47 1 (by kernel_rfl) (by kernel_rfl) (by kernel_rfl) (fun x => rfl) PW (RF.cons 48 1 (by kernel_rfl) (by kernel_rfl) (by kernel_rfl) (fun x => rfl) RU (RF.cons 49 1 (by kernel_rfl) (by kernel_rfl) (by kernel_rfl) (fun x => rfl) Se RF.nil))))))))) (by kernel_rfl) (by kernel_rfl) (by kernel_rfl)
  (fun y => (⟨y.1, y.2.1, y.2.2.1, y.2.2.2.1, y.2.2.2.2.1, y.2.2.2.2.2.1, y.2.2.2.2.2.2.1, y.2.2.2.2.2.2.2.1, y.2.2.2.2.2.2.2.2.1⟩ : aj)) (fun y => rfl) (fun y h => ⟨h.2.2.2.2.2.2.1, h.2.2.2.2.2.2.2.1, h.2.2.2.2.2.2.2.2.1⟩)
theorem QO : Rd B 24 (fun xs : List aj => [PV.ro (aW.els xs)]) (fun xs => xs.length < 1000000000 ∧ ∀ x ∈ xs, HH x) := by
 have h := Rd.list (B := B) (t := 24) (e := 51) 8 RS (by kernel_rfl) (by kernel_rfl) (fun x => rfl)
 have e : (fun xs : List aj => [PV.ro (aW.els xs)]) = fun xs => [.ro (xs.map MI)] := by funext xs; rw [rn.hels]; rfl
 rw [e]; exact h
theorem TM : Rd B 99 (fun x : kN => [PV.s (.string x.name), .s (.bool x.branch), pi x.snapshot]) (fun x : kN => x.name.size < 1000000000) :=
 Rd.struct (L := [fj Tryz.prog 99 0, fj Tryz.prog 99 1, fj Tryz.prog 99 2]) (RF.cons 9 1 (by kernel_rfl) (by kernel_rfl) (by kernel_rfl) (fun x => rfl) SO (RF.cons 4 1 (by kernel_rfl) (by kernel_rfl) (by kernel_rfl) (fun x => rfl) U2 (RF.cons 3 1 (by kernel_rfl) (by kernel_rfl) (by kernel_rfl) (fun x => rfl) rI RF.nil))) (by kernel_rfl) (by kernel_rfl) (by kernel_rfl)
  (fun y => (⟨y.1, y.2.1, y.2.2.1⟩ : kN)) (fun y => rfl) (fun y h => Nat.lt_trans h.1 (by decide))
theorem SF : Rd B 25 (fun xs : List kN => [PV.ro (nI.els xs)]) (fun xs => xs.length < 1000000000 ∧ ∀ x ∈ xs, x.name.size < 1000000000) := by
 have h := Rd.list (B := B) (t := 25) (e := 99) 2 TM (by kernel_rfl) (by kernel_rfl) (fun x => rfl)
 have e : (fun xs : List kN => [PV.ro (nI.els xs)]) = fun xs => [.ro (xs.map (fun x : kN => [PV.s (.string x.name), .s (.bool x.branch), pi x.snapshot]))] := by funext xs; rw [rn.hels]; rfl
 rw [e]; exact h
theorem RN : Rd B 102 (fun x : pp => [PV.s (.string x.name), .s (.string x.value)]) (fun x : pp => x.name.size < 1000000000 ∧ x.value.size < 100000000) :=
 Rd.struct (L := [fj Tryz.prog 102 0, fj Tryz.prog 102 1]) (RF.cons 9 1 (by kernel_rfl) (by kernel_rfl) (by kernel_rfl) (fun x => rfl) SO (RF.cons 9 1 (by kernel_rfl) (by kernel_rfl) (by kernel_rfl) (fun x => rfl) SO RF.nil)) (by kernel_rfl) (by kernel_rfl) (by kernel_rfl)
  (fun y => (⟨y.1, y.2.1⟩ : pp)) (fun y => rfl) (fun y h => ⟨Nat.lt_trans h.1 (by decide), Nat.lt_trans h.2.1 (by decide)⟩)
theorem PO : Rd B 26 (fun xs : List pp => [PV.ro (kU.els xs)]) (fun xs => xs.length < 1000000000 ∧ ∀ x ∈ xs, x.name.size < 1000000000 ∧ x.value.size < 100000000) := by
 have h := Rd.list (B := B) (t := 26) (e := 102) 1 RN (by kernel_rfl) (by kernel_rfl) (fun x => rfl)
 have e : (fun xs : List pp => [PV.ro (kU.els xs)]) = fun xs => [.ro (xs.map (fun x : pp => [PV.s (.string x.name), .s (.string x.value)]))] := by funext xs; rw [rn.hels]; rfl
 rw [e]; exact h
theorem Un : Rd B 22 (fun xs : List (List ac) => [PV.ro ((eL af).els xs)]) (fun xs => xs.length < 1000000000 ∧ ∀ x ∈ xs, eV x < 1000000000 - 1) := by
 have h := Rd.list (B := B) (t := 22) (e := 66) 0 UW (by kernel_rfl) (by kernel_rfl) (fun x => rfl)
 have e : (fun xs : List (List ac) => [PV.ro ((eL af).els xs)]) = fun xs => [.ro (xs.map (fun fs : List ac => [PV.ro (af.els fs)]))] := by funext xs; rw [rn.hels]; rfl
 rw [e]; exact h
theorem Tx : Rd B 23 (fun xs : List dq => [PV.ro (fR.els xs)]) (fun xs => xs.length < 1000000000 ∧ ∀ x ∈ xs, x.fields.length < 1000000000) := by
 have h := Rd.list (B := B) (t := 23) (e := 73) 0 U5 (by kernel_rfl) (by kernel_rfl) (fun x => rfl)
 have e : (fun xs : List dq => [PV.ro (fR.els xs)]) = fun xs => [.ro (xs.map (fun x : dq => [PV.ro (aM.els x.fields)]))] := by funext xs; rw [rn.hels]; rfl
 rw [e]; exact h
abbrev Pt (x : ax) : List PV := [.ro ((eL af).els x.schemas), .ro (fR.els x.specs), pi x.nextField, pi x.nextSeq, pi x.nextSnap, pi x.purges, .ro (aW.els x.snapshots), .ro (nI.els x.refs), .ro (kU.els x.props)]
theorem Pk : Rd B 28 Pt (fun x : ax => rl x) :=
 Rd.struct (L := [fj Tryz.prog 28 0, fj Tryz.prog 28 1, fj Tryz.prog 28 2, fj Tryz.prog 28 3, fj Tryz.prog 28 4, fj Tryz.prog 28 5, fj Tryz.prog 28 6, fj Tryz.prog 28 7, fj Tryz.prog 28 8]) (RF.cons 22 1 (by kernel_rfl) (by kernel_rfl) (by kernel_rfl) (fun x => rfl) Un (RF.cons 23 1 (by kernel_rfl) (by kernel_rfl) (by kernel_rfl) (fun x => rfl) Tx (RF.cons 3 1 (by kernel_rfl) (by kernel_rfl) (by kernel_rfl) (fun x => rfl) rI (RF.cons 3 1 (by kernel_rfl) (by kernel_rfl) (by kernel_rfl) (fun x => rfl) rI (RF.cons 3 1 (by kernel_rfl) (by kernel_rfl) (by kernel_rfl) (fun x => rfl) rI (RF.cons 3 1 (by kernel_rfl) (by kernel_rfl) (by kernel_rfl) (fun x => rfl) rI (RF.cons 24 1 (by kernel_rfl) (by kernel_rfl) (by kernel_rfl) (fun x => rfl) QO (RF.cons 25 1 (by kernel_rfl) (by kernel_rfl) (by kernel_rfl) (fun x => rfl) SF (RF.cons 26 1 (by kernel_rfl) (by kernel_rfl) (by kernel_rfl) (fun x => rfl) PO RF.nil))))))))) (by kernel_rfl) (by kernel_rfl) (by kernel_rfl)
  (fun y => (⟨y.1, y.2.1, y.2.2.1, y.2.2.2.1, y.2.2.2.2.1, y.2.2.2.2.2.1, y.2.2.2.2.2.2.1, y.2.2.2.2.2.2.2.1, y.2.2.2.2.2.2.2.2.1⟩ : ax)) (fun y => rfl) (fun y h => ⟨h.1, h.2.1, h.2.2.2.2.2.2.1, h.2.2.2.2.2.2.2.1, h.2.2.2.2.2.2.2.2.1⟩)
noncomputable def Sn (m : ax) : Nat := @ite _ (rl m) (Classical.propDecidable _) 1 1048577
theorem Q6 {m : ax} (h : Sn m ≤ 1048576) : rl m := by
 unfold Sn at h
 split at h
 ·assumption
 ·omega
theorem QZ (N : Nat) : oX B Tryz.prog N 28 Pt (fun _ => True) Sn := by
 intro H enc w base spare held iO cs d ps hd hb
 by_cases hs : B.f d ≤ 1048576
 ·obtain ⟨x, h1, h2, _⟩ := Pk 1048576 (B.f d) hs hd (Nat.le_refl _)
  refine ⟨x, h1, trivial, ?_⟩
  unfold Sn
  rw [if_pos (h2 (Nat.le_refl _))]
  exact B.one d
 ·obtain ⟨x, h1, _, _⟩ := Pk N N (Nat.le_refl _) hd hb
  refine ⟨x, h1, trivial, ?_⟩
  unfold Sn
  split <;> omega
end Go.Proofs.YtfnmbpecdjncfaaGreatDoor
namespace Go.Proofs.YtfnmbpecdjncfaaGreatDoor
open Go Go.SX Go.SX.Cal
theorem Pw {l m : List Int} (hn : l.length < 1000000000) : ∃ b, pr l m = some b ∧ (b = true ↔ l = m) := by
 unfold pr
 by_cases hl : l.length = m.length
 ·rw [show ((l.length : Int) != (m.length : Int)) = false by simp [hl], iF]
  rw [wV (L := i9 l m) (n := l.length) (p := nq (fun a b => a == b) l m) hn
   (fun k => by rw [i9, rC, iF]; rfl)
   (fun k i hi => by
    have h2 : i < m.length := by omega
    rw [i9, bc hi, iT, aN hi, bS, aN h2, bS, ar hi hn]
    unfold nq
    rw [List.getElem?_eq_getElem hi, List.getElem?_eq_getElem h2]
    rfl)]
  exact ⟨_, rfl, Df hl fun x _ y _ => by simp⟩
 ·rw [show ((l.length : Int) != (m.length : Int)) = true by simp; omega, iT]
  exact ⟨false, rfl, by simp; rintro rfl; exact hl rfl⟩
theorem Pm {s : aj} (hn : s.dat.length < 1000000000) (n : ByteArray) : yV s n = some (zw s.dat n) := by
 have key : ∀ (d k i : Nat), i + d = s.dat.length → d < k → nf s n k (i : Int) = some (zw (s.dat.drop i) n) := by
  intro d
  induction d with
  | zero =>
   intro k i hi hk
   obtain ⟨k, rfl⟩ := fu hk
   rw [nf, Bt (by omega), iF, List.drop_of_length_le (by omega)]; rfl
  | succ d ih =>
   intro k i hi hk
   obtain ⟨k, rfl⟩ := fu hk
   have h1 : i < s.dat.length := by omega
   rw [nf, bc h1, iT, aN h1, bS, F3, re h1, ar h1 hn]
   unfold zw
   rw [List.find?_cons]
   cases hb : decide (s.dat[i].file = n) with
   | true => rfl
   | false => rw [iF]; exact ih k (i + 1) (by omega) (by omega)
 have := key s.dat.length aX 0 (by omega) (by rw [be]; omega)
 rw [List.drop_zero] at this
 exact this
theorem Ms {a d : aD} (ha : Lm a) (hd : Lm d) : ∃ b, vM a d = some b ∧ (b = true ↔ a = d) := by
 obtain ⟨s1, i1, k1, q1⟩ := a
 obtain ⟨s2, i2, k2, q2⟩ := d
 unfold vM
 obtain ⟨x, x1, x2⟩ := Pw (l := i1) (m := i2) ha.sz.nid
 have hn : k1.length < 1000000000 := ha.sz.nkey
 rw [aD.mk.injEq]
 simp only [x1, bS]
 have hT : kD ⟨s1, i1, k1, q1⟩ ⟨s2, i2, k2, q2⟩ true = some false := rfl
 by_cases h1 : s1 = s2
 ·rw [show (s1 != s2) = false by simp [h1], iF]
  by_cases h2 : q1 = q2
  ·rw [show (q1 != q2) = false by simp [h2], iF]
   cases x with
   | false => rw [Bool.not_false, iT, hT]; exact ⟨false, rfl, by simp; intro _ h; exact absurd (x2.2 h) (by simp)⟩
   | true =>
    rw [Bool.not_true, iF]
    by_cases hl : k1.length = k2.length
    ·rw [show ((k1.length : Int) != (k2.length : Int)) = false by simp [hl]]
     unfold kD
     rw [iF]
     rw [wV (L := kG ⟨s1, i1, k1, q1⟩ ⟨s2, i2, k2, q2⟩) (n := k1.length) (p := nq (fun x y => Ord.cmpL x y == 0) k1 k2) hn
      (fun k => by
       rw [kG]
       show al (decide ((k1.length : Int) < (k1.length : Int))) _ _ = _
       rw [rC, iF]; rfl)
      (fun k i hi => by
       have h2 : i < k2.length := by omega
       have h3 := ha.lv _ (List.getElem_mem hi)
       have h4 := (ha.sz.key _ (List.getElem_mem hi)).1
       rw [kG]
       show al (decide ((i : Int) < (k1.length : Int))) (aw (at? k1 (i : Int)) fun e1 => aw (at? k2 (i : Int)) _) _ = _
       rw [bc hi, iT, aN hi, bS, aN h2, bS, Nh h3 (hd.lv _ (List.getElem_mem h2)) h4, bS, ar hi hn]
       unfold nq
       rw [List.getElem?_eq_getElem hi, List.getElem?_eq_getElem h2]
       rfl)]
     refine ⟨_, rfl, ?_⟩
     rw [Df hl fun x hx y hy => by rw [beq_iff_eq]; exact NK (ha.lv x hx) (hd.lv y hy)]
     simp [h1, h2, x2.1 rfl]
    ·rw [show ((k1.length : Int) != (k2.length : Int)) = true by simp; omega, hT]
     exact ⟨false, rfl, by simp; rintro _ _ rfl; exact absurd rfl hl⟩
  ·rw [show (q1 != q2) = true by simp [h2], iT, hT]; exact ⟨false, rfl, by simp [h2]⟩
 ·rw [show (s1 != s2) = true by simp [h1], iT, hT]; exact ⟨false, rfl, by simp [h1]⟩
theorem Jd {x y : aj} {f : ah} (hx : x.dby.length < 1000000000) (hy : y.dby.length < 1000000000) (lx : ∀ d ∈ x.dby, Lm d) (ly : ∀ d ∈ y.dby, Lm d) : uS x y f = some (Ef x.dby f.seq y.dby) := by
 have inner : ∀ (rec1 : Int → Option Bool) (x1 : Int) (e : aD), Lm e → ∃ b, (b = true ↔ e ∈ y.dby) ∧ ic rec1 y f x1 e aX false (0 : Int) = pH rec1 f x1 e b := by
  intro rec1 x1 e he
  have key : ∀ (d k i : Nat) (b : Bool), i + d = y.dby.length → d < k → ∃ b', (b' = true ↔ b = true ∨ e ∈ y.dby.drop i) ∧ ic rec1 y f x1 e k b (i : Int) = pH rec1 f x1 e b' := by
   intro d
   induction d with
   | zero =>
    intro k i b hi hk
    obtain ⟨k, rfl⟩ := fu hk
    rw [ic, Bt (by omega), iF, List.drop_of_length_le (by omega)]
    exact ⟨b, by simp, rfl⟩
   | succ d ih =>
    intro k i b hi hk
    obtain ⟨k, rfl⟩ := fu hk
    have h1 : i < y.dby.length := by omega
    obtain ⟨c, c1, c2⟩ := Ms he (ly _ (List.getElem_mem h1))
    rw [ic, bc h1, iT, aN h1, bS, c1, bS, re h1]
    unfold sj
    rw [ar h1 hy]
    cases b with
    | true =>
     obtain ⟨b', b1, b2⟩ := ih k (i + 1) true (by omega) (by omega)
     rw [iT, b2]
     exact ⟨b', by rw [b1]; simp, rfl⟩
    | false =>
     obtain ⟨b', b1, b2⟩ := ih k (i + 1) c (by omega) (by omega)
     rw [iF, b2]
     exact ⟨b', by rw [b1, c2, List.mem_cons]; simp, rfl⟩
  obtain ⟨b, b1, b2⟩ := key y.dby.length aX 0 false (by omega) (by rw [be]; omega)
  exact ⟨b, by rw [b1]; simp, b2⟩
 unfold uS
 rw [ux (L := fy x y f) (n := x.dby.length) (e := some true) (fin := some false) (p := fun j => match x.dby[j]? with | some d => decide (f.seq < d.seq) && @decide (d ∉ y.dby) (Classical.propDecidable _) | none => false) hx
  (fun k => by rw [fy, rC, iF]; rfl)
  (fun k i hi => by
   obtain ⟨b, b1, b2⟩ := inner (fy x y f k) (i : Int) x.dby[i] (lx _ (List.getElem_mem hi))
   rw [fy, bc hi, iT, aN hi, bS, b2]
   unfold pH sq
   rw [ar hi hx, List.getElem?_eq_getElem hi]
   have hb : @decide (x.dby[i] ∉ y.dby) (Classical.propDecidable _) = !b := by
    refine gn ((@decide_eq_true_iff _ (Classical.propDecidable _)).trans ?_)
    rw [Bool.not_eq_true', ← Bool.not_eq_true, b1]
   simp only [hb]
   cases decide (f.seq < x.dby[i].seq) with
   | true => rw [iT, Bool.true_and]
   | false => rw [iF, Bool.false_and])]
 have : nY (fun j => match x.dby[j]? with | some d => decide (f.seq < d.seq) && @decide (d ∉ y.dby) (Classical.propDecidable _) | none => false) x.dby.length = Ef x.dby f.seq y.dby := by
  refine gn ?_
  rw [eE, GH]
  constructor
  ·rintro ⟨j, hj, h⟩
   rw [List.getElem?_eq_getElem hj] at h
   simp only [Bool.and_eq_true, decide_eq_true_eq] at h
   exact ⟨_, List.getElem_mem hj, h.1, h.2⟩
  ·rintro ⟨d, hd, h1, h2⟩
   obtain ⟨j, hj, rfl⟩ := List.mem_iff_getElem.1 hd
   refine ⟨j, hj, ?_⟩
   rw [List.getElem?_eq_getElem hj]
   simp only [Bool.and_eq_true, decide_eq_true_eq]
   exact ⟨h1, h2⟩
 rw [this]
 cases Ef x.dby f.seq y.dby <;> rfl
theorem H0 {r2 r3 : aj × Bool} (hx : KU r2.1) (hy : KU r3.1) : ∀ (d k i : Nat) (l1 l2 : List ByteArray), i + d = r2.1.files.length → d < k → l1.length ≤ i → l2.length ≤ i →
  dc r2 r3 k l1 l2 (i : Int) = mB r2 r3 (l1 ++ vu r2.1 r3.1 (r2.1.files.drop i)) (l2 ++ kd r3.1 (r2.1.files.drop i)) := by
 have hn := hx.sz.files.1
 intro d
 induction d with
 | zero =>
  intro k i l1 l2 hi hk _ _
  obtain ⟨k, rfl⟩ := fu hk
  rw [dc, Bt (by omega), iF, List.drop_of_length_le (by omega)]
  simp [vu, kd]
 | succ d ih =>
  intro k i l1 l2 hi hk h1 h2
  obtain ⟨k, rfl⟩ := fu hk
  have hl : i < r2.1.files.length := by omega
  rw [dc, bc hl, iT, aN hl, bS, zn hy.sz.files.1, bS, re hl]
  unfold md
  have ha : ∀ (a b : List ByteArray), a.length ≤ i + 1 → b.length ≤ i + 1 → dc r2 r3 k a b (IntKind.i64.wrap ((i : Int) + 1)) = mB r2 r3 (a ++ vu r2.1 r3.1 (r2.1.files.drop (i + 1))) (b ++ kd r3.1 (r2.1.files.drop (i + 1))) := by
   intro a b h3 h4
   rw [ar hl hn]
   exact ih k (i + 1) a b (by omega) (by omega) h3 h4
  cases hf : mw r3.1.files r2.1.files[i].name with
  | none =>
   show al (!(false : Bool)) _ _ = _
   rw [Bool.not_false, iT, gP (by omega), ha _ _ (by omega) (by simp; omega)]
   unfold vu kd
   rw [List.filter_cons, List.filter_cons, hf]
   simp
  | some g =>
   show al (!(true : Bool)) _ _ = _
   rw [Bool.not_true, iF]
   have hj : ∀ b, b = Fm r2.1 r3.1 r2.1.files[i] g → ku (dc r2 r3 k) l1 l2 (i : Int) r2.1.files[i] b = mB r2 r3 (l1 ++ vu r2.1 r3.1 (r2.1.files[i] :: r2.1.files.drop (i + 1))) (l2 ++ kd r3.1 (r2.1.files[i] :: r2.1.files.drop (i + 1))) := by
    intro b hb
    unfold ku md
    have e1 : kd r3.1 (r2.1.files[i] :: r2.1.files.drop (i + 1)) = kd r3.1 (r2.1.files.drop (i + 1)) := by
     unfold kd; rw [List.filter_cons, hf]; rfl
    have e2 : vu r2.1 r3.1 (r2.1.files[i] :: r2.1.files.drop (i + 1)) = (if b = true then [r2.1.files[i].name] else []) ++ vu r2.1 r3.1 (r2.1.files.drop (i + 1)) := by
     unfold vu; rw [List.filter_cons]; simp only [hf, ← hb]; cases b <;> simp
    rw [e1, e2]
    cases b with
    | true => rw [iT, gP (by omega), ha _ _ (by simp; omega) (by omega)]; simp
    | false => rw [iF, ha _ _ (by omega) (by omega)]; simp
   have hr : Fm r2.1 r3.1 r2.1.files[i] g = Fm r2.1 r3.1 r2.1.files[i] g := rfl
   conv at hr => rhs; unfold Fm
   rw [Pm hx.sz.dat.1, Pm hy.sz.dat.1, bS, bS]
   obtain ⟨e, e1, e2⟩ := Pw (m := zw r3.1.dat r2.1.files[i].name) (JF hx.sz r2.1.files[i].name)
   rw [e1, bS, Jd hx.sz.dby.1 hy.sz.dby.1 hx.dby hy.dby, bS, Jd hy.sz.dby.1 hx.sz.dby.1 hy.dby hx.dby, bS]
   have he : decide (zw r2.1.dat r2.1.files[i].name = zw r3.1.dat r2.1.files[i].name) = e := gn (by rw [decide_eq_true_iff, e2])
   rw [he] at hr
   show al (r2.1.files[i].seq != g.seq) _ _ = _
   cases hq : (r2.1.files[i].seq != g.seq) with
   | true => rw [hq] at hr; rw [iT]; exact hj true (by rw [hr]; rfl)
   | false =>
    rw [hq] at hr; rw [iF]
    cases e with
    | false => rw [Bool.not_false, iT]; exact hj true (by rw [hr]; rfl)
    | true =>
     rw [Bool.not_true, iF]
     cases ho : Ef r2.1.dby r2.1.files[i].seq r3.1.dby with
     | true => rw [ho] at hr; rw [iT]; exact hj true (by rw [hr]; rfl)
     | false => rw [ho] at hr; rw [iF]; exact hj _ (by rw [hr]; rfl)
theorem HN {r2 r3 : aj × Bool} (hx : KU r2.1) (hy : KU r3.1) (a b : List ByteArray) : ∀ (d k i : Nat) (l : List ByteArray), i + d = r3.1.files.length → d < k → l.length ≤ i →
  iw r2 r3 a b k l (i : Int) = some (⟨b, l ++ kd r2.1 (r3.1.files.drop i), a⟩, 0) := by
 have hn := hy.sz.files.1
 intro d
 induction d with
 | zero =>
  intro k i l hi hk _
  obtain ⟨k, rfl⟩ := fu hk
  rw [iw, Bt (by omega), iF, List.drop_of_length_le (by omega)]
  unfold uy
  simp [kd]
 | succ d ih =>
  intro k i l hi hk h1
  obtain ⟨k, rfl⟩ := fu hk
  have hl : i < r3.1.files.length := by omega
  rw [iw, bc hl, iT, aN hl, bS, zn hx.sz.files.1, bS, re hl]
  unfold rj
  rw [ar hl hn]
  cases hf : mw r2.1.files r3.1.files[i].name with
  | none =>
   show al (!(false : Bool)) _ _ = _
   rw [Bool.not_false, iT, gP (by omega), ih k (i + 1) _ (by omega) (by omega) (by simp; omega)]
   unfold kd
   rw [List.filter_cons, hf]
   simp
  | some g =>
   show al (!(true : Bool)) _ _ = _
   rw [Bool.not_true, iF, ih k (i + 1) _ (by omega) (by omega) (by omega)]
   unfold kd
   rw [List.filter_cons, hf]
   simp
theorem Ig {x y : aj} (hx : KU x) (hy : KU y) : dc (x, true) (y, true) aX [] [] (0 : Int) = some (⟨kd y x.files, kd x y.files, vu x y x.files⟩, 0) := by
 have h1 := H0 (r2 := (x, true)) (r3 := (y, true)) hx hy x.files.length aX 0 [] [] (Nat.zero_add _) (by rw [be]; have := hx.sz.files.1; omega) (Nat.zero_le _) (Nat.zero_le _)
 rw [show ((0 : Nat) : Int) = 0 from rfl, List.drop_zero] at h1
 rw [h1]
 unfold mB
 have h2 := HN (r2 := (x, true)) (r3 := (y, true)) hx hy ([] ++ vu x y x.files) ([] ++ kd y x.files) y.files.length aX 0 [] (Nat.zero_add _) (by rw [be]; have := hy.sz.files.1; omega) (Nat.zero_le _)
 rw [show ((0 : Nat) : Int) = 0 from rfl, List.drop_zero] at h2
 rw [h2]
 simp
theorem Eu {m : ax} (hm : rl m) (ho : ∀ s ∈ m.snapshots, 1 ≤ s.id) (id : Int) : ∃ s b, fp m id = some (s, b) ∧ qn m id = some (s, b) ∧ (b = true → s ∈ m.snapshots) := by
 have hn := hm.snaps.1
 have key : ∀ (d k k' i : Nat), i + d = m.snapshots.length → d < k → d < k' →
   (∃ (j : Nat) (hj : j < m.snapshots.length), ak m.snapshots id k (i : Int) = some (j : Int) ∧ eJ m id k' (i : Int) = some (m.snapshots[j], true)) ∨
   (ak m.snapshots id k (i : Int) = some (-1) ∧ eJ m id k' (i : Int) = some (⟨0, 0, 0, 0, 0, 0, [], [], []⟩, false)) := by
  intro d
  induction d with
  | zero =>
   intro k k' i hi hk hk'
   obtain ⟨k, rfl⟩ := fu hk
   obtain ⟨k', rfl⟩ := fu hk'
   rw [ak, eJ, Bt (by omega), iF, iF]
   exact .inr ⟨rfl, rfl⟩
  | succ d ih =>
   intro k k' i hi hk hk'
   obtain ⟨k, rfl⟩ := fu hk
   obtain ⟨k', rfl⟩ := fu hk'
   have h1 : i < m.snapshots.length := by omega
   have hid := ho _ (List.getElem_mem h1)
   rw [ak, eJ, bc h1, iT, iT, aN h1, bS, bS, m7, bS, ar h1 hn]
   unfold qV
   rw [ar h1 hn]
   cases he : (m.snapshots[i].id == id) with
   | true =>
    have e : m.snapshots[i].id = id := by simpa using he
    rw [iT, iT, decide_eq_true (show (0 : Int) < id by omega), iT]
    exact .inl ⟨i, h1, rfl, rfl⟩
   | false =>
    rw [iF, iF, iF]
    exact ih k k' (i + 1) (by omega) (by omega) (by omega)
 unfold fp bK qn
 rcases key m.snapshots.length aX aX 0 (by omega) (by rw [be]; omega) (by rw [be]; omega) with ⟨j, hj, a, b⟩ | ⟨a, b⟩
 ·have a : ak m.snapshots id aX (0 : Int) = _ := a
  have b : eJ m id aX (0 : Int) = _ := b
  rw [a, b, bS, decide_eq_false (show ¬ (j : Int) < 0 by omega), iF, aN hj, bS]
  exact ⟨_, _, rfl, rfl, fun _ => List.getElem_mem hj⟩
 ·have a : ak m.snapshots id aX (0 : Int) = _ := a
  have b : eJ m id aX (0 : Int) = _ := b
  rw [a, b, bS]
  exact ⟨_, _, rfl, rfl, fun h => by cases h⟩
theorem Ix {m : ax} (hm : rl m) : ∃ e, mG m = some e ∧ un m = some e ∧ (e = 0 → Fl m = 0) := by
 obtain ⟨e, h1, h2⟩ := KZ hm
 obtain ⟨e', k1, k2⟩ := O9 hm
 rw [h1] at k1
 cases k1
 exact ⟨e, h1, h2, k2⟩
theorem HB (y : aj) {fs : List ah} (h : fs.length < 1000000000) : (kd y fs).length < 1000000000 := by
 have := List.length_filter_le (fun f => (mw y.files f.name).isNone) fs
 unfold kd
 rw [List.length_map]; omega
theorem N6 (x y : aj) {fs : List ah} (h : fs.length < 1000000000) : (vu x y fs).length < 1000000000 := by
 unfold vu
 rw [List.length_map]
 exact Nat.lt_of_le_of_lt (List.length_filter_le _ fs) h
theorem Gd {m : ax} (hm : rl m) (a b : Int) : ∃ r, m8 m a b = some r ∧ qm m a b = some r ∧ r.1.gone.length < 1000000000 ∧ r.1.new.length < 1000000000 ∧ r.1.touched.length < 1000000000 := by
 obtain ⟨e, e1, e1r, e2⟩ := Ix hm
 have hz : ([] : List ByteArray).length < 1000000000 := by simp
 by_cases he : e = 0
 ·subst he
  have hall := e2 rfl
  have hok := TS hm hall
  obtain ⟨x, bx, x1, x1r, x2⟩ := Eu hm (fun s hs => (hok s hs).1) a
  obtain ⟨y, by', y1, y1r, y2⟩ := Eu hm (fun s hs => (hok s hs).1) b
  cases hb : (bx && by') with
  | false =>
   refine ⟨(⟨[], [], []⟩, 9), ?_, ?_, hz, hz, hz⟩
   ·unfold m8
    rw [e1, bS, bne_self_eq_false, iF, x1, bS, y1, bS]
    cases bx with
    | false => rfl
    | true => rw [Bool.true_and] at hb; subst hb; rfl
   ·unfold qm
    rw [e1r, bS, bne_self_eq_false, iF, x1r, bS, y1r, bS]
    cases bx with
    | false => rfl
    | true => rw [Bool.true_and] at hb; subst hb; rfl
  | true =>
   rw [Bool.and_eq_true] at hb
   obtain ⟨rfl, rfl⟩ := hb
   have dx := LY hm (x2 rfl) (hok x (x2 rfl)).2
   have dy := LY hm (y2 rfl) (hok y (y2 rfl)).2
   refine ⟨_, L0 hm e1 x1 y1 dx dy, ?_, HB y dx.sz.files.1, HB x dy.sz.files.1, N6 x y dx.sz.files.1⟩
   unfold qm
   rw [e1r, bS, bne_self_eq_false, iF, x1r, bS]
   show al false _ _ = _
   rw [iF, y1r, bS]
   show al false _ _ = _
   rw [iF, Ig dx dy]
 ·refine ⟨(⟨[], [], []⟩, e), ?_, ?_, hz, hz, hz⟩
  ·unfold m8
   rw [e1, bS, show (e != 0) = true by simp [he], iT]
  ·unfold qm
   rw [e1r, bS, show (e != 0) = true by simp [he], iT]
theorem Ic {m : ax} (hm : rl m) (a b : Int) : jS m a b = some true := by
 obtain ⟨r, r1, r2, h1, h2, h3⟩ := Gd hm a b
 unfold jS
 rw [r1, r2, F7, bS, bS, bS, iT, beq_self_eq_true, iT, Ae _ h1, bS, iT, Ae _ h2, bS, iT, Ae _ h3, bS]
 rfl
end Go.Proofs.YtfnmbpecdjncfaaGreatDoor
