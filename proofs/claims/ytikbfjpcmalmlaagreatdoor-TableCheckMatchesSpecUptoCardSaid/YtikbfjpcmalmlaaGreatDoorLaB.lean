/- Files with one name: both sides find whether they differ. Files with one name in different snapshots: both sides find the same error. References, properties, limits, schemas: both sides find the same error. Schemas, specs; Check of both sides; the law. A table, read from a row. The contract of the law. The row of the law, and a world in which it can be called. -/
import Derived.Test.YtikbfjpcmalmlaaGreatDoorProg
import Derived.Test.YtikbfjpcmalmlaaGreatDoorRows
import Derived.Test.YtikbfjpcmalmlaaGreatDoorCards
import Derived.Test.YtikbfjpcmalmlaaGreatDoorTie
import Derived.JoinedOf
import Derived.Handed
import Derived.OpenShut
import Derived.Deep.DeepHandedRow
import Derived.Lib.LaidU8T
import Derived.PinnedBridge
import Derived.Lay
import Derived.LaidMore
import Derived.SevenTiedAt
import Derived.Stop.Joined
import Derived.Test.YtikbfjpcmalmlaaGreatDoorLaA
set_option linter.unusedVariables false
set_option linter.unusedSimpArgs false
set_option linter.unnecessarySimpa false
namespace Go.Proofs.YtikbfjpcmalmlaaGreatDoor
open Go Go.SX Go.SX.Cal
theorem CC {R : Type} {e fin : Option R} {n : Nat} {L : Nat → Int → Option R} {p : Nat → Bool} (h0 : ∀ k, L (k + 1) (n : Int) = fin) (h1 : ∀ k i, i < n → L (k + 1) (i : Int) = al (p i) e (L k ((i + 1 : Nat) : Int))) :
  ∀ m k i, i + m = n → m < k → ∃ b, L k (i : Int) = al b e fin ∧ (b = true ↔ ∃ j, i ≤ j ∧ j < n ∧ p j = true)
 | 0, k, i, hi, hk => by
  obtain ⟨k, rfl⟩ := fu hk
  have : i = n := by omega
  subst this
  exact ⟨false, h0 k, by simp; intro j h1 h2; omega⟩
 | m + 1, k, i, hi, hk => by
  obtain ⟨k, rfl⟩ := fu hk
  rw [h1 k i (by omega)]
  cases hp : p i with
  | true => exact ⟨true, rfl, by simp; exact ⟨i, Nat.le_refl _, by omega, hp⟩⟩
  | false =>
   obtain ⟨b, e1, e2⟩ := CC h0 h1 m k (i + 1) (by omega) (by omega)
   refine ⟨b, e1, e2.trans ⟨fun ⟨j, a, b, c⟩ => ⟨j, by omega, b, c⟩, fun ⟨j, a, b, c⟩ => ⟨j, ?_, b, c⟩⟩⟩
   by_cases e : j = i
   ·subst e; rw [hp] at c; cases c
   ·omega
theorem tU {R : Type} {e fin : Option R} {n : Nat} {L : Nat → Int → Option R} {p : Nat → Bool} (hn : n < 1000000000) (h0 : ∀ k, L (k + 1) (n : Int) = fin) (h1 : ∀ k i, i < n → L (k + 1) (i : Int) = al (p i) e (L k ((i + 1 : Nat) : Int))) :
  L aY (0 : Int) = al (mT p n) e fin := by
 obtain ⟨b, e1, e2⟩ := CC h0 h1 n aY 0 (by omega) (by rw [bc]; omega)
 have : b = mT p n := jl (e2.trans (Iff.trans ⟨fun ⟨j, _, b, c⟩ => ⟨j, b, c⟩, fun ⟨j, b, c⟩ => ⟨j, Nat.zero_le _, b, c⟩⟩ eZ.symm))
 rw [← this]; exact e1
def IG (l m : List af) (j : Nat) : Bool := match l[j]?, m[j]? with | some x, some y => !KO x y | _, _ => false
def HL (s t : gv) : Bool := s.id == t.id && (s.nulls == t.nulls && (KO s.min t.min && KO s.max t.max))
def BD (l m : List gv) (j : Nat) : Bool := match l[j]?, m[j]? with | some x, some y => !HL x y | _, _ => false
def MB (l m : List af) : Bool := decide (l.length = m.length) && !mT (IG l m) l.length
def Nn (l m : List gv) : Bool := decide (l.length = m.length) && !mT (BD l m) l.length
def Fh (a b : ah) : Bool := decide (a.name = b.name) && (a.schema == b.schema && (a.spec == b.spec && (a.rows == b.rows && (MB a.part b.part && Nn a.stats b.stats))))
theorem Ls {l m : List af} (hl : ∀ v ∈ l, Lv v) (hm : ∀ v ∈ m, Lv v) : MB l m = true ↔ l = m := by
 unfold MB
 rw [Bool.and_eq_true, decide_eq_true_iff, Bool.not_eq_true', ← Bool.not_eq_true, eZ]
 constructor
 ·rintro ⟨h1, h2⟩
  refine List.ext_getElem h1 fun i hi hi' => ?_
  have : IG l m i = false := by
   cases h : IG l m i with
   | false => rfl
   | true => exact absurd ⟨i, hi, h⟩ h2
  unfold IG at this
  rw [List.getElem?_eq_getElem hi, List.getElem?_eq_getElem hi'] at this
  exact (yu (hl _ (List.getElem_mem hi)) (hm _ (List.getElem_mem hi'))).1 (by simpa using this)
 ·rintro rfl
  refine ⟨rfl, ?_⟩
  rintro ⟨j, hj, h⟩
  unfold IG at h
  rw [List.getElem?_eq_getElem hj] at h
  simp only [Bool.not_eq_true'] at h
  rw [(yu (hl _ (List.getElem_mem hj)) (hl _ (List.getElem_mem hj))).2 rfl] at h
  cases h
theorem ER {s t : gv} (hs : Lv s.min ∧ Lv s.max) (ht : Lv t.min ∧ Lv t.max) : HL s t = true ↔ s = t := by
 unfold HL
 rw [Bool.and_eq_true, Bool.and_eq_true, Bool.and_eq_true, yu hs.1 ht.1, yu hs.2 ht.2, beq_iff_eq, beq_iff_eq]
 obtain ⟨a, b, c, d⟩ := s
 obtain ⟨a', b', c', d'⟩ := t
 simp
theorem LQ {l m : List gv} (hl : ∀ v ∈ l, Lv v.min ∧ Lv v.max) (hm : ∀ v ∈ m, Lv v.min ∧ Lv v.max) : Nn l m = true ↔ l = m := by
 unfold Nn
 rw [Bool.and_eq_true, decide_eq_true_iff, Bool.not_eq_true', ← Bool.not_eq_true, eZ]
 constructor
 ·rintro ⟨h1, h2⟩
  refine List.ext_getElem h1 fun i hi hi' => ?_
  have : BD l m i = false := by
   cases h : BD l m i with
   | false => rfl
   | true => exact absurd ⟨i, hi, h⟩ h2
  unfold BD at this
  rw [List.getElem?_eq_getElem hi, List.getElem?_eq_getElem hi'] at this
  exact (ER (hl _ (List.getElem_mem hi)) (hm _ (List.getElem_mem hi'))).1 (by simpa using this)
 ·rintro rfl
  refine ⟨rfl, ?_⟩
  rintro ⟨j, hj, h⟩
  unfold BD at h
  rw [List.getElem?_eq_getElem hj] at h
  simp only [Bool.not_eq_true'] at h
  rw [(ER (hl _ (List.getElem_mem hj)) (hl _ (List.getElem_mem hj))).2 rfl] at h
  cases h
def Sf (a b : ah) : Prop := a.name = b.name ∧ a.schema = b.schema ∧ a.spec = b.spec ∧ a.rows = b.rows ∧ a.part = b.part ∧ a.stats = b.stats
theorem AZ {a b : ah} (ha : KR a) (hb : KR b) : Fh a b = true ↔ Sf a b := by
 unfold Fh Sf
 rw [Bool.and_eq_true, Bool.and_eq_true, Bool.and_eq_true, Bool.and_eq_true, Bool.and_eq_true, decide_eq_true_iff, beq_iff_eq, beq_iff_eq, beq_iff_eq, Ls ha.part hb.part, LQ ha.stats hb.stats]
theorem Sf.symm {a b : ah} (h : Sf a b) : Sf b a := ⟨h.1.symm, h.2.1.symm, h.2.2.1.symm, h.2.2.2.1.symm, h.2.2.2.2.1.symm, h.2.2.2.2.2.symm⟩
theorem Sf.trans {a b c : ah} (h : Sf a b) (k : Sf b c) : Sf a c := ⟨h.1.trans k.1, h.2.1.trans k.2.1, h.2.2.1.trans k.2.2.1, h.2.2.2.1.trans k.2.2.2.1, h.2.2.2.2.1.trans k.2.2.2.2.1, h.2.2.2.2.2.trans k.2.2.2.2.2⟩
theorem N4 {a b : af} (ha : Lv a) (hb : Lv b) : jK a b = some (KO a b) := by
 unfold jK
 rw [JV ha hb, bS]; rfl
theorem QX {l m : List af} (hn : l.length < 1000000000) (hl : ∀ v ∈ l, Lv v) (hm : ∀ v ∈ m, Lv v) : bh l m = some (MB l m) := by
 unfold bh MB
 by_cases h : l.length = m.length
 ·rw [show ((l.length : Int) != (m.length : Int)) = false by simp [h], iF, decide_eq_true h, Bool.true_and]
  rw [tU (L := ar l m) (n := l.length) (e := some false) (fin := some true) (p := IG l m) hn
   (fun k => by rw [ar, rB, iF]; rfl)
   (fun k i hi => by
    have hi' : i < m.length := by omega
    rw [ar, bg hi, iT, aU hi, bS, aU hi', bS, N4 (hl _ (List.getElem_mem hi)) (hm _ (List.getElem_mem hi')), bS, az hi hn]
    unfold IG
    rw [List.getElem?_eq_getElem hi, List.getElem?_eq_getElem hi'])]
  cases mT (IG l m) l.length <;> rfl
 ·rw [show ((l.length : Int) != (m.length : Int)) = true by simp; omega, iT, decide_eq_false h]; rfl
theorem OZ {s t : gv} (hs : Lv s.min ∧ Lv s.max) (ht : Lv t.min ∧ Lv t.max) : nt s t = some (HL s t, ()) := by
 unfold nt gR HL
 rw [N4 hs.1 ht.1, N4 hs.2 ht.2, bS, bS]
 cases (s.id == t.id) <;> cases (s.nulls == t.nulls) <;> cases KO s.min t.min <;> rfl
theorem Rh {l m : List gv} (hn : l.length < 1000000000) (hl : ∀ v ∈ l, Lv v.min ∧ Lv v.max) (hm : ∀ v ∈ m, Lv v.min ∧ Lv v.max) : aT l m = some (Nn l m, ()) := by
 unfold aT Nn
 by_cases h : l.length = m.length
 ·rw [show ((l.length : Int) != (m.length : Int)) = false by simp [h], iF, decide_eq_true h, Bool.true_and]
  rw [tU (L := aj l m) (n := l.length) (e := some (false, ())) (fin := some (true, ())) (p := BD l m) hn
   (fun k => by rw [aj, rB, iF]; rfl)
   (fun k i hi => by
    have hi' : i < m.length := by omega
    rw [aj, bg hi, iT, aU hi, bS, aU hi', bS, OZ (hl _ (List.getElem_mem hi)) (hm _ (List.getElem_mem hi')), bS, az hi hn]
    unfold BD
    rw [List.getElem?_eq_getElem hi, List.getElem?_eq_getElem hi'])]
  cases mT (BD l m) l.length <;> rfl
 ·rw [show ((l.length : Int) != (m.length : Int)) = true by simp; omega, iT, decide_eq_false h]; rfl
theorem Q9 {a b : ah} (ha : KR a) (hb : KR b) (za : H7 a) : mE a b = some (Fh a b) := by
 unfold mE fD Fh
 rw [Ip, QX za.part.1 ha.part hb.part, Rh za.stats.1 ha.stats hb.stats, bS, bS]
 cases decide (a.name = b.name) <;> cases (a.schema == b.schema) <;> cases (a.spec == b.spec) <;> cases (a.rows == b.rows) <;> cases MB a.part b.part <;> rfl
theorem QA {a b : ah} (ha : KR a) (hb : KR b) (za : H7 a) : nP a b = some (Fh a b) := by
 have h1 : ∀ x, x = (!decide (a.part.length = b.part.length) || !decide (a.stats.length = b.stats.length)) → dY a b x = some (MB a.part b.part && Nn a.stats b.stats) := by
  intro x hx
  unfold dY MB Nn
  cases x with
  | true =>
   rw [iT]
   by_cases h : a.part.length = b.part.length
   ·rw [decide_eq_true h] at hx
    have h2 : decide (a.stats.length = b.stats.length) = false := by simpa using hx.symm
    rw [h2, Bool.false_and, Bool.and_false]
   ·rw [decide_eq_false h]; rfl
  | false =>
   have hx := hx.symm
   rw [Bool.or_eq_false_iff, Bool.not_eq_false', Bool.not_eq_false', decide_eq_true_iff, decide_eq_true_iff] at hx
   obtain ⟨hp, hs⟩ := hx
   rw [iF, decide_eq_true hp, decide_eq_true hs, Bool.true_and, Bool.true_and]
   rw [tU (L := gk a b) (n := a.part.length) (e := some false) (fin := np a b) (p := IG a.part b.part) za.part.1
    (fun k => by rw [gk, rB, iF])
    (fun k i hi => by
     have hi' : i < b.part.length := by omega
     rw [gk, bg hi, iT, aU hi, bS, aU hi', bS, BB (ha.part _ (List.getElem_mem hi)) (hb.part _ (List.getElem_mem hi')), bS, az hi za.part.1]
     unfold IG
     rw [List.getElem?_eq_getElem hi, List.getElem?_eq_getElem hi'])]
   unfold np
   rw [tU (L := dx a b) (n := a.stats.length) (e := some false) (fin := some true) (p := BD a.stats b.stats) za.stats.1
    (fun k => by rw [dx, rB, iF]; rfl)
    (fun k i hi => by
     have hi' : i < b.stats.length := by omega
     obtain ⟨u1, u2⟩ := ha.stats _ (List.getElem_mem hi)
     obtain ⟨w1, w2⟩ := hb.stats _ (List.getElem_mem hi')
     rw [dx, bg hi, iT, aU hi, bS, aU hi', bS, BB u1 w1, BB u2 w2, bS, bS]
     unfold jO
     rw [az hi za.stats.1]
     unfold BD
     rw [List.getElem?_eq_getElem hi, List.getElem?_eq_getElem hi']
     simp only
     unfold HL bne
     cases (a.stats[i].id == b.stats[i].id) <;> cases (a.stats[i].nulls == b.stats[i].nulls) <;> cases KO a.stats[i].min b.stats[i].min <;> rfl)]
   cases mT (IG a.part b.part) a.part.length <;> cases mT (BD a.stats b.stats) a.stats.length <;> rfl
 have ht : ∀ y, dY a b true = some y → y = false := fun y h => by cases h; rfl
 unfold nP Fh
 rw [Ip]
 have hb2 : dY a b true = some false := rfl
 unfold bne
 cases decide (a.name = b.name) with
 | false => rfl
 | true =>
  cases (a.schema == b.schema) with
  | false => rfl
  | true =>
   cases (a.spec == b.spec) with
   | false => rfl
   | true =>
    cases (a.rows == b.rows) with
    | false => rfl
    | true =>
     have e1 : ((a.part.length : Int) == (b.part.length : Int)) = decide (a.part.length = b.part.length) := jl (by rw [beq_iff_eq, decide_eq_true_iff]; omega)
     have e2 : ((a.stats.length : Int) == (b.stats.length : Int)) = decide (a.stats.length = b.stats.length) := jl (by rw [beq_iff_eq, decide_eq_true_iff]; omega)
     rw [e1, e2]
     cases hp : decide (a.part.length = b.part.length) with
     | false =>
      rw [hp] at h1
      exact h1 true rfl
     | true =>
      rw [hp] at h1
      exact h1 _ rfl
end Go.Proofs.YtikbfjpcmalmlaaGreatDoor
namespace Go.Proofs.YtikbfjpcmalmlaaGreatDoor
open Go Go.SX Go.SX.Cal
theorem Cz (a b : ByteArray) : ri.eq a b = decide (a = b) := by
 refine jl ?_
 rw [decide_eq_true_iff]
 constructor
 ·intro h
  have h' : (a.data == b.data) = true := h
  exact ByteArray.ext (by simpa using h')
 ·rintro rfl
  show (a.data == a.data) = true
  simp
theorem AY {α : Type} : ∀ (m : List (ByteArray × α)) (k : ByteArray) (v : α), gU ri (iD ri m k v) k = some v
 | [], k, v => by simp only [iD, gU, Cz, decide_true, if_true]
 | (k', v') :: l, k, v => by
  by_cases h : k = k'
  ·simp only [iD, gU, Cz, decide_eq_true h, if_true, decide_true]
  ·simp only [iD, gU, Cz, decide_eq_false h, Bool.false_eq_true, if_false]
   exact AY l k v
theorem yo {α : Type} : ∀ (m : List (ByteArray × α)) (k : ByteArray) (v : α) (x : ByteArray), x ≠ k → gU ri (iD ri m k v) x = gU ri m x
 | [], k, v, x, hx => by simp only [iD, gU, Cz, decide_eq_false hx, Bool.false_eq_true, if_false]
 | (k', v') :: l, k, v, x, hx => by
  by_cases h : k = k'
  ·subst h
   simp only [iD, gU, Cz, decide_true, if_true, decide_eq_false hx, Bool.false_eq_true, if_false]
  ·simp only [iD, gU, Cz, decide_eq_false h, Bool.false_eq_true, if_false]
   rw [yo l k v x hx]
def Mg (m : aF) : Prop := ∀ s ∈ m.snapshots, 1 ≤ s.id ∧ Ak s.files ∧ ∀ f ∈ s.files, KR f
def NS (m : aF) (i : Nat) : Prop := ∃ (hi : i < m.snapshots.length) (x : Nat) (hx : x < i) (f g : ah), f ∈ m.snapshots[i].files ∧ g ∈ (m.snapshots[x]'(by omega)).files ∧ g.name = f.name ∧ ¬ Sf g f
structure MY (m : aF) (i : Nat) (z : List (ByteArray × ah)) : Prop where
 a : ∀ n g, gU ri z n = some g → g.name = n ∧ ∃ (x : Nat) (hx : x < i) (hl : x < m.snapshots.length), g ∈ m.snapshots[x].files
 b : ∀ (x : Nat) (hl : x < m.snapshots.length), x < i → ∀ f ∈ m.snapshots[x].files, ∃ g, gU ri z f.name = some g ∧ Sf g f
structure PH (m : aF) (i : Nat) (fs : List ah) (j : Nat) (z : List (ByteArray × ah)) : Prop where
 a : ∀ n g, gU ri z n = some g → g.name = n ∧ ((∃ (x : Nat) (hx : x < i) (hl : x < m.snapshots.length), g ∈ m.snapshots[x].files) ∨ ∃ (q : Nat) (hq : q < j) (hl : q < fs.length), g = fs[q])
 b : ∀ (x : Nat) (hl : x < m.snapshots.length), x < i → ∀ f ∈ m.snapshots[x].files, ∃ g, gU ri z f.name = some g ∧ Sf g f
 c : ∀ (q : Nat) (hl : q < fs.length), q < j → gU ri z fs[q].name = some fs[q]
def Lm (m : aF) (i : Nat) (rec1 : List (ByteArray × ah) → Int → Option Int) (e : Option Int) : Prop :=
 (e = some 5 ∧ NS m i) ∨ (∃ z', MY m (i + 1) z' ∧ e = rec1 z' ((i + 1 : Nat) : Int) ∧ ¬ NS m i)
theorem Kx {m : aF} (hm : rx m) (ho : Mg m) (rec1 : List (ByteArray × ah) → Int → Option Int) {i : Nat} (hi : i < m.snapshots.length) : ∀ (d k j : Nat) (z : List (ByteArray × ah)), j + d = m.snapshots[i].files.length → d < k → PH m i m.snapshots[i].files j z →
  (∀ (q : Nat) (hq : q < m.snapshots[i].files.length), q < j → ∀ (x : Nat) (hx : x < i), ∀ g ∈ (m.snapshots[x]'(by omega)).files, g.name = m.snapshots[i].files[q].name → Sf g m.snapshots[i].files[q]) →
  Lm m i rec1 (en rec1 (i : Int) m.snapshots[i] k z (j : Int)) := by
 have hsi := ho _ (List.getElem_mem hi)
 have hzi := hm.snaps.2 _ (List.getElem_mem hi)
 intro d
 induction d with
 | zero =>
  intro k j z hj hk hz hg
  obtain ⟨k, rfl⟩ := fu hk
  right
  refine ⟨z, ⟨fun n g h => ?_, fun x hl hx f hf => ?_⟩, ?_, ?_⟩
  ·obtain ⟨h1, h2⟩ := hz.a n g h
   refine ⟨h1, ?_⟩
   rcases h2 with ⟨x, hx, hl, h2⟩ | ⟨q, hq, hl, rfl⟩
   ·exact ⟨x, by omega, hl, h2⟩
   ·exact ⟨i, by omega, hi, List.getElem_mem hl⟩
  ·by_cases e : x = i
   ·subst e
    obtain ⟨q, hq, rfl⟩ := List.mem_iff_getElem.1 hf
    exact ⟨_, hz.c q hq (by omega), ⟨rfl, rfl, rfl, rfl, rfl, rfl⟩⟩
   ·exact hz.b x hl (by omega) f hf
  ·rw [en, B8 (by omega), iF]
   unfold sg
   rw [az hi hm.snaps.1]
  ·rintro ⟨_, x, hx, f, g, hf, hg', hn, hs⟩
   obtain ⟨q, hq, rfl⟩ := List.mem_iff_getElem.1 hf
   exact hs (hg q hq (by omega) x hx g hg' hn)
 | succ d ih =>
  intro k j z hj hk hz hg
  obtain ⟨k, rfl⟩ := fu hk
  have h1 : j < m.snapshots[i].files.length := by omega
  have hfj := hsi.2.2 _ (List.getElem_mem h1)
  rw [en, bg h1, iT, aU h1, bS, bS]
  unfold pm
  rw [az h1 hzi.files.1]
  -- what follows when the file agrees with those before
  have hgo : (∀ (x : Nat) (hx : x < i), ∀ g ∈ (m.snapshots[x]'(by omega)).files, g.name = m.snapshots[i].files[j].name → Sf g m.snapshots[i].files[j]) →
    Lm m i rec1 (en rec1 (i : Int) m.snapshots[i] k (iD ri z m.snapshots[i].files[j].name m.snapshots[i].files[j]) ((j + 1 : Nat) : Int)) := by
   intro hag
   refine ih k (j + 1) _ (by omega) (by omega) ⟨fun n g h => ?_, fun x hl hx f hf => ?_, fun q hl hq => ?_⟩ (fun q hq hqj x hx g hg' hn => ?_)
   ·by_cases e : n = m.snapshots[i].files[j].name
    ·subst e
     rw [AY] at h; cases h
     exact ⟨rfl, .inr ⟨j, by omega, h1, rfl⟩⟩
    ·rw [yo _ _ _ _ e] at h
     obtain ⟨a, b⟩ := hz.a n g h
     refine ⟨a, ?_⟩
     rcases b with b | ⟨q, hq, hl, rfl⟩
     ·exact .inl b
     ·exact .inr ⟨q, by omega, hl, rfl⟩
   ·by_cases e : f.name = m.snapshots[i].files[j].name
    ·rw [e, AY]
     exact ⟨_, rfl, (hag x hx f hf e).symm⟩
    ·rw [yo _ _ _ _ e]; exact hz.b x hl hx f hf
   ·by_cases e : q = j
    ·subst e; exact AY _ _ _
    ·have hlt := hsi.2.1 q j h1 (by omega)
     rw [yo _ _ _ _ (fun e => by rw [e, pO] at hlt; omega)]
     exact hz.c q hl (by omega)
   ·by_cases e : q = j
    ·subst e; exact hag x hx g hg' hn
    ·exact hg q hq (by omega) x hx g hg' hn
  cases hm' : gU ri z m.snapshots[i].files[j].name with
  | none =>
   show Lm m i rec1 (al false _ (al false _ _))
   rw [iF, iF]
   refine hgo fun x hx g hg' hn => ?_
   obtain ⟨g', h2, _⟩ := hz.b x (by omega) hx g hg'
   rw [hn, hm'] at h2; cases h2
  | some g =>
   obtain ⟨hgn, hgp⟩ := hz.a _ g hm'
   have hgx : ∃ (x : Nat) (hx : x < i) (hl : x < m.snapshots.length), g ∈ m.snapshots[x].files := by
    rcases hgp with h | ⟨q, hq, hl, rfl⟩
    ·exact h
    ·have hlt := hsi.2.1 q j h1 hq
     rw [hgn, pO] at hlt; omega
   obtain ⟨x0, hx0, hl0, hg0⟩ := hgx
   have hgo' := (ho _ (List.getElem_mem hl0)).2.2 _ hg0
   show Lm m i rec1 (al true (aB (mE g m.snapshots[i].files[j]) _) _)
   rw [iT, Q9 hgo' hfj ((hm.snaps.2 _ (List.getElem_mem hl0)).files.2 _ hg0), bS]
   cases hsf : Fh g m.snapshots[i].files[j] with
   | false =>
    left
    refine ⟨rfl, hi, x0, hx0, _, g, List.getElem_mem h1, hg0, hgn, fun h => ?_⟩
    rw [(AZ hgo' hfj).2 h] at hsf; cases hsf
   | true =>
    rw [Bool.not_true, iF]
    have hs := (AZ hgo' hfj).1 hsf
    refine hgo fun x hx g' hg' hn => ?_
    obtain ⟨g2, h2, h3⟩ := hz.b x (by omega) hx g' hg'
    rw [hn, hm'] at h2; cases h2
    exact h3.symm.trans hs
theorem HJ {m : aF} (hm : rx m) (ho : Mg m) : ∀ (d k i : Nat) (z : List (ByteArray × ah)), i + d = m.snapshots.length → d < k → MY m i z →
  (dI m k z (i : Int) = some 5 ∧ ∃ q, i ≤ q ∧ NS m q) ∨ (dI m k z (i : Int) = some 0 ∧ ∀ q, i ≤ q → ¬ NS m q) := by
 intro d
 induction d with
 | zero =>
  intro k i z hi hk hz
  obtain ⟨k, rfl⟩ := fu hk
  right
  rw [dI, B8 (by omega), iF]
  exact ⟨rfl, fun q hq ⟨h, _⟩ => by omega⟩
 | succ d ih =>
  intro k i z hi hk hz
  obtain ⟨k, rfl⟩ := fu hk
  have h1 : i < m.snapshots.length := by omega
  rw [dI, bg h1, iT, aU h1, bS]
  have h3 : PH m i m.snapshots[i].files 0 z := ⟨fun n g h => ⟨(hz.a n g h).1, .inl (hz.a n g h).2⟩, hz.b, fun q _ hq => by omega⟩
  rcases Kx hm ho (dI m k) h1 m.snapshots[i].files.length aY 0 z (by omega) (by rw [bc]; have := (hm.snaps.2 _ (List.getElem_mem h1)).files.1; omega) h3 (fun q hq h => by omega) with ⟨a, b⟩ | ⟨z', a, b, c⟩
  ·exact .inl ⟨a, i, Nat.le_refl _, b⟩
  ·have b : en (dI m k) (i : Int) m.snapshots[i] aY z (0 : Int) = _ := b
   rw [b]
   rcases ih k (i + 1) z' (by omega) (by omega) a with ⟨e1, q, e2, e3⟩ | ⟨e1, e2⟩
   ·exact .inl ⟨e1, q, by omega, e3⟩
   ·refine .inr ⟨e1, fun q hq => ?_⟩
    by_cases e : q = i
    ·subst e; exact c
    ·exact e2 q (by omega)
theorem LK {m : aF} (hm : rx m) (ho : Mg m) : (qz m = some 5 ∧ ∃ q, NS m q) ∨ (qz m = some 0 ∧ ∀ q, ¬ NS m q) := by
 have h0 : MY m 0 [] := ⟨(fun n g h => by cases h), fun x _ hx => by omega⟩
 rcases HJ hm ho m.snapshots.length aY 0 [] (by omega) (by rw [bc]; have := hm.snaps.1; omega) h0 with ⟨a, q, _, b⟩ | ⟨a, b⟩
 ·exact .inl ⟨a, q, b⟩
 ·exact .inr ⟨a, fun q => b q (Nat.zero_le _)⟩
def E0 (s x : au) (j : Nat) : Bool := match s.files[j]? with
 | some f => (match oB x.files f.name with | some g => !Fh f g | none => false)
 | none => false
def Kp (m : aF) (i x : Nat) : Bool := match m.snapshots[i]?, m.snapshots[x]? with
 | some s, some y => mT (E0 s y) s.files.length
 | _, _ => false
def Gd (m : aF) (i : Nat) : Bool := mT (Kp m i) i
theorem DD {α : Type} {l : List α} {i x : Nat} (hx : x < i) (hi : i ≤ l.length) : at? (List.take ((i : Int).toNat - (0 : Int).toNat) (List.drop (0 : Int).toNat l)) (x : Int) = some (l[x]'(by omega)) := by
 have h : x < (List.take ((i : Int).toNat - (0 : Int).toNat) (List.drop (0 : Int).toNat l)).length := by simp; omega
 rw [aU h]
 simp
theorem tX {α : Type} {l : List α} {i : Nat} (hi : i ≤ l.length) : (List.take ((i : Int).toNat - (0 : Int).toNat) (List.drop (0 : Int).toNat l)).length = i := by simp; omega
theorem LD {m : aF} (hm : rx m) (ho : Mg m) : nM m = ee (er (mT (Gd m) m.snapshots.length) 5) (kU m) := by
 unfold nM
 rw [gu (L := cZ m) (n := m.snapshots.length) (fin := kU m) (c := fun i => er (Gd m i) 5) hm.snaps.1
  (fun k => by rw [cZ, rB, iF])
  (fun k i hi => by
   rw [cZ, bg hi, iT, aU hi, bS, gP ⟨by omega, by omega, by omega⟩]
   have hil : i ≤ m.snapshots.length := by omega
   rw [gu (L := eD (cZ m k) m (i : Int) m.snapshots[i]) (n := i) (fin := cZ m k ((i + 1 : Nat) : Int)) (c := fun x => er (Kp m i x) 5) (by have := hm.snaps.1; omega)
    (fun q => by
     rw [eD, bS, tX hil, rB, iF]
     unfold tC
     rw [az hi hm.snaps.1])
    (fun q x hx => by
     have hxl : x < m.snapshots.length := by omega
     have hzi := hm.snaps.2 _ (List.getElem_mem hi)
     rw [eD, bS, tX hil, bg hx, iT, DD hx hil, bS]
     rw [gu (L := gI (eD (cZ m k) m (i : Int) m.snapshots[i] q) m.snapshots[i] (x : Int) m.snapshots[x]) (n := m.snapshots[i].files.length) (fin := eD (cZ m k) m (i : Int) m.snapshots[i] q ((x + 1 : Nat) : Int)) (c := fun j => er (E0 m.snapshots[i] m.snapshots[x] j) 5) hzi.files.1
      (fun q' => by
       rw [gI, rB, iF]
       unfold tm
       rw [az hxl hm.snaps.1])
      (fun q' j hj => by
       have hxo := ho _ (List.getElem_mem hxl)
       have hio := ho _ (List.getElem_mem hi)
       rw [gI, bg hj, iT, aU hj, bS, Cs (hm.snaps.2 _ (List.getElem_mem hxl)).files.1, bS]
       unfold ql E0
       rw [az hj hzi.files.1, List.getElem?_eq_getElem hj]
       simp only
       cases hf : oB m.snapshots[x].files m.snapshots[i].files[j].name with
       | none => rfl
       | some g =>
        have hgm : g ∈ m.snapshots[x].files := List.mem_of_find?_eq_some hf
        show al true (aB (nP m.snapshots[i].files[j] g) _) _ = _
        rw [iT, QA (hio.2.2 _ (List.getElem_mem hj)) (hxo.2.2 _ hgm) (hzi.files.2 _ (List.getElem_mem hj)), bS, dB (by decide)])]
     rw [Ah (by decide)]
     unfold Kp
     rw [List.getElem?_eq_getElem hi, List.getElem?_eq_getElem hxl])]
   rw [Ah (by decide)]
   rfl)]
 rw [Ah (by decide)]
theorem Eo {m : aF} (ho : Mg m) {i : Nat} (hi : i < m.snapshots.length) : Gd m i = true ↔ NS m i := by
 unfold Gd
 rw [eZ]
 constructor
 ·rintro ⟨x, hx, h⟩
  have hxl : x < m.snapshots.length := by omega
  unfold Kp at h
  rw [List.getElem?_eq_getElem hi, List.getElem?_eq_getElem hxl] at h
  simp only at h
  obtain ⟨j, hj, h⟩ := eZ.1 h
  unfold E0 at h
  rw [List.getElem?_eq_getElem hj] at h
  simp only at h
  cases hf : oB m.snapshots[x].files m.snapshots[i].files[j].name with
  | none => rw [hf] at h; cases h
  | some g =>
   rw [hf] at h
   simp only at h
   have hgm : g ∈ m.snapshots[x].files := List.mem_of_find?_eq_some hf
   have hgn : g.name = m.snapshots[i].files[j].name := by simpa using List.find?_some hf
   refine ⟨hi, x, hx, _, g, List.getElem_mem hj, hgm, hgn, fun hs => ?_⟩
   rw [(AZ ((ho _ (List.getElem_mem hi)).2.2 _ (List.getElem_mem hj)) ((ho _ (List.getElem_mem hxl)).2.2 _ hgm)).2 hs.symm] at h
   cases h
 ·rintro ⟨_, x, hx, f, g, hf, hg, hn, hs⟩
  have hxl : x < m.snapshots.length := by omega
  refine ⟨x, hx, ?_⟩
  unfold Kp
  rw [List.getElem?_eq_getElem hi, List.getElem?_eq_getElem hxl]
  obtain ⟨j, hj, rfl⟩ := List.mem_iff_getElem.1 hf
  refine eZ.2 ⟨j, hj, ?_⟩
  unfold E0
  rw [List.getElem?_eq_getElem hj]
  obtain ⟨q, hq, rfl⟩ := List.mem_iff_getElem.1 hg
  have := A2 (ho _ (List.getElem_mem hxl)).2.1 hq
  rw [hn] at this
  simp only [this]
  cases hb : Fh m.snapshots[i].files[j] m.snapshots[x].files[q] with
  | false => rfl
  | true => exact absurd ((AZ ((ho _ (List.getElem_mem hi)).2.2 _ hf) ((ho _ (List.getElem_mem hxl)).2.2 _ hg)).1 hb).symm hs
def QW (m : aF) : Int := er (mT (Gd m) m.snapshots.length) 5
theorem Jh {m : aF} (hm : rx m) (ho : Mg m) : qz m = some (QW m) := by
 unfold QW
 rcases LK hm ho with ⟨a, q, b⟩ | ⟨a, b⟩
 ·have hb : mT (Gd m) m.snapshots.length = true := by
   have hq : q < m.snapshots.length := b.1
   exact eZ.2 ⟨q, hq, (Eo ho hq).2 b⟩
  rw [a, hb]; rfl
 ·have hb : mT (Gd m) m.snapshots.length = false := by
   rw [← Bool.not_eq_true, eZ]
   rintro ⟨q, hq, h⟩
   exact b q ((Eo ho hq).1 h)
  rw [a, hb]; rfl
end Go.Proofs.YtikbfjpcmalmlaaGreatDoor
namespace Go.Proofs.YtikbfjpcmalmlaaGreatDoor
open Go Go.SX Go.SX.Cal
def Bk (m : aF) (id : Int) : Bool := mT (fun q => match m.snapshots[q]? with | some s => s.id == id | none => false) m.snapshots.length
theorem Qs {m : aF} (hm : rx m) (id : Int) : ∃ s, mD m id = some (s, Bk m id) := by
 unfold mD ce
 have key : ∀ d k i, i + d = m.snapshots.length → d < k → ∃ r, aC m.snapshots id k (i : Int) = some r ∧ ((r = -1 ∧ ∀ j, i ≤ j → ∀ (h : j < m.snapshots.length), m.snapshots[j].id ≠ id) ∨ ∃ (j : Nat) (h : j < m.snapshots.length), r = (j : Int) ∧ m.snapshots[j].id = id) := by
  intro d
  induction d with
  | zero =>
   intro k i hi hk
   obtain ⟨k, rfl⟩ := fu hk
   rw [aC, B8 (by omega), iF]
   exact ⟨-1, rfl, .inl ⟨rfl, fun j h1 h2 => by omega⟩⟩
  | succ d ih =>
   intro k i hi hk
   obtain ⟨k, rfl⟩ := fu hk
   have h1 : i < m.snapshots.length := by omega
   rw [aC, bg h1, iT, aU h1, bS, ot, bS, az h1 hm.snaps.1]
   cases he : (m.snapshots[i].id == id) with
   | true => exact ⟨i, rfl, .inr ⟨i, h1, rfl, by simpa using he⟩⟩
   | false =>
    obtain ⟨r, e1, e2⟩ := ih k (i + 1) (by omega) (by omega)
    refine ⟨r, e1, e2.imp (fun ⟨a, b⟩ => ⟨a, fun j hj h => ?_⟩) fun h => h⟩
    by_cases e : j = i
    ·subst e; simpa using he
    ·exact b j (by omega) h
 obtain ⟨r, r1, r2⟩ := key m.snapshots.length aY 0 (by omega) (by rw [bc]; have := hm.snaps.1; omega)
 have r1 : aC m.snapshots id aY (0 : Int) = _ := r1
 rw [r1, bS]
 rcases r2 with ⟨rfl, h⟩ | ⟨j, hj, rfl, h⟩
 ·refine ⟨⟨0, 0, 0, 0, 0, 0, [], [], []⟩, ?_⟩
  have hb : Bk m id = false := by
   unfold Bk
   rw [← Bool.not_eq_true, eZ]
   rintro ⟨q, hq, e⟩
   rw [List.getElem?_eq_getElem hq] at e
   exact h q (Nat.zero_le _) hq (by simpa using e)
  rw [hb]; rfl
 ·refine ⟨m.snapshots[j], ?_⟩
  have hb : Bk m id = true := eZ.2 ⟨j, hj, by rw [List.getElem?_eq_getElem hj]; simpa using h⟩
  rw [decide_eq_false (show ¬ (j : Int) < 0 by omega), iF, aU hj, bS, hb]
theorem Qx {m : aF} (hm : rx m) (ho : Mg m) (id : Int) : ∃ s, wX m id = some (s, Bk m id) := by
 have key : ∀ d k i, i + d = m.snapshots.length → d < k → ∃ s b, iI m id k (i : Int) = some (s, b) ∧ (b = true ↔ ∃ j, i ≤ j ∧ ∃ (h : j < m.snapshots.length), m.snapshots[j].id = id) := by
  intro d
  induction d with
  | zero =>
   intro k i hi hk
   obtain ⟨k, rfl⟩ := fu hk
   rw [iI, B8 (by omega), iF]
   exact ⟨_, _, rfl, by simp; intro j h1 h2; omega⟩
  | succ d ih =>
   intro k i hi hk
   obtain ⟨k, rfl⟩ := fu hk
   have h1 : i < m.snapshots.length := by omega
   have hid := (ho _ (List.getElem_mem h1)).1
   rw [iI, bg h1, iT, aU h1, bS]
   unfold rn
   rw [az h1 hm.snaps.1]
   cases he : (m.snapshots[i].id == id) with
   | true =>
    have he : m.snapshots[i].id = id := by simpa using he
    rw [iT, decide_eq_true (by omega), iT]
    exact ⟨_, _, rfl, fun _ => ⟨i, Nat.le_refl _, h1, he⟩, fun _ => rfl⟩
   | false =>
    rw [iF, iF]
    obtain ⟨s, b, e1, e2⟩ := ih k (i + 1) (by omega) (by omega)
    refine ⟨s, b, e1, e2.trans ⟨fun ⟨j, a, h, c⟩ => ⟨j, by omega, h, c⟩, fun ⟨j, a, h, c⟩ => ⟨j, ?_, h, c⟩⟩⟩
    by_cases e : j = i
    ·subst e; rw [c] at he; simp at he
    ·omega
 obtain ⟨s, b, e1, e2⟩ := key m.snapshots.length aY 0 (by omega) (by rw [bc]; have := hm.snaps.1; omega)
 refine ⟨s, ?_⟩
 unfold wX
 rw [show ((0 : Nat) : Int) = 0 from rfl] at e1
 rw [e1]
 congr 2
 refine jl (e2.trans ?_)
 unfold Bk
 rw [eZ]
 constructor
 ·rintro ⟨j, _, h, c⟩; exact ⟨j, h, by rw [List.getElem?_eq_getElem h]; simpa using c⟩
 ·rintro ⟨j, h, c⟩; rw [List.getElem?_eq_getElem h] at c; exact ⟨j, Nat.zero_le _, h, by simpa using c⟩
def Ni (m : aF) (r : j9) (j : Nat) : Bool := mT (fun q => match m.refs[q]? with | some p => decide (p.name = r.name) | none => false) j
def Gb (m : aF) (j : Nat) : Int := match m.refs[j]? with
 | some r => mA (er (!pL r.name) 4) (mA (er (Ni m r j) 5) (er (!Bk m r.snapshot && !(r.branch && r.snapshot == 0)) 9))
 | none => 0
def Hr (s : ByteArray) : Bool := xI ⟨4, 0, 0, s, []⟩
theorem Mz {s : ByteArray} (h : s.size < 100000000) : eu ⟨4, 0, 0, s, []⟩ < 1000000000 := by simp only [eu, mt]; omega
def wC (m : aF) (j : Nat) : Int := match m.props[j]? with
 | some p => mA (er (!pL p.name) 4) (er ((decide (0 < j) && (match m.props[j - 1]? with | some q => DQ p.name q.name | none => false)) || !Hr p.value) 1)
 | none => 0
theorem Fe {m : aF} (hm : rx m) {i : Nat} (hi : i < m.props.length) (X : Option Int) (O : Option Bool) (ho : O = some (Hr m.props[i].value)) :
  al (decide ((0 : Int) < (i : Int))) (aB (at? m.props (IntKind.i64.wrap ((i : Int) - (1 : Int)))) fun e3 => aB (some (Op.bytesLess m.props[i].name.toList e3.name.toList || m.props[i].name.toList == e3.name.toList)) fun y1 => al y1 (al true (some (1 : Int)) X) (aB O fun r5 => al (!r5) (some (1 : Int)) X)) (aB O fun r6 => al (!r6) (some (1 : Int)) X) =
   ee (er ((decide (0 < i) && (match m.props[i - 1]? with | some q => DQ m.props[i].name q.name | none => false)) || !Hr m.props[i].value) 1) X := by
 subst ho
 by_cases h0 : 0 < i
 ·have hi1 : i - 1 < m.props.length := by omega
  rw [decide_eq_true (show (0 : Int) < (i : Int) by omega), iT, og hi h0 hm.props.1, bS, bS, decide_eq_true h0, List.getElem?_eq_getElem hi1, Bool.true_and, bS]
  show al (DQ m.props[i].name m.props[i - 1].name) _ _ = ee (er (DQ m.props[i].name m.props[i - 1].name || !Hr m.props[i].value) 1) X
  cases DQ m.props[i].name m.props[i - 1].name with
  | true => rfl
  | false => rw [iF, dB (by decide), Bool.false_or]
 ·rw [decide_eq_false (show ¬ (0 : Int) < (i : Int) by omega), iF, decide_eq_false h0, Bool.false_and, Bool.false_or, bS, dB (by decide)]
theorem Nl {m : aF} (hm : rx m) : qf m = some (fe (wC m) m.props.length 0) := by
 unfold qf
 rw [gu (L := fR m) (n := m.props.length) (fin := some 0) (c := wC m) hm.props.1
  (fun k => by rw [fR, rB, iF]; rfl)
  (fun k i hi => by
   obtain ⟨z1, z2⟩ := hm.props.2 _ (List.getElem_mem hi)
   rw [fR, bg hi, iT, aU hi, bS, JT _ z1, bS, dB (by decide)]
   unfold wC
   rw [List.getElem?_eq_getElem hi]
   simp only
   rw [← bz]
   refine ed fun _ => ?_
   unfold nJ
   rw [az hi hm.props.1]
   refine Fe hm hi _ _ ?_
   unfold n8
   rw [Gf _ (Mz z2), bS]; rfl)]
 exact dM _
theorem Nu {m : aF} (hm : rx m) : o7 m = some (fe (wC m) m.props.length 0) := by
 unfold o7
 rw [gu (L := eW m) (n := m.props.length) (fin := some 0) (c := wC m) hm.props.1
  (fun k => by rw [eW, rB, iF]; rfl)
  (fun k i hi => by
   obtain ⟨z1, z2⟩ := hm.props.2 _ (List.getElem_mem hi)
   rw [eW, bg hi, iT, aU hi, bS, Kl _ z1, bS, dB (by decide)]
   unfold wC
   rw [List.getElem?_eq_getElem hi]
   simp only
   rw [← bz]
   refine ed fun _ => ?_
   unfold mL
   rw [az hi hm.props.1]
   refine Fe hm hi _ _ ?_
   unfold wI
   rw [IZ _ (Mz z2), bS]; rfl)]
 exact dM _
theorem Pa {m : aF} (hm : rx m) {i : Nat} (hi : i < m.refs.length) (r : j9) :
  ca (List.take ((i : Int).toNat - (0 : Int).toNat) (List.drop (0 : Int).toNat m.refs)) r = some (Ni m r i, r) := by
 unfold ca dv
 have hil : i ≤ m.refs.length := by omega
 obtain ⟨q, q1, q2⟩ := yF (z := r) (L := fun k j => aQ (List.take ((i : Int).toNat - (0 : Int).toNat) (List.drop (0 : Int).toNat m.refs)) k r.name r.branch r.snapshot j) (n := i) (p := fun q => match m.refs[q]? with | some p => decide (p.name = r.name) | none => false) (by have := hm.refs.1; omega)
  (fun k => by rw [aQ, tX hil, rB, iF]; rfl)
  (fun k j hj => by
   have hjl : j < m.refs.length := by omega
   rw [aQ, tX hil, bg hj, iT, DD hj hil, bS, ut, bS, Ip, az hjl hm.refs.1, List.getElem?_eq_getElem hjl])
 have q1 : aQ (List.take ((i : Int).toNat - (0 : Int).toNat) (List.drop (0 : Int).toNat m.refs)) aY r.name r.branch r.snapshot (0 : Int) = some (q, r) := q1
 rw [q1, bS]
 show some (decide (0 ≤ q), r) = _
 rw [q2]; rfl
theorem GP {b : Bool} (br : Bool) (s : Int) (X : Option Int) : al (!b) (al br (al (!(s == 0)) (some (9 : Int)) X) (al true (some 9) X)) (al false (some 9) X) = ee (er (!b && !(br && s == 0)) 9) X := by
 cases b <;> cases br <;> cases (s == 0) <;> rfl
theorem MZ {m : aF} (hm : rx m) : uf m = some (mA (fe (Gb m) m.refs.length 0) (fe (wC m) m.props.length 0)) := by
 unfold uf
 rw [gu (L := fY m) (n := m.refs.length) (fin := some (fe (wC m) m.props.length 0)) (c := Gb m) hm.refs.1
  (fun k => by rw [fY, rB, iF, Nl hm])
  (fun k i hi => by
   obtain ⟨s, hs⟩ := Qs hm m.refs[i].snapshot
   rw [fY, bg hi, iT, aU hi, bS, JT _ (hm.refs.2 _ (List.getElem_mem hi)), bS, dB (by decide), gP ⟨by omega, by omega, by omega⟩, Pa hm hi, bS]
   show ee _ (al (Ni m m.refs[i] i) _ (aB (mD m m.refs[i].snapshot) _)) = _
   rw [hs, bS, dB (by decide)]
   unfold Gb nX
   rw [List.getElem?_eq_getElem hi, az hi hm.refs.1]
   simp only
   rw [← bz, ← bz, GP])]
 exact sT _ _
theorem NV {m : aF} (hm : rx m) (ho : Mg m) : kU m = some (mA (fe (Gb m) m.refs.length 0) (fe (wC m) m.props.length 0)) := by
 unfold kU
 rw [gu (L := ez m) (n := m.refs.length) (fin := some (fe (wC m) m.props.length 0)) (c := Gb m) hm.refs.1
  (fun k => by rw [ez, rB, iF, Nu hm])
  (fun k i hi => by
   obtain ⟨s, hs⟩ := Qx hm ho m.refs[i].snapshot
   rw [ez, bg hi, iT, aU hi, bS, Kl _ (hm.refs.2 _ (List.getElem_mem hi)), bS, dB (by decide)]
   rw [tU (L := jF (ez m k) m (i : Int) m.refs[i]) (n := i) (e := some 5) (fin := pe (ez m k) m (i : Int) m.refs[i]) (p := fun q => match m.refs[q]? with | some p => decide (p.name = m.refs[i].name) | none => false) (by have := hm.refs.1; omega)
    (fun q => by rw [jF, rB, iF])
    (fun q j hj => by
     have hjl : j < m.refs.length := by omega
     rw [jF, bg hj, iT, aU hjl, bS, Ip, az hjl hm.refs.1, List.getElem?_eq_getElem hjl])]
   unfold Gb pe m8
   rw [List.getElem?_eq_getElem hi, az hi hm.refs.1, hs, bS, dB (by decide)]
   simp only
   rw [← bz, ← bz, GP]; rfl)]
 exact sT _ _
def QL (m : aF) (i : Nat) : Bool := match m.snapshots[i]? with | some s => decide ((400 : Int) < (s.files.length : Int)) || decide ((400 : Int) < (s.dby.length : Int)) | none => false
def Rk (m : aF) (i : Nat) : Int := match m.snapshots[i]? with | some s => IntKind.i64.wrap ((s.files.length : Int) + (s.dby.length : Int)) | none => 0
def Ms (m : aF) : Nat → Nat → Bool
 | 0, _ => false
 | d + 1, i => QL m i || Ms m d (i + 1)
def Mh (m : aF) : Nat → Nat → Int → Int
 | 0, _, x => x
 | d + 1, i, x => Mh m d (i + 1) (IntKind.i64.wrap (x + Rk m i))
theorem GW {m : aF} (hm : rx m) : ∀ (d k i : Nat) (x : Int) (b : Bool), i + d = m.snapshots.length → d < k → ew m k x b (i : Int) = some (er (b || (Ms m d i || decide (4000 < Mh m d i x))) 7)
 | 0, k, i, x, b, hi, hk => by
  obtain ⟨k, rfl⟩ := fu hk
  rw [ew, B8 (by omega), iF]
  unfold qN oh Ms Mh
  cases b with
  | true => rfl
  | false => rw [iF]; cases decide (4000 < x) <;> rfl
 | d + 1, k, i, x, b, hi, hk => by
  obtain ⟨k, rfl⟩ := fu hk
  have h1 : i < m.snapshots.length := by omega
  rw [ew, bg h1, iT, aU h1, bS]
  unfold lV Ms Mh QL Rk
  rw [bS, az h1 hm.snaps.1, List.getElem?_eq_getElem h1]
  simp only
  cases b with
  | true => rw [iT, GW hm d k (i + 1) _ true (by omega) (by omega)]; rfl
  | false =>
   rw [iF]
   cases decide ((400 : Int) < (m.snapshots[i].files.length : Int)) with
   | true => rw [iT, GW hm d k (i + 1) _ true (by omega) (by omega)]; rfl
   | false =>
    rw [iF, bS, GW hm d k (i + 1) _ _ (by omega) (by omega)]
    cases decide ((400 : Int) < (m.snapshots[i].dby.length : Int)) <;> rfl
theorem Mt {m : aF} (hm : rx m) : ∀ (d k i : Nat) (x : Int), i + d = m.snapshots.length → d < k → gH m k x (i : Int) = some (Ms m d i || decide (4000 < Mh m d i x))
 | 0, k, i, x, hi, hk => by
  obtain ⟨k, rfl⟩ := fu hk
  rw [gH, B8 (by omega), iF]; rfl
 | d + 1, k, i, x, hi, hk => by
  obtain ⟨k, rfl⟩ := fu hk
  have h1 : i < m.snapshots.length := by omega
  rw [gH, bg h1, iT, aU h1, bS]
  unfold qj Ms Mh QL Rk
  rw [bS, az h1 hm.snaps.1, List.getElem?_eq_getElem h1]
  simp only
  cases decide ((400 : Int) < (m.snapshots[i].files.length : Int)) with
  | true => rfl
  | false =>
   rw [iF]
   cases decide ((400 : Int) < (m.snapshots[i].dby.length : Int)) with
   | true => rfl
   | false => rw [iF, Mt hm d k (i + 1) _ (by omega) (by omega)]; rfl
theorem H2 {m : aF} (hm : rx m) : ∃ b, re m = some (er b 7) ∧ ve m = some b := by
 have hc : ∀ x, ja m x = some (er (x || (Ms m m.snapshots.length 0 || decide (4000 < Mh m m.snapshots.length 0 0))) 7) := fun x => GW hm m.snapshots.length aY 0 0 x (by omega) (by rw [bc]; have := hm.snaps.1; omega)
 have hr : ∀ x, jH m x = some (x || (Ms m m.snapshots.length 0 || decide (4000 < Mh m m.snapshots.length 0 0))) := fun x => by
  unfold jH
  have := Mt hm m.snapshots.length aY 0 0 (by omega) (by rw [bc]; have := hm.snaps.1; omega)
  rw [show ((0 : Nat) : Int) = 0 from rfl] at this
  rw [this]
  cases x <;> rfl
 unfold re ve
 simp only [hc, hr]
 cases decide ((40 : Int) < (m.schemas.length : Int)) with
 | true => exact ⟨_, rfl, rfl⟩
 | false =>
  cases decide ((40 : Int) < (m.specs.length : Int)) with
  | true => exact ⟨_, rfl, rfl⟩
  | false =>
   cases decide ((200 : Int) < (m.snapshots.length : Int)) with
   | true => exact ⟨_, rfl, rfl⟩
   | false =>
    cases decide ((40 : Int) < (m.refs.length : Int)) with
    | true => exact ⟨_, rfl, rfl⟩
    | false => exact ⟨_, rfl, rfl⟩
end Go.Proofs.YtikbfjpcmalmlaaGreatDoor
namespace Go.Proofs.YtikbfjpcmalmlaaGreatDoor
open Go Go.SX Go.SX.Cal
def zq (n : Int) (l : List Int) : Bool := l.any fun x => decide (n ≤ x)
theorem JA (n : Int) (a b : List Int) : zq n (a ++ b) = (zq n a || zq n b) := by unfold zq; rw [List.any_append]
theorem Nt (m : aF) : ∀ (N k : Nat) (fs : List ac), eG fs ≤ N → N < k → eG fs < 1000000000 → bH k fs m.schemas m.specs m.nextField m.nextSeq m.nextSnap m.purges m.snapshots m.refs m.props = some (er (zq m.nextField (i5 fs)) 3) := by
 intro N
 induction N with
 | zero =>
  intro k fs h hk _
  obtain ⟨k, rfl⟩ := fu hk
  have hl := dV fs
  have : fs = [] := List.eq_nil_of_length_eq_zero (by omega)
  subst this
  rw [bH, Ad, bG]
  rfl
 | succ N ih =>
  intro k fs hN hk hs
  obtain ⟨k, rfl⟩ := fu hk
  have hl := dV fs
  rw [bH]
  have loop : ∀ (d kk i : Nat), i + d = fs.length → d < kk → bG (bH k) fs m.schemas m.specs m.nextField m.nextSeq m.nextSnap m.purges m.snapshots m.refs m.props kk (i : Int) = some (er (zq m.nextField (i5 (fs.drop i))) 3) := by
   intro d
   induction d with
   | zero =>
    intro kk i hi hk2
    obtain ⟨kk, rfl⟩ := fu hk2
    rw [bG, B8 (by omega), iF, List.drop_of_length_le (by omega)]; rfl
   | succ d ihd =>
    intro kk i hi hk2
    obtain ⟨kk, rfl⟩ := fu hk2
    have h1 : i < fs.length := by omega
    have m1 := i7 (List.getElem_mem h1)
    have m2 := iz fs[i]
    have m3 := nQ fs[i].type
    rw [bG, bg h1, iT, aU h1, bS, ih k _ (by omega) (by omega) (by omega), bS, az h1 (by omega), ihd kk (i + 1) (by omega) (by omega), xT h1, BA]
    unfold pf
    have hb : zq m.nextField (fs[i].id :: i5 fs[i].type.fields ++ i5 (fs.drop (i + 1))) = (decide (m.nextField ≤ fs[i].id) || (zq m.nextField (i5 fs[i].type.fields) || zq m.nextField (i5 (fs.drop (i + 1))))) := by
     rw [JA]
     unfold zq
     rw [List.any_cons, Bool.or_assoc]
    rw [hb]
    cases decide (m.nextField ≤ fs[i].id) with
    | true => rfl
    | false =>
     rw [iF, bS]
     show al false _ _ = _
     rw [iF]
     cases zq m.nextField (i5 fs[i].type.fields) <;> rfl
  have := loop fs.length aY 0 (by omega) (by rw [bc]; omega)
  rw [show ((0 : Nat) : Int) = 0 from rfl, List.drop_zero] at this
  exact this
noncomputable def Oo (p q : List ac) : Int := mA (sc p) (mA (sc q) ((bp aY p q).getD 0))
theorem Md {p q : List ac} (hp : eG p < 1000000000 - 1) (hq : eG q < 1000000000 - 1) : (∃ r, mo p q = some (r, Oo p q)) ∧ ∃ r, oa p q = some (r, Oo p q) := by
 obtain ⟨e, e1, e2, _⟩ := Du (eG q) aY aY p q (Nat.le_refl _) (by rw [bc]; omega) (by rw [bc]; omega) (by omega) (by omega)
 unfold mo oa mc nz Oo
 rw [MT hp, Nv hp, MT hq, Nv hq, e1, e2]
 simp only [bS]
 show (∃ r, aB (al (sc p != 0) _ _) _ = some (r, mA (sc p) (mA (sc q) e))) ∧ ∃ r, aB (al (sc p != 0) _ _) _ = some (r, mA (sc p) (mA (sc q) e))
 by_cases h1 : sc p = 0
 ·rw [h1]
  show (∃ r, al (sc q != 0) _ _ = some (r, mA (sc q) e)) ∧ ∃ r, al (sc q != 0) _ _ = some (r, mA (sc q) e)
  by_cases h2 : sc q = 0
  ·rw [h2]
   show (∃ r, al (e != 0) _ _ = some (r, e)) ∧ ∃ r, al (e != 0) _ _ = some (r, e)
   by_cases h3 : e = 0
   ·subst h3; exact ⟨⟨[], rfl⟩, ⟨[], rfl⟩⟩
   ·rw [show (e != 0) = true by simp [h3]]; exact ⟨⟨[], rfl⟩, ⟨[], rfl⟩⟩
  ·rw [show (sc q != 0) = true by simp [h2], Gt h2]; exact ⟨⟨[], rfl⟩, ⟨[], rfl⟩⟩
 ·rw [show (sc p != 0) = true by simp [h1], Gt h1, iT, bS, bS, show (sc p != 0) = true by simp [h1]]; exact ⟨⟨[], rfl⟩, ⟨[], rfl⟩⟩
noncomputable def OP (m : aF) (l : List ac) (q : Nat) : Int := match m.schemas[q]? with | some o => Oo o l | none => 0
noncomputable def FH (m : aF) (j : Nat) : Int := match m.schemas[j]? with
 | some l => mA (sc l) (mA (er (zq m.nextField (i5 l)) 3) (fe (OP m l) j 0))
 | none => 0
theorem Py {m : aF} (hm : rx m) : qe m = some (fe (FH m) m.schemas.length 0) := by
 unfold qe
 rw [gu (L := dz m) (n := m.schemas.length) (fin := some 0) (c := FH m) hm.schemas.1
  (fun k => by rw [dz, rB, iF]; rfl)
  (fun k i hi => by
   have hs := hm.schemas.2 _ (List.getElem_mem hi)
   have hil : i ≤ m.schemas.length := by omega
   rw [dz, bg hi, iT, aU hi, bS, MT hs, bS, gZ, Nt m _ aY _ (Nat.le_refl _) (by rw [bc]; omega) (by omega), bS, gZ, gP ⟨by omega, by omega, by omega⟩]
   rw [gu (L := gj (dz m k) m (i : Int) m.schemas[i]) (n := i) (fin := dz m k ((i + 1 : Nat) : Int)) (c := OP m m.schemas[i]) (by have := hm.schemas.1; omega)
    (fun q => by
     rw [gj, bS, tX hil, rB, iF]
     unfold pR
     rw [az hi hm.schemas.1])
    (fun q x hx => by
     have hxl : x < m.schemas.length := by omega
     obtain ⟨⟨r, hr⟩, _⟩ := Md (hm.schemas.2 _ (List.getElem_mem hxl)) hs
     rw [gj, bS, tX hil, bg hx, iT, DD hx hil, bS, hr, bS]
     show al (Oo m.schemas[x] m.schemas[i] != 0) _ _ = _
     rw [gZ, az hxl hm.schemas.1]
     unfold OP
     rw [List.getElem?_eq_getElem hxl])]
   unfold FH
   rw [List.getElem?_eq_getElem hi]
   simp only
   rw [← bz, ← bz])]
 exact dM _
theorem Pp {m : aF} (hm : rx m) : cW m aY (0 : Int) = ee (fe (FH m) m.schemas.length 0) (qb m) :=
 gu (L := cW m) (n := m.schemas.length) (c := FH m) hm.schemas.1
  (fun k => by rw [cW, rB, iF])
  (fun k i hi => by
   have hs := hm.schemas.2 _ (List.getElem_mem hi)
   have hids := tL m.schemas[i]
   rw [cW, bg hi, iT, aU hi, bS, Nv hs, bS, gZ, Kd _ aY _ (Nat.le_refl _) (by rw [bc]; omega) (by omega), bS]
   rw [tU (L := jG (cW m k) m (i : Int) m.schemas[i] (i5 m.schemas[i])) (n := (i5 m.schemas[i]).length) (e := some 3) (fin := qa (cW m k) m (i : Int) m.schemas[i]) (p := fun j => match (i5 m.schemas[i])[j]? with | some x => decide (m.nextField ≤ x) | none => false) (by omega)
    (fun q => by rw [jG, rB, iF])
    (fun q j hj => by rw [jG, bg hj, iT, aU hj, bS, az hj (by omega), List.getElem?_eq_getElem hj])]
   have hb : mT (fun j => match (i5 m.schemas[i])[j]? with | some x => decide (m.nextField ≤ x) | none => false) (i5 m.schemas[i]).length = zq m.nextField (i5 m.schemas[i]) := by
    refine jl ?_
    unfold zq
    rw [eZ, List.any_eq_true]
    constructor
    ·rintro ⟨j, hj, h⟩; rw [List.getElem?_eq_getElem hj] at h; exact ⟨_, List.getElem_mem hj, h⟩
    ·rintro ⟨x, hx, h⟩
     obtain ⟨j, hj, rfl⟩ := List.mem_iff_getElem.1 hx
     exact ⟨j, hj, by rw [List.getElem?_eq_getElem hj]; exact h⟩
   rw [hb, dB (by decide)]
   unfold qa
   rw [gu (L := jJ (cW m k) m (i : Int) m.schemas[i]) (n := i) (fin := cW m k ((i + 1 : Nat) : Int)) (c := OP m m.schemas[i]) (by have := hm.schemas.1; omega)
    (fun q => by
     rw [jJ, rB, iF]
     unfold tu
     rw [az hi hm.schemas.1])
    (fun q x hx => by
     have hxl : x < m.schemas.length := by omega
     obtain ⟨_, ⟨r, hr⟩⟩ := Md (hm.schemas.2 _ (List.getElem_mem hxl)) hs
     rw [jJ, bg hx, iT, aU hxl, bS, hr, bS]
     show al (Oo m.schemas[x] m.schemas[i] != 0) _ _ = _
     rw [gZ, az hxl hm.schemas.1]
     unfold OP
     rw [List.getElem?_eq_getElem hxl])]
   unfold FH
   rw [List.getElem?_eq_getElem hi]
   simp only
   rw [← bz, ← bz])
def CU (m : aF) (sp : di) (d : Nat) : Bool := match m.schemas[d]? with | some fs => !mT (oE fs sp) sp.fields.length | none => false
def q9 (m : aF) (sp : di) : Nat → Int
 | 0 => -1
 | d + 1 => if CU m sp d then (d : Int) else q9 m sp d
theorem zF (m : aF) (sp : di) : ∀ d, -1 ≤ q9 m sp d ∧ q9 m sp d < d
 | 0 => by simp [q9]
 | d + 1 => by
  unfold q9
  have := zF m sp d
  split <;> constructor <;> omega
noncomputable def Ot (sp : di) (fs : List ac) : Int := (ox sp fs).getD 0
noncomputable def Ok (m : aF) (j : Nat) : Int := match m.specs[j]? with
 | some sp => mA (er (decide (q9 m sp m.schemas.length < 0) || (decide (j + 1 = m.specs.length) && decide (q9 m sp m.schemas.length < (m.schemas.length : Int) - 1))) 9)
  (match m.schemas[(q9 m sp m.schemas.length).toNat]? with | some fs => Ot sp fs | none => 0)
 | none => 0
theorem OJ {m : aF} (hm : rx m) {sp : di} (hsp : sp.fields.length < 1000000000) {d : Nat} (hd : d < m.schemas.length) :
  bw sp.fields m.schemas m.specs m.nextField m.nextSeq m.nextSnap m.purges m.snapshots m.refs m.props (d : Int) = some (!CU m sp d, (d : Int)) := by
 have hfs := hm.schemas.2 _ (List.getElem_mem hd)
 have hn : m.schemas[d].length < 1000000000 := by have := dV m.schemas[d]; omega
 unfold bw cg
 obtain ⟨r, r1, r2⟩ := yF (z := (d : Int)) (L := fun k i => aE sp.fields m.schemas m.specs m.nextField m.nextSeq m.nextSnap m.purges m.snapshots m.refs m.props k (d : Int) i) (n := sp.fields.length) (p := oE m.schemas[d] sp) hsp
  (fun k => by rw [aE, rB, iF]; rfl)
  (fun k i hi => by
   obtain ⟨t1, _, t3, _⟩ := ux hn sp.fields[i].source
   rw [aE, bg hi, iT, aU hi, bS]
   unfold qO
   rw [aU hd, bS, t1, bS, bS, t3, az hi hsp]
   unfold oE
   rw [List.getElem?_eq_getElem hi])
 have r1 : aE sp.fields m.schemas m.specs m.nextField m.nextSeq m.nextSnap m.purges m.snapshots m.refs m.props aY (d : Int) (0 : Int) = some (r, (d : Int)) := r1
 rw [r1, bS]
 show some (decide (0 ≤ r), (d : Int)) = _
 rw [r2]
 unfold CU
 rw [List.getElem?_eq_getElem hd, Bool.not_not]
theorem Ko {m : aF} (hm : rx m) {sp : di} (hsp : sp.fields.length < 1000000000) (rec1 : Int → Option Int) (x1 : Int) : ∀ (d k : Nat), d ≤ m.schemas.length → d < k → eV rec1 m x1 sp k ((d : Int) - 1) = mC rec1 m x1 sp (q9 m sp d)
 | 0, k, hd, hk => by
  obtain ⟨k, rfl⟩ := fu hk
  rw [eV]
  show al (decide ((0 : Int) ≤ -1)) _ _ = _
  rw [decide_eq_false (by decide), iF]
  rfl
 | d + 1, k, hd, hk => by
  obtain ⟨k, rfl⟩ := fu hk
  have h1 : d < m.schemas.length := by omega
  rw [eV, show (((d + 1 : Nat) : Int) - 1) = (d : Int) by omega, decide_eq_true (show (0 : Int) ≤ (d : Int) by omega), iT, OJ hm hsp h1, bS]
  unfold oS q9
  show al (!CU m sp d) (eV rec1 m x1 sp k (IntKind.i64.wrap ((d : Int) - 1))) (mC rec1 m x1 sp (d : Int)) = _
  cases CU m sp d with
  | true => rfl
  | false =>
   rw [Bool.not_false, iT, we (by have := hm.schemas.1; omega) (by have := hm.schemas.1; omega), Ko hm hsp rec1 x1 d k (by omega) (by omega)]; rfl
theorem Mo {m : aF} (hm : rx m) {sp : di} (hsp : sp.fields.length < 1000000000) {fs : List ac} (hfs : fs ∈ m.schemas) : ox sp fs = some (Ot sp fs) ∧ rF sp fs = some (Ot sp fs) := by
 have := hm.schemas.2 _ hfs
 obtain ⟨c, h1, h2, _⟩ := J7 sp hsp (fs := fs) (by omega)
 unfold Ot
 rw [h1, h2]; exact ⟨rfl, rfl⟩
theorem Nz {m : aF} (hm : rx m) : sI m = some (fe (Ok m) m.specs.length 0) := by
 unfold sI
 rw [gu (L := dh m) (n := m.specs.length) (fin := some 0) (c := Ok m) hm.specs.1
  (fun k => by rw [dh, rB, iF]; rfl)
  (fun k i hi => by
   have hsp := hm.specs.2 _ (List.getElem_mem hi)
   obtain ⟨l1, l2⟩ := zF m m.specs[i] m.schemas.length
   rw [dh, bg hi, iT, aU hi, bS, kg hm.schemas.1, Ko hm hsp _ _ m.schemas.length aY (Nat.le_refl _) (by rw [bc]; have := hm.schemas.1; omega)]
   unfold Ok
   rw [List.getElem?_eq_getElem hi]
   simp only
   generalize hK : q9 m m.specs[i] m.schemas.length = K at l1 l2
   have hj : ∀ x, x = (decide (K < 0) || (decide (i + 1 = m.specs.length) && decide (K < (m.schemas.length : Int) - 1))) → lh (dh m k) m (i : Int) m.specs[i] K x =
     ee (mA (er (decide (K < 0) || (decide (i + 1 = m.specs.length) && decide (K < (m.schemas.length : Int) - 1))) 9) (match m.schemas[K.toNat]? with | some fs => Ot m.specs[i] fs | none => 0)) (dh m k ((i + 1 : Nat) : Int)) := by
    rintro x rfl
    unfold lh
    rw [dB (by decide), ← bz]
    refine ed fun e => ?_
    have e := (Bf (by decide)).1 e
    rw [Bool.or_eq_false_iff, decide_eq_false_iff_not] at e
    obtain ⟨h1, h2, h3⟩ := Bw (l := m.schemas) (x := K) (by omega) (by omega)
    rw [h2, h3, bS, (Mo hm hsp (List.getElem_mem h1)).1, bS, gZ, az hi hm.specs.1]
   generalize hB : (decide (K < 0) || (decide (i + 1 = m.specs.length) && decide (K < (m.schemas.length : Int) - 1))) = B at hj ⊢
   unfold mC
   by_cases h0 : K < 0
   ·rw [decide_eq_true h0, iT]
    exact hj true (by rw [← hB, decide_eq_true h0]; rfl)
   ·rw [decide_eq_false h0, iF, kg hm.specs.1]
    by_cases hl : i + 1 = m.specs.length
    ·rw [show ((i : Int) == (m.specs.length : Int) - 1) = true from beq_iff_eq.2 (by omega), iT, kg hm.schemas.1, bS]
     exact hj _ (by rw [← hB, decide_eq_false h0, decide_eq_true hl]; rfl)
    ·rw [show ((i : Int) == (m.specs.length : Int) - 1) = false from beq_eq_false_iff_ne.2 (by omega), iF]
     exact hj false (by rw [← hB, decide_eq_false h0, decide_eq_false hl]; rfl))]
 exact dM _
theorem PD {m : aF} (hm : rx m) {sp : di} (hsp : sp.fields.length < 1000000000) (rec2 : Int → Int → Option Int) (x2 : Int) {d : Nat} (hd : d < m.schemas.length) :
  cM rec2 m sp x2 (d : Int) aY true (0 : Int) = jZ rec2 x2 (d : Int) (CU m sp d) := by
 have hfs := hm.schemas.2 _ (List.getElem_mem hd)
 have hn : m.schemas[d].length < 1000000000 := by have := dV m.schemas[d]; omega
 have key : ∀ (q k i : Nat) (b : Bool), i + q = sp.fields.length → q < k → cM rec2 m sp x2 (d : Int) k b (i : Int) = jZ rec2 x2 (d : Int) (b && !decide (∃ j, j < q ∧ oE m.schemas[d] sp (i + j) = true)) := by
  intro q
  induction q with
  | zero =>
   intro k i b hi hk
   obtain ⟨k, rfl⟩ := fu hk
   rw [cM, B8 (by omega), iF]
   simp
  | succ q ih =>
   intro k i b hi hk
   obtain ⟨k, rfl⟩ := fu hk
   have h1 : i < sp.fields.length := by omega
   obtain ⟨_, t2, _, _⟩ := ux hn sp.fields[i].source
   rw [cM, bg h1, iT, aU h1, bS, aU hd, bS, t2, bS]
   unfold lI
   rw [az h1 hsp]
   have hl : oE m.schemas[d] sp i = !Dx m.schemas[d] sp.fields[i].source := by unfold oE; rw [List.getElem?_eq_getElem h1]
   have hx : (!decide (∃ j, j < q + 1 ∧ oE m.schemas[d] sp (i + j) = true)) = (Dx m.schemas[d] sp.fields[i].source && !decide (∃ j, j < q ∧ oE m.schemas[d] sp (i + 1 + j) = true)) := by
    refine jl ?_
    rw [Bool.and_eq_true, Bool.not_eq_true', Bool.not_eq_true', decide_eq_false_iff_not, decide_eq_false_iff_not]
    constructor
    ·intro h
     refine ⟨?_, fun ⟨j, a, b⟩ => h ⟨j + 1, by omega, by rw [← b]; congr 1; omega⟩⟩
     cases hb : Dx m.schemas[d] sp.fields[i].source with
     | true => rfl
     | false => exact absurd ⟨0, by omega, by rw [Nat.add_zero, hl, hb]; rfl⟩ h
    ·rintro ⟨h1, h2⟩ ⟨j, a, b⟩
     cases j with
     | zero => rw [Nat.add_zero, hl, h1] at b; cases b
     | succ j => exact h2 ⟨j, by omega, by rw [← b]; congr 1; omega⟩
   rw [hx]
   cases b with
   | true =>
    rw [iT]
    show cM rec2 m sp x2 (d : Int) k (Dx m.schemas[d] sp.fields[i].source) ((i + 1 : Nat) : Int) = _
    rw [ih k (i + 1) _ (by omega) (by omega), Bool.true_and]
   | false => rw [iF, ih k (i + 1) _ (by omega) (by omega), Bool.false_and, Bool.false_and]
 have := key sp.fields.length aY 0 true (by omega) (by rw [bc]; omega)
 rw [show ((0 : Nat) : Int) = 0 from rfl] at this
 rw [this, Bool.true_and]
 congr 1
 unfold CU
 rw [List.getElem?_eq_getElem hd]
 congr 1
 refine jl ?_
 rw [decide_eq_true_iff, eZ]
 simp
theorem O5 {m : aF} (hm : rx m) {sp : di} (hsp : sp.fields.length < 1000000000) (rec1 : Int → Option Int) (x1 : Int) : ∀ (d k i : Nat), i + d = m.schemas.length → d < k → cz rec1 m x1 sp k (q9 m sp i) (i : Int) = lM rec1 m x1 sp (q9 m sp m.schemas.length)
 | 0, k, i, hi, hk => by
  obtain ⟨k, rfl⟩ := fu hk
  have : i = m.schemas.length := by omega
  rw [cz, B8 (by omega), iF, this]
 | d + 1, k, i, hi, hk => by
  obtain ⟨k, rfl⟩ := fu hk
  have h1 : i < m.schemas.length := by omega
  rw [cz, bg h1, iT, PD hm hsp _ _ h1]
  unfold jZ lL
  rw [az h1 hm.schemas.1, ← O5 hm hsp rec1 x1 d k (i + 1) (by omega) (by omega)]
  rw [show q9 m sp (i + 1) = if CU m sp i then (i : Int) else q9 m sp i from rfl]
  cases CU m sp i <;> rfl
theorem MR {m : aF} (hm : rx m) : n9 m = some (fe (Ok m) m.specs.length 0) := by
 unfold n9
 rw [gu (L := bv m) (n := m.specs.length) (fin := some 0) (c := Ok m) hm.specs.1
  (fun k => by rw [bv, rB, iF]; rfl)
  (fun k i hi => by
   have hsp := hm.specs.2 _ (List.getElem_mem hi)
   obtain ⟨l1, l2⟩ := zF m m.specs[i] m.schemas.length
   have hu := O5 hm hsp (bv m k) (i : Int) m.schemas.length aY 0 (by omega) (by rw [bc]; have := hm.schemas.1; omega)
   have hu : cz (bv m k) m (i : Int) m.specs[i] aY (-1 : Int) (0 : Int) = _ := hu
   rw [bv, bg hi, iT, aU hi, bS, hu]
   unfold Ok
   rw [List.getElem?_eq_getElem hi]
   simp only
   generalize hK : q9 m m.specs[i] m.schemas.length = K at l1 l2
   have hj : ∀ x, x = (decide (K < 0) || (decide (i + 1 = m.specs.length) && decide (K < (m.schemas.length : Int) - 1))) → iq (bv m k) m (i : Int) m.specs[i] K x =
     ee (mA (er (decide (K < 0) || (decide (i + 1 = m.specs.length) && decide (K < (m.schemas.length : Int) - 1))) 9) (match m.schemas[K.toNat]? with | some fs => Ot m.specs[i] fs | none => 0)) (bv m k ((i + 1 : Nat) : Int)) := by
    rintro x rfl
    unfold iq
    rw [dB (by decide), ← bz]
    refine ed fun e => ?_
    have e := (Bf (by decide)).1 e
    rw [Bool.or_eq_false_iff, decide_eq_false_iff_not] at e
    obtain ⟨h1, h2, h3⟩ := Bw (l := m.schemas) (x := K) (by omega) (by omega)
    rw [h2, h3, bS, (Mo hm hsp (List.getElem_mem h1)).2, bS, gZ, az hi hm.specs.1]
   generalize hB : (decide (K < 0) || (decide (i + 1 = m.specs.length) && decide (K < (m.schemas.length : Int) - 1))) = B at hj ⊢
   unfold lM
   by_cases h0 : K < 0
   ·rw [decide_eq_true h0, iT]
    exact hj true (by rw [← hB, decide_eq_true h0]; rfl)
   ·rw [decide_eq_false h0, iF, kg hm.specs.1]
    by_cases hl : i + 1 = m.specs.length
    ·rw [show ((i : Int) == (m.specs.length : Int) - 1) = true from beq_iff_eq.2 (by omega), iT, kg hm.schemas.1]
     refine hj _ ?_
     rw [← hB, decide_eq_false h0, decide_eq_true hl, Bool.true_and, Bool.false_or]
     refine jl ?_
     rw [bne_iff_ne, decide_eq_true_iff]; omega
    ·rw [show ((i : Int) == (m.specs.length : Int) - 1) = false from beq_eq_false_iff_ne.2 (by omega), iF]
     exact hj false (by rw [← hB, decide_eq_false h0, decide_eq_false hl]; rfl))]
 exact dM _
noncomputable def L2 (m : aF) : Int := mA (fe (FH m) m.schemas.length 0) (mA (fe (Ok m) m.specs.length 0) (mA (fe (MI m) m.snapshots.length 0) (mA (QW m) (mA (fe (Gb m) m.refs.length 0) (fe (wC m) m.props.length 0)))))
theorem QQ {m : aF} (hm : rx m) (x : Bool) : jR m x = some (mA (er x 3) (L2 m)) := by
 unfold jR L2
 rw [dB (by decide), Py hm, bS, gZ, Nz hm, bS, gZ, Od hm, bS, gZ]
 refine Eq.trans ?_ (dM _)
 rw [← bz, ← bz, ← bz, ← bz]
 refine ed fun _ => ed fun _ => ed fun _ => ed fun e => ?_
 rw [Jh hm (DI hm e), bS, gZ, MZ hm, bS, gZ, bz]
theorem Q0 {m : aF} (hm : rx m) (x : Bool) : kD m x = some (mA (er x 3) (L2 m)) := by
 unfold kD L2
 rw [dB (by decide), Pp hm]
 unfold qb
 rw [MR hm, bS, gZ, NT hm]
 refine Eq.trans ?_ (dM _)
 rw [← bz, ← bz, ← bz, ← bz]
 refine ed fun _ => ed fun _ => ed fun _ => ed fun e => ?_
 rw [LD hm (DI hm e), NV hm (DI hm e), dM]
 exact sT _ _
theorem Mx {m : aF} (hm : rx m) (x : Bool) : ∃ e, m9 m x = some e ∧ nO m x = some e := by
 unfold m9 nO
 simp only [kh, mg, QQ hm, Q0 hm, bS]
 cases x with
 | true => exact ⟨9, rfl, rfl⟩
 | false =>
  cases decide (1 ≤ m.nextField ∧ m.nextField ≤ 1099511627776) with
  | false => exact ⟨_, rfl, rfl⟩
  | true =>
   cases decide (1 ≤ m.nextSeq ∧ m.nextSeq ≤ 1099511627776) with
   | false => exact ⟨_, rfl, rfl⟩
   | true =>
    cases decide (1 ≤ m.nextSnap ∧ m.nextSnap ≤ 1099511627776) with
    | false => exact ⟨_, rfl, rfl⟩
    | true => exact ⟨_, rfl, rfl⟩
theorem H8 {m : aF} (hm : rx m) : ∃ e, sN m = some e ∧ uZ m = some e := by
 obtain ⟨b, h1, h2⟩ := H2 hm
 unfold sN uZ
 rw [h1, h2, bS, bS]
 cases b with
 | true => exact ⟨7, rfl, rfl⟩
 | false =>
  show ∃ e, al false _ _ = _ ∧ al false _ _ = _
  rw [iF, iF]
  cases ((m.schemas.length : Int) == 0) with
  | true => exact Mx hm true
  | false => exact Mx hm _
theorem Em : vM = some true := by decide +kernel
theorem HP {m : aF} (hm : rx m) : jW m = some true := by
 obtain ⟨e, h1, h2⟩ := H8 hm
 unfold jW
 rw [Em, bS, iT, h1, h2, bS, bS]
 show some (e == e) = _
 simp
end Go.Proofs.YtikbfjpcmalmlaaGreatDoor
namespace Go.Proofs.YtikbfjpcmalmlaaGreatDoor
open Go Go.SX Go.SX.Cal
theorem Cx : ∀ l : List af, mt l = (l.map eu).sum
 | [] => by simp [mt]
 | x :: l => by simp [mt, Cx l]
theorem Pc (k n sc : Int) (s : ByteArray) (it : List af) : eu ⟨k, n, sc, s, it⟩ ≤ s.size + (it.map eu).sum + 6 := by
 simp only [eu, Cx]; omega
theorem zI : ∀ l : List ac, eG l = (l.map rW).sum
 | [] => by simp [eG]
 | x :: l => by simp [eG, zI l]
theorem M9 (k s : Int) (fs : List ac) : jX ⟨k, s, fs⟩ ≤ (fs.map rW).sum + 4 := by
 rw [nQ, zI]; simp only; omega
theorem Oe (i : Int) (n : ByteArray) (q : Bool) (t : am) : rW ⟨i, n, q, t⟩ ≤ n.size + jX t + 4 := by
 rw [iz]; simp only; omega
def Rd (B : tz) (t : TypeId) {α : Type} (c : α → List PV) (X : α → Prop) : Prop := ∀ N N' : Nat, N' ≤ N → nB B Tryz.prog N' t c (fun x => N ≤ 1048576 → X x) (fun _ => 1)
theorem Rd.of {B : tz} {t : TypeId} {α : Type} {c c' : α → List PV} {wf : α → Prop} {s : α → Nat} {X : α → Prop} (h : ∀ N, nB B Tryz.prog N t c wf s) (hc : ∀ x, c' x = c x) (hX : ∀ x, wf x → s x ≤ 1048576 → X x) : Rd B t c' X := by
 intro N N' hN H enc w base spare held im cs d ps hd hb
 obtain ⟨x, h1, h2, h3⟩ := h N' hd hb
 exact ⟨x, by rw [hc]; exact h1, fun hM => hX x h2 (by omega), B.one d⟩
theorem Rf {α : Type} (xs : List α) : (xs.map fun _ => (1 : Nat)).sum = xs.length := by
 induction xs with
 | nil => rfl
 | cons x l ih => rw [List.map_cons, List.sum_cons, ih, List.length_cons]; omega
theorem Rd.list {B : tz} {t e : TypeId} {α : Type} {c : α → List PV} {X : α → Prop} (n : Nat) (h : Rd B e c X) (ht : Tryz.prog.underlying t = some (.slice e)) (he : Tryz.prog.cellsOf e = n + 1) (hc : ∀ x, (c x).length = n + 1) :
  Rd B t (fun xs : List α => [.ro (xs.map c)]) (fun xs => xs.length < 1000000000 ∧ ∀ x ∈ xs, X x) := by
 intro N N' hN H enc w base spare held im cs d ps hd hb
 obtain ⟨x, h1, h2, h3⟩ := nB.slice (B := B) (P := Tryz.prog) (N := N') (t := t) (e := e) (cells := c) ht (fun x => by rw [hc, he]) (by rw [he]; omega) (fun N'' h'' => h N N'' (by omega)) hd hb
 have h3 : (x.map fun _ => (1 : Nat)).sum + 1 ≤ B.f d := h3
 rw [Rf] at h3
 exact ⟨x, h1, fun hM => ⟨by omega, fun y hy => h2 y hy hM⟩, B.one d⟩
def RF (B : tz) (off : Nat) (fs : List Field) {α : Type} (c : α → List PV) (X : α → Prop) : Prop := ∀ N N' : Nat, N' ≤ N → xc B Tryz.prog N' off fs c (fun x => N ≤ 1048576 → X x) (fun _ => 0)
theorem RF.nil {B : tz} {off : Nat} : RF B off [] (fun _ : Unit => []) (fun _ => True) := fun N N' hN H enc w base spare held n cs xs hl h hb hc => by
 obtain ⟨x, h1, _, h3⟩ := xc.nil (B := B) (P := Tryz.prog) (N := N') hl h hb hc
 exact ⟨x, h1, fun _ => trivial, h3⟩
theorem RF.cons {B : tz} {off : Nat} {f : Field} {fs : List Field} {α β : Type} {c1 : α → List PV} {c2 : β → List PV} {X : α → Prop} {Y : β → Prop} (k n : Nat) (hk : f.type = k) (ho : f.offset = off) (hz : Tryz.prog.cellsOf k = n) (hc : ∀ x, (c1 x).length = n)
  (h : Rd B k c1 X) (r : RF B (off + n) fs c2 Y) : RF B off (f :: fs) (fun p : α × β => c1 p.1 ++ c2 p.2) (fun p => X p.1 ∧ Y p.2) := by
 subst hk; subst hz
 intro N N' hN H enc w base spare held m cs xs hl hx hb hc'
 obtain ⟨x, h1, h2, h3⟩ := xc.cons ho hc (h N N' hN) (r N N' hN) hl hx hb hc'
 exact ⟨x, h1, fun hM => ⟨h2.1 hM, h2.2 hM⟩, Nat.zero_le _⟩
theorem Rd.struct {B : tz} {t : TypeId} {α β : Type} {L : List Field} {c : β → List PV} {X : β → Prop} {c' : α → List PV} {Y : α → Prop} (h : RF B 0 L c X) (hu : iS Tryz.prog t = true) (hL : fieldsOf Tryz.prog t = L) (hz : Tryz.prog.cellsOf t = 0 + (L.map fun f => Tryz.prog.cellsOf f.type).sum)
  (mk : β → α) (h1 : ∀ y, c' (mk y) = c y) (h2 : ∀ y, X y → Y (mk y)) : Rd B t c' Y := fun N N' hN =>
 nB.structF (α := α) (cells := c') (wf' := fun x => N ≤ 1048576 → Y x) (size := fun _ => 1) hu hL hz (fun N'' h'' => h N N'' (by omega)) mk h1 (fun y hy hM => h2 y (hy hM)) (fun y => by omega)
variable {B : tz}
theorem rI : Rd B 3 (fun n : Int => [pi n]) (fun _ => True) := Rd.of (fun N => nB.int (k := .i64) (by kernel_rfl)) (fun _ => rfl) (fun _ _ _ => trivial)
theorem Sg : Rd B 4 (fun b : Bool => [.s (.bool b)]) (fun _ => True) := Rd.of (fun N => nB.bool (by kernel_rfl)) (fun _ => rfl) (fun _ _ _ => trivial)
theorem Pj : Rd B 9 (fun s : ByteArray => [.s (.string s)]) (fun s => s.size < 10000000) := Rd.of (fun N => nB.str (by kernel_rfl)) (fun _ => rfl) (fun s _ h => by omega)
theorem rV : Rd B 110 C7 (fun v => eu v < 1000000000) :=
 Rd.of (LZ (P := Tryz.prog) (wf := fun _ => True) (sz := eu) 110 3 9 59 (by kernel_rfl) (by kernel_rfl) (by kernel_rfl) (by kernel_rfl) (by kernel_rfl) ⟨by kernel_rfl, by kernel_rfl, by kernel_rfl, by kernel_rfl⟩ ⟨by kernel_rfl, by kernel_rfl, by kernel_rfl, by kernel_rfl, by kernel_rfl⟩ ⟨by kernel_rfl, by kernel_rfl, by kernel_rfl, by kernel_rfl, by kernel_rfl⟩ (fun _ _ _ _ _ _ _ _ _ => trivial) Pc) (fun v => (congrFun CN v).symm) (fun v _ h => by omega)
theorem Sk : Rd B 33 (fun fs : List ac => [.ro (ae.els fs)]) (fun fs => eG fs < 1000000000 - 1) :=
 Rd.of (fun N => Ji (P := Tryz.prog) (wfT := fun _ => True) (szT := jX) (wfF := fun _ => True) (szF := rW) (szL := eG) 42 44 3 9 4 33 (by kernel_rfl) (by kernel_rfl) (by kernel_rfl) (by kernel_rfl) (by kernel_rfl) (by kernel_rfl) (by kernel_rfl) (by kernel_rfl) ⟨by kernel_rfl, by kernel_rfl, by kernel_rfl, by kernel_rfl, by kernel_rfl⟩ (by kernel_rfl) ⟨by kernel_rfl, by kernel_rfl, by kernel_rfl, by kernel_rfl⟩ ⟨by kernel_rfl, by kernel_rfl, by kernel_rfl, by kernel_rfl⟩ ⟨by kernel_rfl, by kernel_rfl, by kernel_rfl⟩ ⟨by kernel_rfl, by kernel_rfl, by kernel_rfl⟩ (fun _ _ _ _ _ _ => trivial) Oe (fun _ _ _ _ _ _ => trivial) M9 (fun xs => by rw [zI]; omega) N) (fun _ => rfl) (fun fs _ h => by omega)
theorem RZ : Rd B 36 (fun x : di => [PV.ro (aL.els x.fields)]) (fun x => x.fields.length < 1000000000) :=
 Rd.of (fun N => M8 (P := Tryz.prog) 36 34 81 79 3 (by kernel_rfl) (by kernel_rfl) (by kernel_rfl) ⟨by kernel_rfl, by kernel_rfl⟩ (by kernel_rfl) (by kernel_rfl) (by kernel_rfl) (by kernel_rfl) (by kernel_rfl) (by kernel_rfl) (by kernel_rfl) ⟨by kernel_rfl, by kernel_rfl, by kernel_rfl⟩ ⟨by kernel_rfl, by kernel_rfl, by kernel_rfl, by kernel_rfl⟩ ⟨by kernel_rfl, by kernel_rfl, by kernel_rfl, by kernel_rfl⟩ N) (fun _ => rfl) (fun x _ h => by omega)
theorem RN : Rd B 59 (fun xs : List af => [PV.ro (ak.els xs)]) (fun xs => xs.length < 1000000000 ∧ ∀ v ∈ xs, eu v < 1000000000) := by
 have h := Rd.list (B := B) (t := 59) (e := 110) 4 rV (by kernel_rfl) (by kernel_rfl) (fun x => rfl)
 have e : (fun xs : List af => [PV.ro (ak.els xs)]) = fun xs => [.ro (xs.map C7)] := by funext xs; rw [ak.hels]; rfl
 rw [e]; exact h
theorem NE : Rd B 112 F4 (fun x : gv => eu x.min < 1000000000 ∧ eu x.max < 1000000000) :=
 Rd.struct (L := [eT Tryz.prog 112 0, eT Tryz.prog 112 1, eT Tryz.prog 112 2, eT Tryz.prog 112 3]) (RF.cons 3 1 (by kernel_rfl) (by kernel_rfl) (by kernel_rfl) (fun x => rfl) rI (RF.cons 3 1 (by kernel_rfl) (by kernel_rfl) (by kernel_rfl) (fun x => rfl) rI (RF.cons 110 5 (by kernel_rfl) (by kernel_rfl) (by kernel_rfl) (fun x => rfl) rV (RF.cons 110 5 (by kernel_rfl) (by kernel_rfl) (by kernel_rfl) (fun x => rfl) rV RF.nil)))) (by kernel_rfl) (by kernel_rfl) (by kernel_rfl)
  (fun y => (⟨y.1, y.2.1, y.2.2.1, y.2.2.2.1⟩ : gv)) (fun y => rfl) (fun y h => ⟨h.2.2.1, h.2.2.2.1⟩)
theorem KX : Rd B 60 (fun xs : List gv => [PV.ro (cV.els xs)]) (fun xs => xs.length < 1000000000 ∧ ∀ x ∈ xs, eu x.min < 1000000000 ∧ eu x.max < 1000000000) := by
 have h := Rd.list (B := B) (t := 60) (e := 112) 11 NE (by kernel_rfl) (by kernel_rfl) (fun x => rfl)
 have e : (fun xs : List gv => [PV.ro (cV.els xs)]) = fun xs => [.ro (xs.map F4)] := by funext xs; rw [pr.hels]; rfl
 rw [e]; exact h
theorem Pz : Rd B 62 J3 (fun x : ah => H7 x) :=
 Rd.struct (L := [eT Tryz.prog 62 0, eT Tryz.prog 62 1, eT Tryz.prog 62 2, eT Tryz.prog 62 3, eT Tryz.prog 62 4, eT Tryz.prog 62 5, eT Tryz.prog 62 6]) (RF.cons 9 1 (by kernel_rfl) (by kernel_rfl) (by kernel_rfl) (fun x => rfl) Pj (RF.cons 3 1 (by kernel_rfl) (by kernel_rfl) (by kernel_rfl) (fun x => rfl) rI (RF.cons 3 1 (by kernel_rfl) (by kernel_rfl) (by kernel_rfl) (fun x => rfl) rI (RF.cons 59 1 (by kernel_rfl) (by kernel_rfl) (by kernel_rfl) (fun x => rfl) RN (RF.cons 3 1 (by kernel_rfl) (by kernel_rfl) (by kernel_rfl) (fun x => rfl) rI (RF.cons 3 1 (by kernel_rfl) (by kernel_rfl) (by kernel_rfl) (fun x => rfl) rI (RF.cons 60 1 (by kernel_rfl) (by kernel_rfl) (by kernel_rfl) (fun x => rfl) KX RF.nil))))))) (by kernel_rfl) (by kernel_rfl) (by kernel_rfl)
  (fun y => (⟨y.1, y.2.1, y.2.2.1, y.2.2.2.1, y.2.2.2.2.1, y.2.2.2.2.2.1, y.2.2.2.2.2.2.1⟩ : ah)) (fun y => rfl) (fun y h => ⟨Nat.lt_trans h.1 (by decide), h.2.2.2.1, h.2.2.2.2.2.2.1⟩)
theorem Nc : Rd B 53 (fun xs : List ah => [PV.ro (aP.els xs)]) (fun xs => xs.length < 1000000000 ∧ ∀ x ∈ xs, H7 x) := by
 have h := Rd.list (B := B) (t := 53) (e := 62) 6 Pz (by kernel_rfl) (by kernel_rfl) (fun x => rfl)
 have e : (fun xs : List ah => [PV.ro (aP.els xs)]) = fun xs => [.ro (xs.map J3)] := by funext xs; rw [pr.hels]; rfl
 rw [e]; exact h
theorem RS : Rd B 48 (fun xs : List Int => [PV.ro (eI.els xs)]) (fun xs => xs.length < 1000000000) :=
 Rd.of (fun N => N1 (P := Tryz.prog) 48 3 (by kernel_rfl) (by kernel_rfl) (by kernel_rfl) N) (fun _ => rfl) (fun x _ h => by omega)
theorem QR : Rd B 101 (fun x : i8 => [PV.s (.string x.file), .ro (eI.els x.rows)]) (fun x : i8 => x.rows.length < 1000000000) :=
 Rd.struct (L := [eT Tryz.prog 101 0, eT Tryz.prog 101 1]) (RF.cons 9 1 (by kernel_rfl) (by kernel_rfl) (by kernel_rfl) (fun x => rfl) Pj (RF.cons 48 1 (by kernel_rfl) (by kernel_rfl) (by kernel_rfl) (fun x => rfl) RS RF.nil)) (by kernel_rfl) (by kernel_rfl) (by kernel_rfl)
  (fun y => (⟨y.1, y.2.1⟩ : i8)) (fun y => rfl) (fun y h => h.2.1)
theorem PG : Rd B 54 (fun xs : List i8 => [PV.ro (cF.els xs)]) (fun xs => xs.length < 1000000000 ∧ ∀ x ∈ xs, x.rows.length < 1000000000) := by
 have h := Rd.list (B := B) (t := 54) (e := 101) 1 QR (by kernel_rfl) (by kernel_rfl) (fun x => rfl)
 have e : (fun xs : List i8 => [PV.ro (cF.els xs)]) = fun xs => [.ro (xs.map (fun x : i8 => [PV.s (.string x.file), .ro (eI.els x.rows)]))] := by funext xs; rw [pr.hels]; rfl
 rw [e]; exact h
theorem OH : Rd B 50 (fun xs : List (List af) => [PV.ro ((eL ak).els xs)]) (fun xs => xs.length < 1000000000 ∧ ∀ x ∈ xs, x.length < 1000000000 ∧ ∀ v ∈ x, eu v < 1000000000) := by
 have h := Rd.list (B := B) (t := 50) (e := 59) 0 RN (by kernel_rfl) (by kernel_rfl) (fun x => rfl)
 have e : (fun xs : List (List af) => [PV.ro ((eL ak).els xs)]) = fun xs => [.ro (xs.map (fun xs : List af => [PV.ro (ak.els xs)]))] := by funext xs; rw [pr.hels]; rfl
 rw [e]; exact h
theorem QI : Rd B 105 (fun x : cp => [pi x.schema, PV.ro (eI.els x.ids), .ro ((eL ak).els x.keys), pi x.seq]) (fun x : cp => x.ids.length < 1000000000 ∧ x.keys.length < 1000000000 ∧ ∀ k ∈ x.keys, k.length < 1000000000 ∧ ∀ v ∈ k, eu v < 1000000000) :=
 Rd.struct (L := [eT Tryz.prog 105 0, eT Tryz.prog 105 1, eT Tryz.prog 105 2, eT Tryz.prog 105 3]) (RF.cons 3 1 (by kernel_rfl) (by kernel_rfl) (by kernel_rfl) (fun x => rfl) rI (RF.cons 48 1 (by kernel_rfl) (by kernel_rfl) (by kernel_rfl) (fun x => rfl) RS (RF.cons 50 1 (by kernel_rfl) (by kernel_rfl) (by kernel_rfl) (fun x => rfl) OH (RF.cons 3 1 (by kernel_rfl) (by kernel_rfl) (by kernel_rfl) (fun x => rfl) rI RF.nil)))) (by kernel_rfl) (by kernel_rfl) (by kernel_rfl)
  (fun y => (⟨y.1, y.2.1, y.2.2.1, y.2.2.2.1⟩ : cp)) (fun y => rfl) (fun y h => ⟨h.2.1, h.2.2.1⟩)
theorem PI : Rd B 55 (fun xs : List cp => [PV.ro (cf.els xs)]) (fun xs => xs.length < 1000000000 ∧ ∀ x ∈ xs, x.ids.length < 1000000000 ∧ x.keys.length < 1000000000 ∧ ∀ k ∈ x.keys, k.length < 1000000000 ∧ ∀ v ∈ k, eu v < 1000000000) := by
 have h := Rd.list (B := B) (t := 55) (e := 105) 3 QI (by kernel_rfl) (by kernel_rfl) (fun x => rfl)
 have e : (fun xs : List cp => [PV.ro (cf.els xs)]) = fun xs => [.ro (xs.map (fun x : cp => [pi x.schema, PV.ro (eI.els x.ids), .ro ((eL ak).els x.keys), pi x.seq]))] := by funext xs; rw [pr.hels]; rfl
 rw [e]; exact h
theorem O4 : Rd B 57 Jf (fun x : au => G9 x) :=
 Rd.struct (L := [eT Tryz.prog 57 0, eT Tryz.prog 57 1, eT Tryz.prog 57 2, eT Tryz.prog 57 3, eT Tryz.prog 57 4, eT Tryz.prog 57 5, eT Tryz.prog 57 6, eT Tryz.prog 57 7, eT Tryz.prog 57 8]) (RF.cons 3 1 (by kernel_rfl) (by kernel_rfl) (by kernel_rfl) (fun x => rfl) rI (RF.cons 3 1 (by kernel_rfl) (by kernel_rfl) (by kernel_rfl) (fun x => rfl) rI (RF.cons 3 1 (by kernel_rfl) (by kernel_rfl) (by kernel_rfl) (fun x => rfl) rI (RF.cons 3 1 (by kernel_rfl) (by kernel_rfl) (by kernel_rfl) (fun x => rfl) rI (RF.cons 3 1 (by kernel_rfl) (by kernel_rfl) (by kernel_rfl) (fun x => rfl) rI (RF.cons 3 1 (by kernel_rfl) (by kernel_rfl) (by kernel_rfl) (fun x => rfl) rI (RF.cons 53 1 (by kernel_rfl) (by kernel_rfl) (by kernel_rfl) (fun x => rfl) Nc (RF.cons 54 1 (by kernel_rfl) (by kernel_rfl) (by kernel_rfl) (fun x => rfl) PG (RF.cons 55 1 (by kernel_rfl) (by kernel_rfl) (by kernel_rfl) (fun x => rfl) PI RF.nil))))))))) (by kernel_rfl) (by kernel_rfl) (by kernel_rfl)
  (fun y => (⟨y.1, y.2.1, y.2.2.1, y.2.2.2.1, y.2.2.2.2.1, y.2.2.2.2.2.1, y.2.2.2.2.2.2.1, y.2.2.2.2.2.2.2.1, y.2.2.2.2.2.2.2.2.1⟩ : au)) (fun y => rfl) (fun y h => ⟨h.2.2.2.2.2.2.1, h.2.2.2.2.2.2.2.1, h.2.2.2.2.2.2.2.2.1⟩)
theorem Ol : Rd B 24 (fun xs : List au => [PV.ro (aH.els xs)]) (fun xs => xs.length < 1000000000 ∧ ∀ x ∈ xs, G9 x) := by
 have h := Rd.list (B := B) (t := 24) (e := 57) 8 O4 (by kernel_rfl) (by kernel_rfl) (fun x => rfl)
 have e : (fun xs : List au => [PV.ro (aH.els xs)]) = fun xs => [.ro (xs.map Jf)] := by funext xs; rw [pr.hels]; rfl
 rw [e]; exact h
theorem Qw : Rd B 67 (fun x : j9 => [PV.s (.string x.name), .s (.bool x.branch), pi x.snapshot]) (fun x : j9 => x.name.size < 1000000000) :=
 Rd.struct (L := [eT Tryz.prog 67 0, eT Tryz.prog 67 1, eT Tryz.prog 67 2]) (RF.cons 9 1 (by kernel_rfl) (by kernel_rfl) (by kernel_rfl) (fun x => rfl) Pj (RF.cons 4 1 (by kernel_rfl) (by kernel_rfl) (by kernel_rfl) (fun x => rfl) Sg (RF.cons 3 1 (by kernel_rfl) (by kernel_rfl) (by kernel_rfl) (fun x => rfl) rI RF.nil))) (by kernel_rfl) (by kernel_rfl) (by kernel_rfl)
  (fun y => (⟨y.1, y.2.1, y.2.2.1⟩ : j9)) (fun y => rfl) (fun y h => Nat.lt_trans h.1 (by decide))
theorem PK : Rd B 25 (fun xs : List j9 => [PV.ro (gY.els xs)]) (fun xs => xs.length < 1000000000 ∧ ∀ x ∈ xs, x.name.size < 1000000000) := by
 have h := Rd.list (B := B) (t := 25) (e := 67) 2 Qw (by kernel_rfl) (by kernel_rfl) (fun x => rfl)
 have e : (fun xs : List j9 => [PV.ro (gY.els xs)]) = fun xs => [.ro (xs.map (fun x : j9 => [PV.s (.string x.name), .s (.bool x.branch), pi x.snapshot]))] := by funext xs; rw [pr.hels]; rfl
 rw [e]; exact h
theorem PQ : Rd B 72 (fun x : nK => [PV.s (.string x.name), .s (.string x.value)]) (fun x : nK => x.name.size < 1000000000 ∧ x.value.size < 100000000) :=
 Rd.struct (L := [eT Tryz.prog 72 0, eT Tryz.prog 72 1]) (RF.cons 9 1 (by kernel_rfl) (by kernel_rfl) (by kernel_rfl) (fun x => rfl) Pj (RF.cons 9 1 (by kernel_rfl) (by kernel_rfl) (by kernel_rfl) (fun x => rfl) Pj RF.nil)) (by kernel_rfl) (by kernel_rfl) (by kernel_rfl)
  (fun y => (⟨y.1, y.2.1⟩ : nK)) (fun y => rfl) (fun y h => ⟨Nat.lt_trans h.1 (by decide), Nat.lt_trans h.2.1 (by decide)⟩)
theorem NB : Rd B 26 (fun xs : List nK => [PV.ro (eF.els xs)]) (fun xs => xs.length < 1000000000 ∧ ∀ x ∈ xs, x.name.size < 1000000000 ∧ x.value.size < 100000000) := by
 have h := Rd.list (B := B) (t := 26) (e := 72) 1 PQ (by kernel_rfl) (by kernel_rfl) (fun x => rfl)
 have e : (fun xs : List nK => [PV.ro (eF.els xs)]) = fun xs => [.ro (xs.map (fun x : nK => [PV.s (.string x.name), .s (.string x.value)]))] := by funext xs; rw [pr.hels]; rfl
 rw [e]; exact h
theorem Ri : Rd B 22 (fun xs : List (List ac) => [PV.ro ((eL ae).els xs)]) (fun xs => xs.length < 1000000000 ∧ ∀ x ∈ xs, eG x < 1000000000 - 1) := by
 have h := Rd.list (B := B) (t := 22) (e := 33) 0 Sk (by kernel_rfl) (by kernel_rfl) (fun x => rfl)
 have e : (fun xs : List (List ac) => [PV.ro ((eL ae).els xs)]) = fun xs => [.ro (xs.map (fun fs : List ac => [PV.ro (ae.els fs)]))] := by funext xs; rw [pr.hels]; rfl
 rw [e]; exact h
theorem Rn : Rd B 23 (fun xs : List di => [PV.ro (cX.els xs)]) (fun xs => xs.length < 1000000000 ∧ ∀ x ∈ xs, x.fields.length < 1000000000) := by
 have h := Rd.list (B := B) (t := 23) (e := 36) 0 RZ (by kernel_rfl) (by kernel_rfl) (fun x => rfl)
 have e : (fun xs : List di => [PV.ro (cX.els xs)]) = fun xs => [.ro (xs.map (fun x : di => [PV.ro (aL.els x.fields)]))] := by funext xs; rw [pr.hels]; rfl
 rw [e]; exact h
abbrev Mw (x : aF) : List PV := [.ro ((eL ae).els x.schemas), .ro (cX.els x.specs), pi x.nextField, pi x.nextSeq, pi x.nextSnap, pi x.purges, .ro (aH.els x.snapshots), .ro (gY.els x.refs), .ro (eF.els x.props)]
theorem My : Rd B 28 Mw (fun x : aF => rx x) :=
 Rd.struct (L := [eT Tryz.prog 28 0, eT Tryz.prog 28 1, eT Tryz.prog 28 2, eT Tryz.prog 28 3, eT Tryz.prog 28 4, eT Tryz.prog 28 5, eT Tryz.prog 28 6, eT Tryz.prog 28 7, eT Tryz.prog 28 8]) (RF.cons 22 1 (by kernel_rfl) (by kernel_rfl) (by kernel_rfl) (fun x => rfl) Ri (RF.cons 23 1 (by kernel_rfl) (by kernel_rfl) (by kernel_rfl) (fun x => rfl) Rn (RF.cons 3 1 (by kernel_rfl) (by kernel_rfl) (by kernel_rfl) (fun x => rfl) rI (RF.cons 3 1 (by kernel_rfl) (by kernel_rfl) (by kernel_rfl) (fun x => rfl) rI (RF.cons 3 1 (by kernel_rfl) (by kernel_rfl) (by kernel_rfl) (fun x => rfl) rI (RF.cons 3 1 (by kernel_rfl) (by kernel_rfl) (by kernel_rfl) (fun x => rfl) rI (RF.cons 24 1 (by kernel_rfl) (by kernel_rfl) (by kernel_rfl) (fun x => rfl) Ol (RF.cons 25 1 (by kernel_rfl) (by kernel_rfl) (by kernel_rfl) (fun x => rfl) PK (RF.cons 26 1 (by kernel_rfl) (by kernel_rfl) (by kernel_rfl) (fun x => rfl) NB RF.nil))))))))) (by kernel_rfl) (by kernel_rfl) (by kernel_rfl)
  (fun y => (⟨y.1, y.2.1, y.2.2.1, y.2.2.2.1, y.2.2.2.2.1, y.2.2.2.2.2.1, y.2.2.2.2.2.2.1, y.2.2.2.2.2.2.2.1, y.2.2.2.2.2.2.2.2.1⟩ : aF)) (fun y => rfl) (fun y h => ⟨h.1, h.2.1, h.2.2.2.2.2.2.1, h.2.2.2.2.2.2.2.1, h.2.2.2.2.2.2.2.2.1⟩)
noncomputable def Pr (m : aF) : Nat := @ite _ (rx m) (Classical.propDecidable _) 1 1048577
theorem Oc {m : aF} (h : Pr m ≤ 1048576) : rx m := by
 unfold Pr at h
 split at h
 ·assumption
 ·omega
theorem Ny (N : Nat) : nB B Tryz.prog N 28 Mw (fun _ => True) Pr := by
 intro H enc w base spare held im cs d ps hd hb
 by_cases hs : B.f d ≤ 1048576
 ·obtain ⟨x, h1, h2, _⟩ := My 1048576 (B.f d) hs hd (Nat.le_refl _)
  refine ⟨x, h1, trivial, ?_⟩
  unfold Pr
  rw [if_pos (h2 (Nat.le_refl _))]
  exact B.one d
 ·obtain ⟨x, h1, _, _⟩ := My N N (Nat.le_refl _) hd hb
  refine ⟨x, h1, trivial, ?_⟩
  unfold Pr
  split <;> omega
end Go.Proofs.YtikbfjpcmalmlaaGreatDoor
namespace Go.Proofs.YtikbfjpcmalmlaaGreatDoor
open Go Go.SX Go.SX.Cal Go.ChangeShapes Go.WideShapes Go.ChangeAt Go.RowKit

theorem yc {H : Type} : ∀ l : List (DataW H), Rows.uptoBulkAll l = (l.map Rows.uptoBulk).sum
 | [] => by simp [Rows.uptoBulkAll]
 | d :: l => by simp [Rows.uptoBulkAll, yc l]
def Pv : tz where
 f := Rows.uptoBulk
 one d := by
  cases d with
  | lit l => cases l <;> simp [Rows.uptoBulk]
  | _ => simp [Rows.uptoBulk]
 str b := by simp [Rows.uptoBulk]
 sl e s := by simp only [Rows.uptoBulk, yc]; omega
 ag ps := by simp only [Rows.uptoBulk, yc]; omega
theorem own : ownKnob Tryz.prog.godebug = none := by kernel_rfl
theorem Lq : laidOutB Tryz.prog = true := by kernel_rfl
set_option maxRecDepth 100000 in
theorem LM : U8Extra Tryz.prog Mk := ⟨by kernel_rfl, by kernel_rfl, by kernel_rfl, by kernel_rfl, by kernel_rfl, by kernel_rfl, by kernel_rfl⟩
theorem Il {W : World} (hL : laidMetH Tryz.prog Rows.tableCheckMatchesSpecRow.laid W) : ∀ (b : Nat) (l : List Value), EH b = some l → b < W.heap.size ∧ PE W b l := by
 rw [MakeChecks.laidMetH_plain _ _ _ (by kernel_rfl)] at hL
 have h4 := Go.Lib.laidMet.reads hL (d := Rows.laid_unicode_utf8_acceptRanges) (.tail _ (.tail _ (.tail _ (.head _))))
 have h3 := Go.Lib.laidMet.reads hL (d := Rows.laid_unicode_utf8_first) (.tail _ (.tail _ (.tail _ (.tail _ (.tail _ (.tail _ (.head _)))))))
 rw [show Rows.laid_unicode_utf8_first = Lib.firstData from Pinned.utf8First_eq] at h3
 rw [show (Rows.laid_unicode_utf8_acceptRanges : DataW Unit) = Lib.acceptData by kernel_rfl] at h4
 obtain ⟨a, b⟩ := LS (utf8Tabs_of_readsT (U8Types.of196 JF) LM h3 h4)
 have lt : ∀ (g : Nat) (v : Value), W.cell? ⟨g, 0, Option.none⟩ = some v → g < W.heap.size := by
  intro g v h
  by_cases hg : g < W.heap.size
  ·exact hg
  ·simp [World.cell?, Array.getElem?_eq_none (Nat.le_of_not_lt hg)] at h
 intro g l hg
 unfold EH at hg
 split at hg
 ·rename_i e; subst e
  obtain rfl := Option.some.inj hg
  exact ⟨lt _ _ (a 0 _ rfl), a, fun h => absurd rfl h, fun h => absurd h (show ¬ (0 : Nat) = 3 by decide)⟩
 ·split at hg
  ·rename_i e; subst e
   obtain rfl := Option.some.inj hg
   exact ⟨lt _ _ (b 0 _ rfl), b, fun h => absurd rfl h, fun h => absurd h (show ¬ (0 : Nat) = 3 by decide)⟩
  ·cases hg
namespace TableCheckMatchesSpec
set_option maxRecDepth 100000 in
theorem I5 (H : Type) (enc : TypeId × Value → H) (W : World) (base : Nat) (args : Array Value) (ds gs : List (DataW H)) (before : List MemPlace)
  (hval : ∀ (j : Nat) t v, Tryz.f3.params[j]? = some t → args[j]? = some v → Value.okWide Tryz.prog W .any base t v)
  (hW : DataW.Whole enc Tryz.prog Tryz.f3.params.toList Rows.tableCheckMatchesSpecSpec.vars false W args.toList ds gs before) (hk : Rows.uptoSmall H (ds ++ gs) = true) (hL : laidMetH Tryz.prog Rows.tableCheckMatchesSpecRow.laid W) :
  Calls Tryz.prog 3 args W fun e W' => ∃ v, e = .returned v ∧ Rows.tableCheckMatchesSpecSpec.post enc Tryz.prog Tryz.f3 false true false false W args v W' := by
 have hW' := hW
 obtain ⟨p, q, hA0, hV, rfl, hfz, hnd⟩ := hW
 have hp : Tryz.f3.params = #[28] := by kernel_rfl
 have hA : DataW.TrodAll enc Tryz.prog W 0 (fun _ => true) true [28] args.toList ds p := by rw [hp] at hA0; exact hA0
 have hval' : ∀ (j : Nat) t v, (#[28] : Array TypeId)[j]? = some t → args[j]? = some v → Value.okWide Tryz.prog W .any base t v := by rw [hp] at hval; exact hval
 obtain ⟨v0, vs0, d0, ds0, p0, q0, hargs, rfl, rfl, h0, r0⟩ := trodAll_cons hA
 obtain ⟨rfl, rfl, rfl⟩ := trodAll_nil r0
 obtain rfl : args = #[v0] := by cases args; simp_all
 obtain ⟨x0, o0, w0, z0⟩ := Jd (B := Pv) (fun N => Ny N) (hval' 0 28 v0 rfl rfl) h0
 obtain ⟨rfl, rfl⟩ := trodVars_none hV
 have hsum : Pv.f d0 ≤ 1048576 := by
  have h := of_decide_eq_true hk
  simp only [List.append_nil, List.cons_append, List.nil_append, Rows.uptoBulkAll] at h
  show Rows.uptoBulk d0 ≤ 1048576
  omega
 have hc := qM x0 true (HP (Oc (by omega)))
 refine (hc.call (vs := [v0]) rfl ?_ (Il hL)).mono ?_
 ·intro j v a e1 e2
  match j, e1, e2 with
  | 0, e1, e2 => simp only [List.getElem?_cons_zero, List.getElem?_cons_succ, Option.some.injEq] at e1 e2; subst e1; subst e2; exact (FF (FZ (by kernel_rfl) (hval' 0 28 v0 rfl rfl)) o0)
  | j + 1, e1, e2 => simp at e1
 ·rintro e W' ⟨v, ι', rfl, hv, hk'⟩
  obtain rfl := L9 hv
  exact ⟨_, rfl, Ir hW' Lq (by kernel_rfl) hk' rfl 4 (by kernel_rfl) (by kernel_rfl) rfl⟩
end TableCheckMatchesSpec
end Go.Proofs.YtikbfjpcmalmlaaGreatDoor
namespace Go.Proofs.YtikbfjpcmalmlaaGreatDoor
open Go Go.SX Go.SX.Cal Go.ChangeShapes Go.WideShapes Go.ChangeAt Go.RowKit
namespace TableCheckMatchesSpec
set_option maxRecDepth 100000 in
theorem ID (os : Os) : laidMetH Tryz.prog Rows.tableCheckMatchesSpecUptoRow.laid ((World.laidAll Tryz.prog os Rows.tableCheckMatchesSpecUptoRow.laid).forCall (fun _ _ => 0) ⟨#[], #[.agg #[.slice none 0 0, .slice none 0 0, .int .i64 0, .int .i64 0, .int .i64 0, .int .i64 0, .slice none 0 0, .slice none 0 0, .slice none 0 0]], []⟩).memory := by
 rw [MakeChecks.laidMetH_plain _ _ _ (by kernel_rfl)]
 exact laidMet_laidAll _ (by kernel_rfl) (by kernel_rfl)
set_option maxRecDepth 100000 in
theorem reads (os : Os) {H : Type} (enc : TypeId × Value → H) : ∃ places, DataW.whole enc Tryz.prog ((World.laidAll Tryz.prog os Rows.tableCheckMatchesSpecUptoRow.laid).forCall (fun _ _ => 0) ⟨#[], #[.agg #[.slice none 0 0, .slice none 0 0, .int .i64 0, .int .i64 0, .int .i64 0, .int .i64 0, .slice none 0 0, .slice none 0 0, .slice none 0 0]], []⟩).memory Tryz.f3.params.toList Rows.tableCheckMatchesSpecSpec.vars false (#[.agg #[.slice none 0 0, .slice none 0 0, .int .i64 0, .int .i64 0, .int .i64 0, .int .i64 0, .slice none 0 0, .slice none 0 0, .slice none 0 0]] : Array Value).toList 8 = some ([.agg [.nil, .nil, .lit (.int .i64 0), .lit (.int .i64 0), .lit (.int .i64 0), .lit (.int .i64 0), .nil, .nil, .nil]], [], places) :=
 ⟨[], by kernel_rfl⟩
set_option maxRecDepth 100000 in
theorem Nq (os : Os) (started : os.Started) (H : Type) (enc : TypeId × Value → H) (F : Stop.Interp) :
  ReturnsInHanded {} Tryz.checked os 3 .any ((Rows.OpenSpec.upto Rows.tableCheckMatchesSpecSpec).preRow enc Tryz.prog Tryz.f3 Rows.tableCheckMatchesSpecUptoRow.domain false Rows.tableCheckMatchesSpecUptoRow.laid) (((Rows.OpenSpec.upto Rows.tableCheckMatchesSpecSpec).at F).post enc Tryz.prog Tryz.f3 false true false false) := by
 obtain ⟨places, hx⟩ := reads os enc
 refine returnsInHanded_of_row (C := Tryz.checked) (s := Rows.OpenSpec.upto Rows.tableCheckMatchesSpecSpec) own started (by kernel_rfl) Tryz.func3
  (witness_row_at (enc := enc) (C := Tryz.checked) false (World.laidAll Tryz.prog os Rows.tableCheckMatchesSpecUptoRow.laid) #[.agg #[.slice none 0 0, .slice none 0 0, .int .i64 0, .int .i64 0, .int .i64 0, .int .i64 0, .slice none 0 0, .slice none 0 0, .slice none 0 0]] (World.laidAll_os _ _ _) (by kernel_rfl) (by kernel_rfl) (by kernel_rfl)
   (OpenSpec.preRow_of_cond 8 hx (by kernel_rfl) (fun k hk => by cases hk; kernel_rfl) (by kernel_rfl) (ID os))) ?_
 intro W base args ds gs before hval hW _ hcond _ hL _ _
 exact I5 H enc W base args ds gs before hval hW (hcond _ rfl) hL
end TableCheckMatchesSpec
end Go.Proofs.YtikbfjpcmalmlaaGreatDoor
