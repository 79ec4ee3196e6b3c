/- Partitions: PartitionOf, Measure; the law. Partitions: the law, by the rows' bulk. -/
import Derived.Test.YtbfekiekbifgcaaGreatDoorLaB
set_option linter.unusedVariables false
set_option linter.unusedSimpArgs false
set_option linter.unnecessarySimpa false
namespace Go.Proofs.YtbfekiekbifgcaaGreatDoor
open Go Go.SX Go.SX.Cal
theorem CL {v : ac} (h : Lf v) : Ord.wfV v := by
 obtain ⟨k, n, sc, s, it⟩ := v
 obtain ⟨h1, h2, h3, h4, h5, h6, h7⟩ := h
 simp only at h1 h2 h3 h6
 subst h3
 simp only [Ord.wfV, Ord.wfL, Ord.i64]
 refine ⟨⟨by omega, by omega⟩, ⟨by omega, by omega⟩, ⟨by omega, by omega⟩, trivial⟩
theorem ET {v : ac} (h : Lf v) : bO v ≤ 257 := by
 rw [kM, h.it]
 by_cases h4 : v.kind = 4
 ·have := (h.txt h4).1; simp only [sizeL]; omega
 ·have := h.nos h4; simp only [sizeL]; omega
theorem Hs : Ord.wfV rY := by
 simp only [rY, Ord.wfV, Ord.wfL, Ord.i64]
 refine ⟨⟨by omega, by omega⟩, ⟨by omega, by omega⟩, ⟨by omega, by omega⟩, trivial⟩
theorem G2 : bO rY = 1 := by simp only [rY, bO, sizeL]; rfl
theorem Ld {k n sc : Int} {s : ByteArray} (hk : 0 ≤ k ∧ k ≤ 5) (hn : -9223372036854775808 ≤ n ∧ n ≤ 9223372036854775807) (hs : 0 ≤ sc ∧ sc ≤ 12) : Ord.wfV ⟨k, n, sc, s, []⟩ := by
 simp only [Ord.wfV, Ord.wfL, Ord.i64]
 exact ⟨⟨by omega, by omega⟩, ⟨by omega, by omega⟩, ⟨by omega, by omega⟩, trivial⟩
structure Pv (x : ac) : Prop where
 wf : Ord.wfV x
 sz : bO x ≤ 100000001
theorem LY (p : aR) (v : ac) (hv : bO v < 10000000) : ∃ x, iC p v = some x ∧ gQ p v = some x ∧ Pv x := by
 obtain ⟨x, h1, h2, h3⟩ := JW p v hv
 obtain ⟨y, g1, _, hsm⟩ := Mj p v hv
 obtain rfl : x = y := by rw [h1] at g1; exact Option.some.inj g1
 refine ⟨x, h1, h2, ?_, ?_⟩
 ·rcases h3 with rfl | ⟨h, hl, hk, rfl⟩
  ·exact Hs
  ·have hk1 := hl.k
   have hs1 := hl.sc
   generalize hx : IQ p v (Ac p h) (Tm.civ v.n).year (Tm.civ v.n).month = x at *
   have hkx : 0 ≤ x.kind ∧ x.kind ≤ 5 := by
    rw [← hx]; unfold IQ
    repeat' split
    all_goals first | (exact ⟨by decide, by decide⟩) | omega | (simp only; omega)
   have hsx : 0 ≤ x.scale ∧ x.scale ≤ 12 := by
    rw [← hx]; unfold IQ
    repeat' split
    all_goals first | (exact ⟨by decide, by decide⟩) | omega | (simp only; omega)
   obtain ⟨k, n, sc, s, it⟩ := x
   obtain ⟨a1, a2, a3, a4⟩ := hsm
   simp only at a1; subst a1
   exact Ld hkx a2 hsx
 ·rw [kM, hsm.it]
  have := hsm.s
  simp only [sizeL]; omega
theorem FE : ∀ {l : List ac}, (∀ x ∈ l, Pv x) → Ord.wfL l ∧ sizeL l ≤ l.length * 100000001
 | [], _ => ⟨trivial, by simp [sizeL]⟩
 | x :: l, h => by
  obtain ⟨h1, h2⟩ := FE (l := l) (fun y hy => h y (List.mem_cons_of_mem _ hy))
  have hx := h x (List.mem_cons_self ..)
  refine ⟨⟨hx.wf, h1⟩, ?_⟩
  have := hx.sz
  simp only [sizeL, List.length_cons]
  rw [Nat.add_mul]; omega
theorem FY {l : List ac} (h : ∀ x ∈ l, Pv x) (hl : l.length ≤ 2000000) : lg l l = some 0 := by
 obtain ⟨h1, h2⟩ := FE h
 have hs : sizeL l ≤ 2000000 * 100000001 := Nat.le_trans h2 (Nat.mul_le_mul_right _ hl)
 have hz : bO ⟨6, 0, 0, ByteArray.empty, l⟩ = sizeL l + 1 := by simp only [bO]; rw [show ByteArray.empty.size = 0 from rfl]; omega
 have hw : Ord.wfV ⟨6, 0, 0, ByteArray.empty, l⟩ := by
  simp only [Ord.wfV, Ord.i64]
  exact ⟨⟨by omega, by omega⟩, ⟨by omega, by omega⟩, ⟨by omega, by omega⟩, h1⟩
 unfold lg
 rw [Ord.rcompareV_eq (sizeL l + 1) _ _ aV (by rw [hz]; exact Nat.le_refl _) (by rw [hz]; omega) hw hw (by rw [sB]; omega), bS, Ord.cmpV_refl]
theorem EF {fs : List ah} {r : List ac} (hn : fs.length < 1000000000) (rec1 : List ac → Int → Option (List ac)) (x1 : Int) (e : bk) {i : Nat} (hu : ∀ (j : Nat) (h : j < fs.length), i < j → fs[j].id ≠ e.source) (l : List ac) : ∀ (m f j : Nat), j + m = fs.length → m < f → i < j →
  bR rec1 fs r x1 e f l (j : Int) = iD rec1 x1 l := by
 intro m
 induction m with
 | zero =>
  intro f j h hf hi
  obtain ⟨q, rfl⟩ := fu hf
  rw [bR, Ei (by omega), iF]
 | succ m ih =>
  intro f j h hf hi
  obtain ⟨q, rfl⟩ := fu hf
  have hj : j < fs.length := by omega
  rw [bR, bn hj, iT, aZ hj, bS, beq_eq_false_iff_ne.2 (hu j hj hi), iF]
  unfold fY
  rw [aG hj hn]
  exact ih q (j + 1) (by omega) (by omega) (by omega)
theorem Jm {fs : List ah} {r : List ac} (hn : fs.length < 1000000000) (hr : r.length = fs.length) (rec1 : List ac → Int → Option (List ac)) (x1 : Int) (e : bk) {i : Nat} (hi : HN fs e.source i) (hu : ∀ (j : Nat) (h : j < fs.length), i < j → fs[j].id ≠ e.source) {x : ac} (hx : gQ e.transform (r[i]'(by rw [hr]; exact hi.lt)) = some x) (l : List ac) (hl : l.length < 1000000000) :
  ∀ (m f j : Nat), j + m = i → fs.length < f + j → bR rec1 fs r x1 e f l (j : Int) = iD rec1 x1 (l ++ [x]) := by
 intro m
 induction m with
 | zero =>
  intro f j h hf
  have e0 : j = i := by omega
  subst e0
  have hj := hi.lt
  obtain ⟨q, rfl⟩ := fu (show 0 < f by omega)
  rw [bR, bn hj, iT, aZ hj, bS, hi.eq hj, beq_self_eq_true, iT, aZ (by rw [hr]; exact hj), bS, hx, bS, gP (by omega)]
  unfold fY
  rw [aG hj hn]
  exact EF hn rec1 x1 e hu (l ++ [x]) (fs.length - (j + 1)) q (j + 1) (by omega) (by omega) (by omega)
 | succ m ih =>
  intro f j h hf
  have hj : j < fs.length := by have := hi.lt; omega
  obtain ⟨q, rfl⟩ := fu (show 0 < f by omega)
  rw [bR, bn hj, iT, aZ hj, bS, beq_eq_false_iff_ne.2 (hi.no j hj (by omega)), iF]
  unfold fY
  rw [aG hj hn]
  exact ih q (j + 1) (by omega) (by omega)
theorem Dt (l : List ac) : bX l = some l := by
 unfold bX
 rw [gP ⟨by omega, by omega, by omega, by omega⟩]
 simp
theorem Gf {p : fq} {fs : List ah} {r : List ac} (hn : fs.length < 1000000000) (hp : p.fields.length < 1000000000) (hr : r.length = fs.length) (hs : ∀ v ∈ r, bO v < 10000000)
  (hu : ∀ (j j' : Nat) (h : j < fs.length) (h' : j' < fs.length), fs[j].id = fs[j'].id → j = j') (ht : ∀ (k : Nat) (h : k < p.fields.length), ∃ i, HN fs p.fields[k].source i) : ∀ (m f j : Nat) (l : List ac), j + m = p.fields.length → m < f → l.length = j →
  ∃ xs, cW fs p r f l (j : Int) = some (l ++ xs, 0) ∧ cf fs p r f l (j : Int) = some (l ++ xs) ∧ xs.length = m ∧ ∀ x ∈ xs, Pv x := by
 intro m
 induction m with
 | zero =>
  intro f j l h hf hl
  obtain ⟨q, rfl⟩ := fu hf
  refine ⟨[], ?_, ?_, rfl, fun x hx => by cases hx⟩
  ·rw [cW, Ei (by omega), iF]
   unfold kv
   rw [Dt, bS, List.append_nil]
  ·rw [cf, Ei (by omega), iF, List.append_nil]; rfl
 | succ m ih =>
  intro f j l h hf hl
  obtain ⟨q, rfl⟩ := fu hf
  have hj : j < p.fields.length := by omega
  obtain ⟨i, hi⟩ := ht j hj
  have hir : i < r.length := by rw [hr]; exact hi.lt
  obtain ⟨x, t1, t2, hpv⟩ := LY p.fields[j].transform r[i] (hs _ (List.getElem_mem hir))
  obtain ⟨xs, g1, g2, g3, g4⟩ := ih q (j + 1) (l ++ [x]) (by omega) (by omega) (by simp [hl])
  refine ⟨x :: xs, ?_, ?_, by simp [g3], fun y hy => ?_⟩
  ·rw [cW, bn hj, iT, aZ hj, bS, rQ hn hi, bS, aZ hir, bS, t1, bS, gP (by omega), aG hj hp, g1]
   simp
  ·rw [cf, bn hj, iT, aZ hj, bS]
   have := Jm (r := r) hn hr (cf fs p r q) (j : Int) p.fields[j] hi (fun j' h' hlt hid => by
    have := hu j' i h' hi.lt (by rw [hid, hi.eq hi.lt]); omega) t2 l (by omega) i aV 0 (by omega) (by rw [sB]; omega)
   rw [show ((0 : Nat) : Int) = 0 from rfl] at this
   rw [this]
   unfold iD
   rw [aG hj hp, g2]
   simp
  ·rcases List.mem_cons.1 hy with rfl | hy
   ·exact hpv
   ·exact g4 y hy
structure Rm (fs : List ah) (p : fq) (rows : List (List ac)) : Prop where
 f : sizeF fs ≤ 1048576
 p : p.fields.length ≤ 1048576
 n : rows.length ≤ 1048576
 r : ∀ r ∈ rows, sizeL r ≤ 1048576
theorem Nq {fs : List ah} (hf : sizeF fs ≤ 1048576) (h : Rw.sc fs = 0) : ∀ (j j' : Nat) (h : j < fs.length) (h' : j' < fs.length), fs[j].id = fs[j'].id → j = j' := by
 intro j j' h1 h2 e
 exact (Rw.Uq.inj (Rw.sc_zero (by omega) h).2 (List.getElem?_eq_getElem h1) (List.getElem?_eq_getElem h2) e.symm).symm
theorem JI {fs : List ah} {p : fq} {r : List ac} (hf : sizeF fs ≤ 1048576) (hp : p.fields.length ≤ 1048576) (hr : sizeL r ≤ 1048576) : ∃ xs c, kl fs p r = some (xs, c) ∧ kY fs p r = some (xs, c) ∧ xs.length ≤ 1048576 ∧ ∀ x ∈ xs, Pv x := by
 have hn : fs.length < 1000000000 := by have := eg fs; omega
 have h1 := Rw.c_CheckRows (fs := fs) (rows := [r]) (by omega) (fun q hq => by simp at hq; subst hq; omega) (by simp)
 have h2 := Rw.r_CheckRows (fs := fs) (rows := [r]) (by omega) (fun q hq => by simp at hq; subst hq; omega) (by simp)
 unfold kl kY
 rw [h1, h2, bS, bS]
 by_cases h0 : Rw.crF fs [r] = 0
 ·rw [h0, show ((0 : Int) != 0) = false from rfl, iF, iF]
  obtain ⟨z1, z2⟩ := Rw.crF_zero h0
  obtain ⟨hlen, _⟩ := Rw.rowsF_at z2 r (List.mem_singleton.2 rfl)
  obtain ⟨c, c1, c2, c3⟩ := G6 p (fs := fs) (by omega) (by omega)
  rw [c1, c2, bS, bS]
  by_cases hc : c = 0
  ·subst hc
   rw [show ((0 : Int) != 0) = false from rfl, iF, iF]
   obtain ⟨xs, g1, g2, g3, g4⟩ := Gf (p := p) (r := r) hn (by omega) hlen (fun v hv => by have := cY hv; omega) (Nq hf z1) (c3 rfl) p.fields.length aV 0 [] (by omega) (by rw [sB]; omega) rfl
   rw [show ((0 : Nat) : Int) = 0 from rfl] at g1 g2
   refine ⟨xs, 0, g1, ?_, by omega, g4⟩
   unfold o9
   rw [g2]; rfl
  ·have hne : (c != 0) = true := bne_iff_ne.2 hc
   rw [hne, iT, iT]
   exact ⟨[], c, rfl, rfl, Nat.zero_le _, fun x hx => by cases hx⟩
 ·have hne : (Rw.crF fs [r] != 0) = true := bne_iff_ne.2 h0
  rw [hne, iT, iT]
  exact ⟨[], _, rfl, rfl, Nat.zero_le _, fun x hx => by cases hx⟩
theorem MB {f : ah} {v : ac} (hl : f.type.kind ≠ 6 ∧ f.type.kind ≠ 7) (hT : gi f.type < 1000000000) (hv : bO v < 1000000000) (hc : Rw.ck f.type v = 0) (h0 : v.kind ≠ 0) : Lf v := by
 obtain ⟨e, h1, h2, h3⟩ := Rw.checkType_eq f.type hT
 have hc1 := Rw.ck_c hv hT
 rw [hc] at hc1
 unfold jF at hc1
 rw [h1, xp v hv, bS, bS] at hc1
 by_cases he : e = 0
 ·subst he
  rw [show ((0 : Int) != 0) = false from rfl, iF] at hc1
  cases hs : jM v with
  | false => rw [hs] at hc1; cases hc1
  | true =>
   have hk : v.kind = 0 ∨ v.kind = f.type.kind := by
    exact Rw.of_kind (Rw.ck_ok (f := ⟨f.id, f.name, false, f.type⟩) hv hT hc (by simp)).o
   rcases hk with hk | hk
   ·exact absurd hk h0
   ·exact H6 hs (by rw [hk]; exact hl.1) (by rw [hk]; exact hl.2) h0
 ·rw [show (e != (0 : Int)) = true from bne_iff_ne.2 he, iT] at hc1
  cases hc1; exact absurd rfl he
structure MM where
 n : Int
 mn : ac
 mx : ac
noncomputable def wC (s : MM) (v : ac) : MM :=
 if v.kind = 0 then ⟨s.n + 1, s.mn, s.mx⟩ else if s.mn.kind = 0 then ⟨s.n, v, v⟩
 else ⟨s.n, if Ord.cmpV v s.mn < 0 then v else s.mn, if 0 < Ord.cmpV v s.mx then v else s.mx⟩
structure Jw (s : MM) (k : Nat) : Prop where
 n : 0 ≤ s.n ∧ s.n ≤ k
 a : (s.mn = rY ∧ s.mx = rY) ∨ (Lf s.mn ∧ Lf s.mx ∧ Ord.cmpV s.mn s.mx ≤ 0)
theorem Lq {v : ac} (h : Lf v) : v.kind ≠ 0 := by have := h.k; omega
theorem Jw.step {s : MM} {k : Nat} (h : Jw s k) {v : ac} (hv : v.kind = 0 ∨ Lf v) : Jw (wC s v) (k + 1) := by
 have hn := h.n
 unfold wC
 by_cases h0 : v.kind = 0
 ·rw [if_pos h0]; exact ⟨by simp only; omega, h.a⟩
 ·have hl : Lf v := hv.resolve_left h0
  rw [if_neg h0]
  rcases h.a with ⟨a1, a2⟩ | ⟨a1, a2, a3⟩
  ·rw [if_pos (by rw [a1]; rfl)]
   exact ⟨by simp only; omega, .inr ⟨hl, hl, by simp only [Ord.cmpV_refl]; omega⟩⟩
  ·rw [if_neg (Lq a1)]
   refine ⟨by simp only; omega, .inr ?_⟩
   simp only
   have t1 := Ord.cmpV_anti v s.mn
   have t2 := Ord.cmpV_anti v s.mx
   by_cases c1 : Ord.cmpV v s.mn < 0
   ·rw [if_pos c1]
    by_cases c2 : 0 < Ord.cmpV v s.mx
    ·rw [if_pos c2]; exact ⟨hl, hl, by rw [Ord.cmpV_refl]; omega⟩
    ·rw [if_neg c2]; exact ⟨hl, a2, by omega⟩
   ·rw [if_neg c1]
    by_cases c2 : 0 < Ord.cmpV v s.mx
    ·rw [if_pos c2]; exact ⟨a1, hl, by omega⟩
    ·rw [if_neg c2]; exact ⟨a1, a2, a3⟩
theorem below {s : MM} {k : Nat} (h : Jw s k) (hm : s.mn.kind ≠ 0) {v : ac} (hv : Ord.cmpV v s.mn < 0) : ¬ 0 < Ord.cmpV v s.mx := by
 rcases h.a with ⟨a1, a2⟩ | ⟨a1, a2, a3⟩
 ·rw [a1] at hm; exact absurd rfl hm
 ·have := (Ord.cmpV_tri v s.mn s.mx).1 (by omega) a3
  omega
theorem Ip {a b : ac} (ha : Lf a) (hb : Lf b) : el aV a b = some (Ord.cmpV a b) ∧ bA aV a b = some (Ord.cmpV a b) := by
 have h := ET ha
 exact ⟨Ord.compare_eq 257 a b aV h (by omega) (CL ha) (CL hb) (by rw [sB]; omega), Ord.rcompareV_eq 257 a b aV h (by omega) (CL ha) (CL hb) (by rw [sB]; omega)⟩
theorem Km {rows : List (List ac)} (hn : rows.length < 1000000000) {i : Nat} (rec1 rec2 : List aY → Int → Option (List aY × Int)) (l1 : List aY) (x1 : Int) (hx1 : x1 = i) (e1 : ah) {s : MM} {q j : Nat} (hs : Jw s j) (hj : j < rows.length) (hi : i < rows[j].length) (hv : (rows[j])[i].kind = 0 ∨ Lf (rows[j])[i]) :
  bC rec1 rows l1 x1 e1 (q + 1) s.n s.mn.kind s.mn.n s.mn.scale s.mn.s s.mn.items s.mx.kind s.mx.n s.mx.scale s.mx.s s.mx.items (j : Int) =
   (let t := wC s (rows[j])[i]; bC rec1 rows l1 x1 e1 q t.n t.mn.kind t.mn.n t.mn.scale t.mn.s t.mn.items t.mx.kind t.mx.n t.mx.scale t.mx.s t.mx.items ((j + 1 : Nat) : Int)) ∧
  bT rec2 rows l1 x1 e1 (q + 1) s.n s.mn.kind s.mn.n s.mn.scale s.mn.s s.mn.items s.mx.kind s.mx.n s.mx.scale s.mx.s s.mx.items (j : Int) =
   (let t := wC s (rows[j])[i]; bT rec2 rows l1 x1 e1 q t.n t.mn.kind t.mn.n t.mn.scale t.mn.s t.mn.items t.mx.kind t.mx.n t.mx.scale t.mx.s t.mx.items ((j + 1 : Nat) : Int)) := by
 subst hx1
 have hsn := hs.n
 rw [bC, bT, bn hj, iT, iT, aZ hj, bS, bS, aZ hi, bS, bS]
 generalize (rows[j])[i] = v at *
 obtain ⟨n, mn, mx⟩ := s
 simp only at hs hsn ⊢
 have eta : ∀ g : ac, ac.mk g.kind g.n g.scale g.s g.items = g := fun g => by cases g; rfl
 by_cases h0 : v.kind = 0
 ·rw [h0, show ((0 : Int) == 0) = true from rfl, iT, iT]
  unfold dQ di
  rw [aG hj hn, fi (by omega) (by omega)]
  unfold wC
  rw [if_pos h0]
  exact ⟨rfl, rfl⟩
 ·have hl : Lf v := hv.resolve_left h0
  rw [beq_eq_false_iff_ne.2 h0, iF, iF]
  by_cases hm : mn.kind = 0
  ·have hx : mx.kind = 0 := by
    rcases hs.a with ⟨_, a2⟩ | ⟨a1, _, _⟩
    ·simp only at a2; rw [a2]; rfl
    ·exact absurd hm (Lq a1)
   rw [hm, show ((0 : Int) == 0) = true from rfl, iT, iT]
   unfold gI gO
   rw [iT, hx, show ((0 : Int) == 0) = true from rfl, iT]
   unfold fj
   rw [iT]
   unfold dQ di
   rw [aG hj hn]
   unfold wC
   rw [if_neg h0, if_pos hm]
   exact ⟨rfl, rfl⟩
  ·have hlm : Lf mn ∧ Lf mx := by
    rcases hs.a with ⟨a1, _⟩ | ⟨a1, a2, _⟩
    ·simp only at a1; rw [a1] at hm; exact absurd rfl hm
    ·exact ⟨a1, a2⟩
   obtain ⟨p1, r1⟩ := Ip hl hlm.1
   obtain ⟨p2, r2⟩ := Ip hl hlm.2
   have hbel := below hs hm (v := v)
   simp only at hbel
   have hst : wC ⟨n, mn, mx⟩ v = ⟨n, if Ord.cmpV v mn < 0 then v else mn, if 0 < Ord.cmpV v mx then v else mx⟩ := by
    unfold wC
    rw [if_neg h0, if_neg hm]
   rw [hst, beq_eq_false_iff_ne.2 hm, iF, iF, eta, eta, p1, r1, bS, bS]
   have hmx0 : (mx.kind == (0 : Int)) = false := beq_eq_false_iff_ne.2 (Lq hlm.2)
   by_cases c1 : Ord.cmpV v mn < 0
   ·rw [decide_eq_true c1, iT]
    have c2 := hbel c1
    simp only [if_pos c1, if_neg c2]
    unfold gI gO
    rw [iT, hmx0, iF, eta, p2, bS, decide_eq_false c2]
    unfold fj
    rw [iF]
    unfold dQ di
    rw [aG hj hn]
    exact ⟨rfl, rfl⟩
   ·rw [decide_eq_false c1, iF, r2, bS]
    simp only [if_neg c1]
    unfold gI gO
    rw [iF, hmx0, iF, eta, p2, bS]
    by_cases c2 : 0 < Ord.cmpV v mx
    ·rw [decide_eq_true c2, iT]
     simp only [if_pos c2]
     unfold fj
     rw [iT]
     unfold dQ di
     rw [aG hj hn]
     exact ⟨rfl, rfl⟩
    ·rw [decide_eq_false c2, iF]
     simp only [if_neg c2]
     unfold fj
     rw [iF]
     unfold dQ di
     rw [aG hj hn]
     exact ⟨rfl, rfl⟩
theorem KR {rows : List (List ac)} (hn : rows.length < 1000000000) {i : Nat} (hi : ∀ r ∈ rows, ∃ h : i < r.length, r[i].kind = 0 ∨ Lf r[i]) (rec1 rec2 : List aY → Int → Option (List aY × Int)) (l1 : List aY) (x1 : Int) (hx1 : x1 = i) (e1 : ah) : ∀ (m f j : Nat) (s : MM), j + m = rows.length → m < f → Jw s j →
  ∃ t, Jw t rows.length ∧ bC rec1 rows l1 x1 e1 f s.n s.mn.kind s.mn.n s.mn.scale s.mn.s s.mn.items s.mx.kind s.mx.n s.mx.scale s.mx.s s.mx.items (j : Int) = kN rec1 l1 x1 e1 t.n t.mn.kind t.mn.n t.mn.scale t.mn.s t.mn.items t.mx.kind t.mx.n t.mx.scale t.mx.s t.mx.items ∧
   bT rec2 rows l1 x1 e1 f s.n s.mn.kind s.mn.n s.mn.scale s.mn.s s.mn.items s.mx.kind s.mx.n s.mx.scale s.mx.s s.mx.items (j : Int) = lN rec2 l1 x1 e1 t.n t.mn.kind t.mn.n t.mn.scale t.mn.s t.mn.items t.mx.kind t.mx.n t.mx.scale t.mx.s t.mx.items := by
 intro m
 induction m with
 | zero =>
  intro f j s h hf hs
  obtain ⟨q, rfl⟩ := fu hf
  refine ⟨s, by rw [show rows.length = j by omega]; exact hs, ?_, ?_⟩
  ·rw [bC, Ei (by omega), iF]
  ·rw [bT, Ei (by omega), iF]
 | succ m ih =>
  intro f j s h hf hs
  obtain ⟨q, rfl⟩ := fu hf
  have hj : j < rows.length := by omega
  obtain ⟨h1, h2⟩ := hi _ (List.getElem_mem hj)
  obtain ⟨a, b⟩ := Km hn rec1 rec2 l1 x1 hx1 e1 (q := q) hs hj h1 h2
  rw [a, b]
  exact ih q (j + 1) (wC s (rows[j])[i]) (by omega) (by omega) (hs.step h2)
def MP (x : aY) : Prop := (x.min = rY ∨ Lf x.min) ∧ (x.max = rY ∨ Lf x.max)
theorem Jw.sts {t : MM} {k : Nat} (h : Jw t k) (id : Int) : MP ⟨id, t.n, t.mn, t.mx⟩ := by
 rcases h.a with ⟨a1, a2⟩ | ⟨a1, a2, _⟩
 ·exact ⟨.inl a1, .inl a2⟩
 ·exact ⟨.inr a1, .inr a2⟩
theorem Ef (l : List aY) : dD l = some l := by
 unfold dD
 rw [gP ⟨by omega, by omega, by omega, by omega⟩]
 simp
theorem Gv {fs : List ah} {rows : List (List ac)} (hf : sizeF fs < 1000000000) (hn : rows.length < 1000000000) (hr : ∀ r ∈ rows, r.length = fs.length ∧ sizeL r < 1000000000 ∧ Rw.rowF fs r = 0) : ∀ (m f j : Nat) (l : List aY), j + m = fs.length → m < f → l.length ≤ j →
  ∃ xs, bv fs rows f l (j : Int) = some (l ++ xs, 0) ∧ ce fs rows f l (j : Int) = some (l ++ xs, 0) ∧ xs.length ≤ m ∧ ∀ x ∈ xs, MP x := by
 have hfn : fs.length < 1000000000 := by have := eg fs; omega
 intro m
 induction m with
 | zero =>
  intro f j l h hq hl
  obtain ⟨q, rfl⟩ := fu hq
  refine ⟨[], ?_, ?_, Nat.le_refl _, fun x hx => by cases hx⟩
  ·rw [bv, Ei (by omega), iF]
   unfold mZ
   rw [Ef, bS, List.append_nil]
  ·rw [ce, Ei (by omega), iF, List.append_nil]; rfl
 | succ m ih =>
  intro f j l h hq hl
  obtain ⟨q, rfl⟩ := fu hq
  have hj : j < fs.length := by omega
  rw [bv, ce, bn hj, iT, iT, aZ hj, bS, bS, E6, show eY fs[j].type.kind = some (decide (fs[j].type.kind ≠ 6 ∧ fs[j].type.kind ≠ 7)) from Rw.leafR fs[j].type.kind, bS, bS]
  have hT : gi fs[j].type < 1000000000 := by
   have h1 := fm (List.getElem_mem hj)
   have h2 := eM fs[j]
   omega
  by_cases hk : fs[j].type.kind ≠ 6 ∧ fs[j].type.kind ≠ 7
  ·rw [decide_eq_true hk, Bool.not_true, iF, iF]
   have hi : ∀ r ∈ rows, ∃ h : j < r.length, r[j].kind = 0 ∨ Lf r[j] := by
    intro r hrm
    obtain ⟨h1, h2, h3⟩ := hr r hrm
    have hjr : j < r.length := by rw [h1]; exact hj
    refine ⟨hjr, ?_⟩
    by_cases h0 : r[j].kind = 0
    ·exact .inl h0
    ·obtain ⟨hc, _⟩ := Rw.rowF_at h3 j fs[j] r[j] (List.getElem?_eq_getElem hj) (List.getElem?_eq_getElem hjr)
     exact .inr (MB hk hT (by have := cY (List.getElem_mem hjr); omega) hc h0)
   obtain ⟨t, ht, a, b⟩ := KR hn hi (bv fs rows q) (ce fs rows q) l (j : Int) rfl fs[j] rows.length aV 0 ⟨0, rY, rY⟩ (by omega) (by rw [sB]; omega) ⟨⟨by simp only; omega, by simp only; omega⟩, .inl ⟨rfl, rfl⟩⟩
   obtain ⟨xs, g1, g2, g3, g4⟩ := ih q (j + 1) (l ++ [⟨fs[j].id, t.n, t.mn, t.mx⟩]) (by omega) (by omega) (by simp; omega)
   have eta : ∀ g : ac, ac.mk g.kind g.n g.scale g.s g.items = g := fun g => by cases g; rfl
   refine ⟨⟨fs[j].id, t.n, t.mn, t.mx⟩ :: xs, ?_, ?_, by simp only [List.length_cons]; omega, fun x hx => ?_⟩
   ·rw [show ((0 : Nat) : Int) = 0 from rfl] at a
    refine a.trans ?_
    unfold kN jd
    rw [gP (by omega), eta, eta, aG hj hfn, g1]
    simp
   ·rw [show ((0 : Nat) : Int) = 0 from rfl] at b
    refine b.trans ?_
    unfold lN jV
    rw [gP (by omega), eta, eta, aG hj hfn, g2]
    simp
   ·rcases List.mem_cons.1 hx with rfl | hx
    ·exact ht.sts _
    ·exact g4 x hx
  ·rw [decide_eq_false hk, Bool.not_false, iT, iT]
   unfold jd jV
   rw [aG hj hfn]
   obtain ⟨xs, g1, g2, g3, g4⟩ := ih q (j + 1) l (by omega) (by omega) (by omega)
   exact ⟨xs, g1, g2, by omega, g4⟩
theorem JO {fs : List ah} {rows : List (List ac)} (hf : sizeF fs ≤ 1048576) (hn : rows.length ≤ 1048576) (hr : ∀ r ∈ rows, sizeL r ≤ 1048576) :
  ∃ xs c, nz fs rows = some (xs, c) ∧ ox fs rows = some (xs, c) ∧ xs.length ≤ 1048576 ∧ ∀ x ∈ xs, MP x := by
 have hfn : fs.length ≤ 1048576 := by have := eg fs; omega
 have h1 := Rw.c_CheckRows (fs := fs) (rows := rows) (by omega) (fun q hq => by have := hr q hq; omega) (by omega)
 have h2 := Rw.r_CheckRows (fs := fs) (rows := rows) (by omega) (fun q hq => by have := hr q hq; omega) (by omega)
 unfold nz ox
 rw [h1, h2, bS, bS]
 by_cases h0 : Rw.crF fs rows = 0
 ·rw [h0, show ((0 : Int) != 0) = false from rfl, iF, iF]
  obtain ⟨z1, z2⟩ := Rw.crF_zero h0
  obtain ⟨xs, g1, g2, g3, g4⟩ := Gv (fs := fs) (rows := rows) (by omega) (by omega) (fun r hrm => ⟨(Rw.rowsF_at z2 r hrm).1, by have := hr r hrm; omega, (Rw.rowsF_at z2 r hrm).2⟩) fs.length aV 0 [] (by omega) (by rw [sB]; omega) (Nat.zero_le _)
  exact ⟨xs, 0, g1, g2, by omega, g4⟩
 ·have hne : (Rw.crF fs rows != 0) = true := bne_iff_ne.2 h0
  rw [hne, iT, iT]
  exact ⟨[], _, rfl, rfl, Nat.zero_le _, fun x hx => by cases hx⟩
theorem Df {x : ac} (h : x = rY ∨ Lf x) : bA aV x x = some 0 := by
 have hw : Ord.wfV x ∧ bO x ≤ 257 := by
  rcases h with rfl | h
  ·exact ⟨Hs, by rw [G2]; omega⟩
  ·exact ⟨CL h, ET h⟩
 rw [Ord.rcompareV_eq 257 x x aV hw.2 (by omega) hw.1 hw.1 (by rw [sB]; omega), Ord.cmpV_refl]
theorem D1 {l : List aY} (hl : l.length ≤ 1048576) (h : ∀ x ∈ l, MP x) : rq l l = some true := by
 have go : ∀ (m f j : Nat), j + m = l.length → m < f → dP l l f (j : Int) = some true := by
  intro m
  induction m with
  | zero =>
   intro f j hj hf
   obtain ⟨q, rfl⟩ := fu hf
   rw [dP, Ei (by omega), iF]; rfl
  | succ m ih =>
   intro f j hj hf
   obtain ⟨q, rfl⟩ := fu hf
   have hlt : j < l.length := by omega
   obtain ⟨s1, s2⟩ := h _ (List.getElem_mem hlt)
   rw [dP, bn hlt, iT, aZ hlt, bS, bS, bne_self_eq_false, iF, bne_self_eq_false, iF, Df s1, bS, show ((0 : Int) != 0) = false from rfl, iF, Df s2, bS]
   unfold jZ
   rw [show ((0 : Int) != 0) = false from rfl, iF, aG hlt (by omega)]
   exact ih q (j + 1) (by omega) (by omega)
 unfold rq
 rw [bne_self_eq_false, iF]
 exact go l.length aV 0 (by omega) (by rw [sB]; omega)
theorem C0 : si = some true := by decide +kernel
theorem Ek {fs : List ah} {p : fq} {rows : List (List ac)} (hf : sizeF fs ≤ 1048576) (hp : p.fields.length ≤ 1048576) (hn : rows.length ≤ 1048576) (hr : ∀ r ∈ rows, sizeL r ≤ 1048576) : ∀ (m f j : Nat), j + m = rows.length → m < f →
  aT fs p rows f (j : Int) = some true := by
 intro m
 induction m with
 | zero =>
  intro f j h hq
  obtain ⟨q, rfl⟩ := fu hq
  rw [aT, Ei (by omega), iF]; rfl
 | succ m ih =>
  intro f j h hq
  obtain ⟨q, rfl⟩ := fu hq
  have hj : j < rows.length := by omega
  obtain ⟨xs, c, h1, h2, h3, h4⟩ := JI (p := p) hf hp (hr _ (List.getElem_mem hj))
  rw [aT, bn hj, iT, aZ hj, bS, h1, h2, bS, bS, bne_self_eq_false, iF, bne_self_eq_false, iF, FY h4 (by omega), bS]
  unfold cH
  rw [show ((0 : Int) != 0) = false from rfl, iF, aG hj (by omega)]
  exact ih q (j + 1) (by omega) (by omega)
theorem Gb {fs : List ah} {p : fq} {rows : List (List ac)} (hf : sizeF fs ≤ 1048576) (hp : p.fields.length ≤ 1048576) (hn : rows.length ≤ 1048576) (hr : ∀ r ∈ rows, sizeL r ≤ 1048576) : ea fs p rows = some true := by
 obtain ⟨xs, c, h1, h2, h3, h4⟩ := JO hf hn hr
 unfold ea
 rw [h1, h2, C0, bS, bS, bS, Bool.not_true, iF, bne_self_eq_false, iF, D1 h3 h4, bS]
 unfold cC
 rw [Bool.not_true, iF]
 exact Ek hf hp hn hr rows.length aV 0 (by omega) (by rw [sB]; omega)
end Go.Proofs.YtbfekiekbifgcaaGreatDoor
namespace Go.Proofs.YtbfekiekbifgcaaGreatDoor
open Go.SX Go
theorem Fm : ∀ {rows : List (List ac)} {r : List ac}, r ∈ rows → Cal.sizeL r ≤ Rw.szRows rows
 | x :: rows, r, h => by
  show Cal.sizeL r ≤ ((x :: rows).map Rw.szRow).sum
  rw [List.map_cons, List.sum_cons]
  rcases List.mem_cons.1 h with rfl | h
  ·unfold Rw.szRow; omega
  ·have : Cal.sizeL r ≤ (rows.map Rw.szRow).sum := Fm h
   omega
theorem IZ {fs : List ah} {p : fq} {rows : List (List ac)} (hf : Cal.sizeF fs ≤ 1048576) (hp : p.fields.length ≤ 1048576) (hr : Rw.szRows rows ≤ 1048576) : ea fs p rows = some true :=
 Gb hf hp (by have := Rw.szRows_eq rows; omega) (fun r h => by have := Fm h; omega)
end Go.Proofs.YtbfekiekbifgcaaGreatDoor
