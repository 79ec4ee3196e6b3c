/- Differ of the program: which files it names. Adapt: casts of leaves. Keys and rows: the program's Matches, Left, Live. Live of the program, and the law: what Differ does not name has the same rows. A table, read from a row. The law for tables and rows of some size. -/
import Derived.Test.YtfnmbpecdjncfaaGreatDoorProg
import Derived.Test.YtfnmbpecdjncfaaGreatDoorLaA
set_option linter.unusedVariables false
set_option linter.unusedSimpArgs false
set_option linter.unnecessarySimpa false
namespace Go.Proofs.YtfnmbpecdjncfaaGreatDoor
open Go Go.SX Go.SX.Cal
noncomputable def Bf (x y : ak) (f g : ah) : Bool := (f.seq != g.seq) || (!decide (qw x.dat f.name = qw y.dat f.name) || (Hs x.dby f.seq y.dby || Hs y.dby g.seq x.dby))
def l0 (y : ak) (fs : List ah) : List ByteArray := (fs.filter fun f => (jE y.files f.name).isNone).map (·.name)
noncomputable def we (x y : ak) (fs : List ah) : List ByteArray := (fs.filter fun f => match jE y.files f.name with | some g => Bf x y f g | none => false).map (·.name)
structure Mi (s : ak) : Prop where
 sz : Hk s
 sort : wA s.files
 dby : ∀ d ∈ s.dby, NQ d
theorem Jj {m : aO} {s : ak} (hm : s7 m) (hs : s ∈ m.snapshots) (h : M3 m s) : Mi s :=
 ⟨hm.snaps.2 _ hs, h.sort, fun d hd => ⟨Qo (hm.snaps.2 _ hs) hd, (h.dby d hd).keys⟩⟩
theorem JA (l : List ByteArray) : dW l = some l := by
 unfold dW
 rw [gP ⟨by omega, by omega, by omega, by omega⟩]
 simp
theorem Hi {r2 r3 : ak × Bool} (hx : Mi r2.1) (hy : Mi r3.1) : ∀ (d k i : Nat) (l1 l2 : List ByteArray), i + d = r2.1.files.length → d < k → l1.length ≤ i → l2.length ≤ i →
  cz r2 r3 k l1 l2 (i : Int) = jz r2 r3 (l1 ++ we r2.1 r3.1 (r2.1.files.drop i)) (l2 ++ l0 r3.1 (r2.1.files.drop i)) := by
 have hn := hx.sz.files.1
 intro d
 induction d with
 | zero =>
  intro k i l1 l2 hi hk _ _
  obtain ⟨k, rfl⟩ := fu hk
  rw [cz, C3 (by omega), iF, List.drop_of_length_le (by omega)]
  simp [we, l0]
 | succ d ih =>
  intro k i l1 l2 hi hk h1 h2
  obtain ⟨k, rfl⟩ := fu hk
  have hl : i < r2.1.files.length := by omega
  rw [cz, bw hl, iT, aZ hl, bS, Cn hy.sort hy.sz.files.1, bS, qz hl]
  unfold jy
  have ha : ∀ (a b : List ByteArray), a.length ≤ i + 1 → b.length ≤ i + 1 → cz r2 r3 k a b (IntKind.i64.wrap ((i : Int) + 1)) = jz r2 r3 (a ++ we r2.1 r3.1 (r2.1.files.drop (i + 1))) (b ++ l0 r3.1 (r2.1.files.drop (i + 1))) := by
   intro a b h3 h4
   rw [aK hl hn]
   exact ih k (i + 1) a b (by omega) (by omega) h3 h4
  cases hf : jE r3.1.files r2.1.files[i].name with
  | none =>
   show al (!(false : Bool)) _ _ = _
   rw [Bool.not_false, iT, gP (by omega), ha _ _ (by omega) (by simp; omega)]
   unfold we l0
   rw [List.filter_cons, List.filter_cons, hf]
   simp
  | some g =>
   show al (!(true : Bool)) _ _ = _
   rw [Bool.not_true, iF]
   have hj : ∀ b, b = Bf r2.1 r3.1 r2.1.files[i] g → iD (cz r2 r3 k) l1 l2 (i : Int) r2.1.files[i] b = jz r2 r3 (l1 ++ we r2.1 r3.1 (r2.1.files[i] :: r2.1.files.drop (i + 1))) (l2 ++ l0 r3.1 (r2.1.files[i] :: r2.1.files.drop (i + 1))) := by
    intro b hb
    unfold iD jy
    have e1 : l0 r3.1 (r2.1.files[i] :: r2.1.files.drop (i + 1)) = l0 r3.1 (r2.1.files.drop (i + 1)) := by
     unfold l0; rw [List.filter_cons, hf]; rfl
    have e2 : we r2.1 r3.1 (r2.1.files[i] :: r2.1.files.drop (i + 1)) = (if b = true then [r2.1.files[i].name] else []) ++ we r2.1 r3.1 (r2.1.files.drop (i + 1)) := by
     unfold we; rw [List.filter_cons]; simp only [hf, ← hb]; cases b <;> simp
    rw [e1, e2]
    cases b with
    | true => rw [iT, gP (by omega), ha _ _ (by simp; omega) (by omega)]; simp
    | false => rw [iF, ha _ _ (by omega) (by omega)]; simp
   have hr : Bf r2.1 r3.1 r2.1.files[i] g = Bf r2.1 r3.1 r2.1.files[i] g := rfl
   conv at hr => rhs; unfold Bf
   rw [HU hx.sz.dat.1, HU hy.sz.dat.1, bS, bS]
   obtain ⟨e, e1, e2⟩ := LW (m := qw r3.1.dat r2.1.files[i].name) (Gf hx.sz r2.1.files[i].name)
   rw [e1, bS, FD hx.sz.dby.1 hy.sz.dby.1 hx.dby hy.dby, bS, FD hy.sz.dby.1 hx.sz.dby.1 hy.dby hx.dby, bS]
   have he : decide (qw r2.1.dat r2.1.files[i].name = qw r3.1.dat r2.1.files[i].name) = e := mL (by rw [decide_eq_true_iff, e2])
   rw [he] at hr
   show al (r2.1.files[i].seq != g.seq) _ _ = _
   cases hq : (r2.1.files[i].seq != g.seq) with
   | true => rw [hq] at hr; rw [iT]; exact hj true (by rw [hr]; rfl)
   | false =>
    rw [hq] at hr; rw [iF]
    cases e with
    | false => rw [Bool.not_false, iT]; exact hj true (by rw [hr]; rfl)
    | true =>
     rw [Bool.not_true, iF]
     cases ho : Hs r2.1.dby r2.1.files[i].seq r3.1.dby with
     | true => rw [ho] at hr; rw [iT]; exact hj true (by rw [hr]; rfl)
     | false => rw [ho] at hr; rw [iF]; exact hj _ (by rw [hr]; rfl)
theorem HF {r2 r3 : ak × Bool} (hx : Mi r2.1) (hy : Mi r3.1) (a b : List ByteArray) : ∀ (d k i : Nat) (l : List ByteArray), i + d = r3.1.files.length → d < k → l.length ≤ i →
  eR r2 r3 a b k l (i : Int) = some (⟨b, l ++ l0 r2.1 (r3.1.files.drop i), a⟩, 0) := by
 have hn := hy.sz.files.1
 intro d
 induction d with
 | zero =>
  intro k i l hi hk _
  obtain ⟨k, rfl⟩ := fu hk
  rw [eR, C3 (by omega), iF, List.drop_of_length_le (by omega)]
  unfold pZ
  rw [JA, JA, JA]
  simp [l0, bS]
 | succ d ih =>
  intro k i l hi hk h1
  obtain ⟨k, rfl⟩ := fu hk
  have hl : i < r3.1.files.length := by omega
  rw [eR, bw hl, iT, aZ hl, bS, Cn hx.sort hx.sz.files.1, bS, qz hl]
  unfold np
  rw [aK hl hn]
  cases hf : jE r2.1.files r3.1.files[i].name with
  | none =>
   show al (!(false : Bool)) _ _ = _
   rw [Bool.not_false, iT, gP (by omega), ih k (i + 1) _ (by omega) (by omega) (by simp; omega)]
   unfold l0
   rw [List.filter_cons, hf]
   simp
  | some g =>
   show al (!(true : Bool)) _ _ = _
   rw [Bool.not_true, iF, ih k (i + 1) _ (by omega) (by omega) (by omega)]
   unfold l0
   rw [List.filter_cons, hf]
   simp
theorem HT {m : aO} (hm : s7 m) {a b : Int} {x y : ak} (hc : mg m = some 0) (ha : dL m a = some (x, true)) (hb : dL m b = some (y, true)) (hx : Mi x) (hy : Mi y) :
  jG m a b = some (⟨l0 y x.files, l0 x y.files, we x y x.files⟩, 0) := by
 unfold jG
 rw [hc, bS, bne_self_eq_false, iF, ha, bS, hb, bS]
 show al false _ _ = _
 rw [iF]
 unfold nk
 show al false _ _ = _
 rw [iF]
 have h1 := Hi (r2 := (x, true)) (r3 := (y, true)) hx hy x.files.length bq 0 [] [] (Nat.zero_add _) (by rw [bl]; have := hx.sz.files.1; omega) (Nat.zero_le _) (Nat.zero_le _)
 rw [show ((0 : Nat) : Int) = 0 from rfl, List.drop_zero] at h1
 rw [h1]
 unfold jz
 have h2 := HF (r2 := (x, true)) (r3 := (y, true)) hx hy ([] ++ we x y x.files) ([] ++ l0 y x.files) y.files.length bq 0 [] (Nat.zero_add _) (by rw [bl]; have := hy.sz.files.1; omega) (Nat.zero_le _)
 rw [show ((0 : Nat) : Int) = 0 from rfl, List.drop_zero] at h2
 rw [h2]
 simp
theorem GB {m : aO} (hm : s7 m) (id : Int) : ∃ s b, dL m id = some (s, b) ∧ (b = true → s ∈ m.snapshots) := by
 obtain ⟨s, h⟩ := Pw hm id
 refine ⟨s, _, h, fun hb => ?_⟩
 rw [hb] at h
 unfold dL at h
 cases hi : bH m.snapshots id with
 | none => rw [hi] at h; cases h
 | some r =>
  rw [hi, bS] at h
  cases hr : decide (r < 0) with
  | true => rw [hr, iT] at h; cases h
  | false =>
   rw [hr, iF] at h
   cases he : at? m.snapshots r with
   | none => rw [he] at h; cases h
   | some e =>
    rw [he, bS] at h
    cases h
    unfold at? at he
    split at he
    ·exact List.mem_of_getElem? he
    ·cases he
end Go.Proofs.YtfnmbpecdjncfaaGreatDoor
namespace Go.Proofs.YtfnmbpecdjncfaaGreatDoor
open Go Go.SX Go.SX.Cal Go.Lib
theorem wu (x : Int) : IntKind.u64.wrap x = x % 18446744073709551616 := rfl
theorem tn {v : aa} (h : v.items = []) : tL v = dF v := by
 unfold tL iy
 have hc : ¬ 256 < zw v 0 := by unfold zw; split <;> omega
 cases hp : dF v
 ·rw [if_pos (.inr rfl)]
 ·rw [if_neg (by simp [hc]), h]; rfl
theorem Mf : ∀ v : aa, aa.mk v.kind v.n v.scale v.s v.items = v
 | ⟨_, _, _, _, _⟩ => rfl
theorem H5 {s : ByteArray} (h : s.size = 0) : s = ByteArray.empty := ByteArray.size_eq_zero_iff.1 h
theorem sE {v : aa} (h : dF v = true) (hk : v.kind = 1 ∨ v.kind = 2 ∨ v.kind = 3) : v.s = ByteArray.empty ∧ v.items = [] ∧ -999999999999999999 ≤ v.n ∧ v.n ≤ 999999999999999999 := by
 refine ⟨?_, lR h (by omega) (by omega), ?_⟩
 ·unfold dF at h
  rcases hk with hk | hk | hk <;> simp [hk] at h
  ·exact h.2.2.1
  ·exact h.2.2.1
  ·exact h.2.2.1
 ·unfold dF at h
  rcases hk with hk | hk | hk <;> simp [hk] at h <;> omega
theorem oG {k n s : Int} : d9 ⟨k, n, s, ByteArray.empty, []⟩ < 1000000000 := by
 rw [sT]; simp only [jr, ED]; omega
theorem Ik {k n sc : Int} (h : -999999999999999999 ≤ n ∧ n ≤ 999999999999999999) (hp : dF ⟨k, n, sc, ByteArray.empty, []⟩ = true) :
  (aE (nP n) fun r2 => aE (lT (bW.mk r2.neg (r2.size.1, r2.size.2.1, r2.size.2.2.1, r2.size.2.2.2)) sc sc) fun r3 =>
   aE (qZ k (bW.mk r3.neg (r3.size.1, r3.size.2.1, r3.size.2.2.1, r3.size.2.2.2)) sc) fun r4 => some r4) = some ⟨k, n, sc, ByteArray.empty, []⟩ := by
 have hs : ∀ (b : Bool) (a : Int), lT (bW.mk b (a, 0, 0, 0)) sc sc = some (bW.mk b (a, 0, 0, 0)) := by
  intro b a
  unfold lT gM
  rw [decide_eq_true (Int.le_refl _), kZ, Int.sub_self, show IntKind.i64.wrap 0 = 0 from rfl, pK, cX, decide_eq_false (by omega), e8]
  rfl
 have hm : ∀ (b : Bool) (a : Int), 0 ≤ a → a ≤ 999999999999999999 → (if b = true then -a else a) = n → qZ k (bW.mk b (a, 0, 0, 0)) sc = some ⟨k, n, sc, ByteArray.empty, []⟩ := by
  intro b a h0 h1 he
  have hnum : lz (bW.mk b (a, 0, 0, 0)) = some (n, true) := by
   unfold lz jF
   simp only [en]
   rw [show (IntKind.u64.wrap ((BitVec.ofInt IntKind.u64.bits 0 ||| BitVec.ofInt IntKind.u64.bits 0).toNat : Int)) = 0 from by decide, show (IntKind.u64.wrap ((BitVec.ofInt IntKind.u64.bits 0 ||| BitVec.ofInt IntKind.u64.bits 0).toNat : Int) != 0) = false from by decide, e8, decide_eq_false (by omega), e8, zQ (x := a) (by omega) (by omega), zQ (by omega) (by omega)]
   cases b
   ·rw [e8, ← he]; rfl
   ·rw [kZ, ← he, Int.zero_sub]; rfl
  unfold qZ oY
  rw [hnum, en]
  simp only [Bool.not_true, e8]
  rw [xe _ oG, en, tn rfl, hp]
  rfl
 unfold nP
 by_cases h0 : n < 0
 ·rw [decide_eq_true h0, kZ, en]
  simp only
  rw [hs, en]
  simp only
  rw [hm _ _ (by rw [wu, wu]; omega) (by rw [wu, wu]; omega) (by rw [if_pos rfl, wu, wu]; omega), en]
 ·rw [decide_eq_false h0, e8, en]
  simp only
  rw [hs, en]
  simp only
  rw [hm _ _ (by rw [wu]; omega) (by rw [wu]; omega) (by rw [if_neg (by decide), wu]; omega), en]
theorem yx {v : aa} {u : af} (h : dF v = true) (hk : v.kind = 1 ∨ v.kind = 2 ∨ v.kind = 3) (hu : u.kind = 2 ∨ u.kind = 3) (hne : v.kind ≠ u.kind ∨ u.kind = 3) (hsc : v.scale = u.scale)
  (hp : dF ⟨u.kind, v.n, v.scale, ByteArray.empty, []⟩ = true) : ml v u = some ⟨u.kind, v.n, v.scale, ByteArray.empty, []⟩ := by
 obtain ⟨_, _, hn⟩ := sE h hk
 have hj2 : ln v u false = some ⟨u.kind, v.n, v.scale, ByteArray.empty, []⟩ := by
  unfold ln pp
  rw [e8, show (u.kind == 4) = false by simp; omega, e8, show (v.kind == 4) = false by simp; omega, e8, show (u.kind == 1) = false by simp; omega, e8, e8, ← hsc]
  exact Ik hn hp
 unfold ml mN
 rw [show (v.kind == 0) = false by simp; omega, e8, show (v.kind == 6) = false by simp; omega, e8, show (v.kind == 7) = false by simp; omega, e8]
 by_cases he : v.kind = u.kind
 ·rw [show (v.kind == u.kind) = true by simp [he], kZ, show (u.kind != 3) = false by simp; omega, hj2]
 ·rw [show (v.kind == u.kind) = false by simp [he], e8, hj2]
theorem zO {v r : aa} {u : af} (hv : d9 v < 1000000000) (hr : d9 r < 1000000000) (h : ml v u = some r) (hi : v.items = []) (hk7 : v.kind ≠ 7) (hp : dF v = true) (ht : cA u = some 0) (hc : vN v.kind u.kind = some true) (hri : r.items = []) (hrp : dF r = true) :
  iB v u = some r := by
 have hcv : dK bq v u = some true := by
  rw [pK, dK]
  by_cases h0 : v.kind = 0
  ·rw [show (v.kind == 0) = true by simp [h0], kZ]
  ·rw [show (v.kind == 0) = false by simp [h0], e8, hc, en, Bool.not_true, e8, show (v.kind == 7) = false by simp [hk7], e8]
   unfold jI
   rw [e8, pK, iq, hi]
   rfl
 unfold iB lj
 rw [xe v hv, en, tn hi, hp, Bool.not_true, e8, ht, en, bne_self_eq_false, e8, hcv, en, Bool.not_true, e8, h, en, xe r hr, en, tn hri, hrp, Bool.not_true, e8]
def Cg (v : aa) (u : af) : aa := ⟨u.kind, v.n, v.scale, v.s, v.items⟩
theorem Hx : cA ⟨2, 0, []⟩ = some 0 := by
 unfold cA
 rw [pK]
 rfl
theorem HW {k : Int} (h : 1 ≤ k ∧ k ≤ 5) : vN k k = some true := by
 have : k = 1 ∨ k = 2 ∨ k = 3 ∨ k = 4 ∨ k = 5 := by omega
 rcases this with rfl | rfl | rfl | rfl | rfl <;> rfl
theorem LD {v : aa} (h : dF v = true) (h0 : v.kind ≠ 0) (h6 : v.kind ≠ 6) (h7 : v.kind ≠ 7) : 1 ≤ v.kind ∧ v.kind ≤ 5 := by
 unfold dF at h
 simp only at h
 by_cases h1 : v.kind = 1
 ·omega
 by_cases h2 : v.kind = 2
 ·omega
 by_cases h3 : v.kind = 3
 ·omega
 by_cases h4 : v.kind = 4
 ·omega
 by_cases h5 : v.kind = 5
 ·omega
 rw [if_neg h0, if_neg h1, if_neg h2, if_neg h3, if_neg h4, if_neg h5, if_neg h6, if_neg h7] at h
 cases h
theorem zg {v : aa} {u : af} (hp : dF v = true) (hs : v.kind = 1 ∨ v.kind = 2) (hu : u.kind = 2 ∨ u.kind = 3) : dF ⟨u.kind, v.n, v.scale, ByteArray.empty, []⟩ = true := by
 obtain ⟨_, _, h1, h2⟩ := sE hp (by omega)
 have h3 := rO hp (by omega)
 unfold dF
 rcases hu with hu | hu <;> simp [hu, h3, h1, h2]
theorem E9 {v : aa} {u : af} (hs : v.s = ByteArray.empty) (hi : v.items = []) : Cg v u = ⟨u.kind, v.n, v.scale, ByteArray.empty, []⟩ := by
 unfold Cg; rw [hs, hi]
theorem Ev {v : aa} {t u : af} (hv : d9 v < 1000000000) (hp : dF v = true) (h0 : v.kind ≠ 0) (h6 : v.kind ≠ 6) (h7 : v.kind ≠ 7) (hk : v.kind = t.kind) (h3 : v.kind = 3 → v.scale = t.scale) (hw : Wd t u) (hV : V u) (hc : cA u = some 0) :
  gS v u = some (Cg v u) ∧ dF (Cg v u) = true := by
 have hkl := LD hp h0 h6 h7
 have hi := lR hp h6 h7
 have hcast : ∀ w, iB v u = some w → (v.kind = 1 ∧ u.kind = 3 → False) → gS v u = some w := by
  intro w hw hn
  unfold gS jb jc
  have hx : aa.mk v.kind v.n v.scale v.s v.items = v := Mf v
  by_cases h1 : v.kind = 1
  ·rw [show (v.kind == 1) = true by simp [h1], kZ, show (u.kind == 3) = false by simp; intro h; exact hn ⟨h1, h⟩, e8, hx, hw, en]
  ·rw [show (v.kind == 1) = false by simp [h1], e8, e8, hx, hw, en]
 have hnum : (v.kind = 1 ∧ u.kind = 2) ∨ (v.kind = 2 ∧ u.kind = 3 ∧ u.scale = 0) → iB v u = some (Cg v u) ∧ dF (Cg v u) = true := by
  intro h
  have hs : v.scale = u.scale := by
   rw [rO hp (by omega)]
   rcases h with h | h
   ·rw [hV.scale (by omega)]
   ·exact h.2.2.symm
  obtain ⟨ha, hb, _⟩ := sE hp (by omega)
  have hpp := zg (u := u) hp (by omega) (by omega)
  rw [E9 ha hb]
  refine ⟨zO hv oG (yx hp (by omega) (by omega) (by omega) hs hpp) hb h7 hp hc ?_ rfl hpp, hpp⟩
  rcases h with ⟨h, h'⟩ | ⟨h, h', _⟩ <;> rw [h, h'] <;> rfl
 rcases hw with ⟨hw, hw2⟩ | ⟨hw, hw2⟩ | ⟨hw, hw2, hw3⟩
 ·have hke : v.kind = u.kind := by omega
  have he : Cg v u = v := by unfold Cg; rw [← hke]; exact Mf v
  rw [he]
  refine ⟨hcast v ?_ (by omega), hp⟩
  refine zO hv hv ?_ hi h7 hp hc (by rw [← hke]; exact HW hkl) hi hp
  by_cases hk3 : u.kind = 3
  ·obtain ⟨ha, hb, _⟩ := sE hp (by omega)
   have hx : (⟨u.kind, v.n, v.scale, ByteArray.empty, []⟩ : aa) = v := by rw [← E9 ha hb, he]
   rw [yx (u := u) hp (by omega) (by omega) (by omega) (by rw [h3 (by omega)]; exact hw2) (by rw [hx]; exact hp), hx]
  ·unfold ml mN ln
   rw [show (v.kind == 0) = false by simp [h0], e8, show (v.kind == 6) = false by simp [h6], e8, show (v.kind == 7) = false by simp [h7], e8, show (v.kind == u.kind) = true by simp [hke], kZ, show (u.kind != 3) = true by simp [hk3], kZ]
 ·obtain ⟨a, b⟩ := hnum (.inl ⟨by omega, hw2⟩)
  exact ⟨hcast _ a (by omega), b⟩
 ·by_cases h1 : v.kind = 1
  ·obtain ⟨ha, hb, _⟩ := sE hp (by omega)
   have hsc := rO hp (by omega)
   have hpp := zg (v := v) (u := ⟨2, 0, []⟩) hp (by omega) (.inl rfl)
   have hc1 : iB v ⟨2, 0, []⟩ = some ⟨2, v.n, v.scale, ByteArray.empty, []⟩ :=
    zO hv oG (yx (u := ⟨2, 0, []⟩) hp (by omega) (.inl rfl) (by left; rw [h1]; decide) hsc hpp) hb h7 hp Hx (by rw [h1]; rfl) rfl hpp
   have hp3 := zg (u := u) hp (.inl h1) (.inr hw2)
   have hc2 : iB ⟨2, v.n, v.scale, ByteArray.empty, []⟩ u = some ⟨u.kind, v.n, v.scale, ByteArray.empty, []⟩ :=
    zO oG oG (yx (v := ⟨2, v.n, v.scale, ByteArray.empty, []⟩) (u := u) hpp (.inr (.inl rfl)) (.inr hw2) (.inr hw2) (by show v.scale = u.scale; omega) hp3) rfl (show (2 : Int) ≠ 7 by decide) hpp hc (by rw [hw2]; rfl) rfl hp3
   rw [E9 ha hb]
   refine ⟨?_, hp3⟩
   unfold gS jb jc
   rw [show (v.kind == 1) = true by simp [h1], kZ, show (u.kind == 3) = true by simp [hw2], kZ, hc1, en]
   simp only
   rw [hc2, en]
  ·obtain ⟨a, b⟩ := hnum (.inr ⟨by omega, hw2, hw3⟩)
   exact ⟨hcast _ a (by omega), b⟩
theorem He {v : aa} {u : af} (h0 : v.kind ≠ 0) : w7 v u = some (Cg v u) := by
 unfold w7 sC
 rw [show (v.kind != 0) = true by simp [h0], kZ]
 rfl
end Go.Proofs.YtfnmbpecdjncfaaGreatDoor
namespace Go.Proofs.YtfnmbpecdjncfaaGreatDoor
open Go Go.SX Go.SX.Cal
def As : aa := ⟨0, 0, 0, ByteArray.empty, []⟩
theorem LJ {v : aa} (h : Lv v) (h0 : v.kind = 0) : v = As := by
 obtain ⟨k, n, sc, s, it⟩ := v
 obtain ⟨h1, h2, h3⟩ := h.nul h0
 have h4 := h.it
 simp only at h0 h1 h2 h3 h4
 subst h0; subst h1; subst h2; subst h4
 rw [H5 h3]; rfl
theorem Mw : Lv As := ⟨by decide, by decide, rfl, by decide, by decide, fun _ => by decide⟩
theorem G8 {u : af} (ht : cA u = some 0) : iB As u = some As := by
 have hs : jM As = some true := by
  rw [xe _ (by show d9 ⟨0, 0, 0, ByteArray.empty, []⟩ < _; exact oG), tn rfl]; rfl
 have hcv : dK bq As u = some true := by rw [pK, dK]; rfl
 have hca : ml As u = some As := by unfold ml; rfl
 unfold iB lj
 rw [hs, en, Bool.not_true, e8, ht, en, bne_self_eq_false, e8, hcv, en, Bool.not_true, e8, hca, en, hs, en, Bool.not_true, e8]
structure Ty (t : af) (v : aa) : Prop where
 sv : d9 v < 1000000000
 st : jm t < 1000000000
 ck : ck t v = 0
theorem Mj {t u : af} {v : aa} (h : Ty t v) (hw : Qg t u) : ∃ w, gS v u = some w ∧ w7 v u = some w ∧ Lv w := by
 have hl := yh h.sv h.st hw.l.1 hw.l.2 h.ck
 obtain ⟨ht, hS, ho⟩ := Mt h.sv h.st h.ck
 by_cases h0 : v.kind = 0
 ·have hn := LJ hl h0
  subst hn
  refine ⟨As, ?_, rfl, Mw⟩
  unfold gS jb jc
  rw [show (As.kind == 1) = false by decide, e8, e8]
  have := G8 hw.c
  unfold As at this
  show aE (iB ⟨0, 0, 0, ByteArray.empty, []⟩ u) _ = _
  rw [this]; rfl
 ·obtain ⟨hp, _⟩ := hS.succ
  have hk : v.kind = t.kind ∧ (v.kind = 3 → v.scale = t.scale) := by
   rw [A8, if_neg h0] at ho
   by_cases e : v.kind = t.kind
   ·rw [if_neg (fun h => h e)] at ho
    refine ⟨e, fun h3 => ?_⟩
    rw [if_pos h3] at ho
    exact beq_iff_eq.1 ho
   ·rw [if_pos e] at ho; cases ho
  have h6 : v.kind ≠ 6 := by rw [hk.1]; exact hw.l.1
  have h7 : v.kind ≠ 7 := by rw [hk.1]; exact hw.l.2
  obtain ⟨a, b⟩ := Ev h.sv hp h0 h6 h7 hk.1 hk.2 hw.w hw.b hw.c
  exact ⟨_, a, He h0, D7 b hw.m.1 hw.m.2⟩
noncomputable def Qx (v : aa) (s : af) (k : aa) (t : af) : Bool := (js v s k t).getD false
theorem Pu {s t : af} {v k : aa} (hv : Ty s v) (hk : Ty t k) : js v s k t = some (Qx v s k t) := by
 have : ∃ b, js v s k t = some b := by
  unfold js
  obtain ⟨b, b1, _, b3⟩ := yX s t hv.st hk.st
  rw [b1, bS]
  cases b with
  | true =>
   have w := b3 rfl
   obtain ⟨x, x1, _, x3⟩ := Mj hv w
   rw [iT, x1, bS, Ca x3 (yh hk.sv hk.st w.m.1 w.m.2 hk.ck), bS]
   exact ⟨_, rfl⟩
  | false =>
   rw [iF]
   obtain ⟨c, c1, _, c3⟩ := yX t s hk.st hv.st
   rw [c1, bS]
   cases c with
   | true =>
    have w := c3 rfl
    obtain ⟨x, x1, _, x3⟩ := Mj hk w
    rw [iT, x1, bS, Ca (yh hv.sv hv.st w.m.1 w.m.2 hv.ck) x3, bS]
    exact ⟨_, rfl⟩
   | false => rw [iF]; exact ⟨_, rfl⟩
 obtain ⟨b, hb⟩ := this
 unfold Qx
 rw [hb]; rfl
structure G4 (fs : List ab) (r : List aa) : Prop where
 n : fs.length < 1000000000
 len : r.length = fs.length
 ty : ∀ (i : Nat) f v, fs[i]? = some f → r[i]? = some v → Ty f.type v
structure Pv (fs : List ab) (ids : List Int) (k : List aa) : Prop where
 n : fs.length < 1000000000
 m : ids.length < 1000000000
 len : k.length = ids.length
 tl : ∀ (i : Nat) (h : i < ids.length), HL fs ids[i] = true
 ty : ∀ (i : Nat) (h : i < ids.length) (h' : i < k.length), Ty (B8 fs ids[i]).type k[i]
noncomputable def Qb (fs : List ab) (r : List aa) (ofs : List ab) (ids : List Int) (k : List aa) (j : Nat) : Bool := match ids[j]?, k[j]? with
 | some id, some x => !(if Gw fs id then (match r[(Kj fs id).toNat]? with | some v => Qx v (B8 fs id).type x (B8 ofs id).type | none => false) else decide (x.kind = 0))
 | _, _ => false
theorem Np {fs : List ab} {r : List aa} (hr : G4 fs r) {id : Int} (h : Gw fs id = true) : ∃ v, at? r (Kj fs id) = some v ∧ r[(Kj fs id).toNat]? = some v ∧ at? fs (Kj fs id) = some (B8 fs id) ∧ Ty (B8 fs id).type v := by
 obtain ⟨_, _, _, a4⟩ := xc hr.n id
 obtain ⟨b1, _⟩ := a4 h
 obtain ⟨c1, c2, c3⟩ := at?_some b1
 have hl : (Kj fs id).toNat < r.length := by rw [hr.len]; omega
 refine ⟨r[(Kj fs id).toNat], ?_, List.getElem?_eq_getElem hl, b1, hr.ty _ _ _ c3 (List.getElem?_eq_getElem hl)⟩
 unfold at?
 rw [if_pos c1, List.getElem?_eq_getElem hl]
theorem Ly {fs : List ab} {r : List aa} {ofs : List ab} {ids : List Int} {k : List aa} (hr : G4 fs r) (hk : Pv ofs ids k) : pe fs r ofs ids k = some (Ex (Qb fs r ofs ids k) ids.length) := by
 unfold pe
 exact yr (L := ef fs r ofs ids k) (n := ids.length) (p := Qb fs r ofs ids k) hk.m
  (fun q => by rw [ef, w8, iF]; rfl)
  (fun q i hi => by
   have hi' : i < k.length := by rw [hk.len]; exact hi
   obtain ⟨t, t1, t2⟩ := Iu hk.n ids[i]
   obtain ⟨a1, _, a3, _⟩ := xc hr.n ids[i]
   have ht := (t2 (hk.tl i hi)).1
   rw [ef, bw hi, iT, aZ hi, bS, t1, bS, a1, bS, a3]
   unfold mH Qb
   rw [aK hi hk.m, List.getElem?_eq_getElem hi, List.getElem?_eq_getElem hi']
   simp only
   cases hb : Gw fs ids[i] with
   | false =>
    rw [Bool.not_false, iT, aZ hi', bS, if_neg (by simp)]
    congr 1
   | true =>
    obtain ⟨v, v1, v2, v3, v4⟩ := Np hr hb
    rw [Bool.not_true, iF, v1, bS, v3, bS, aZ hi', bS, ht, Pu v4 (hk.ty i hi hi'), bS, if_pos rfl, v2])
noncomputable def P7 (m : aO) (fs : List ab) (r : List aa) (d : aF) (j : Nat) : Bool := match d.keys[j]?, m.schemas[d.schema.toNat]? with
 | some k, some ofs => Ex (Qb fs r ofs d.ids k) d.ids.length
 | _, _ => false
noncomputable def Je (m : aO) (q : Int) (fs : List ab) (r : List aa) (l : List aF) (j : Nat) : Bool := match l[j]? with
 | some d => decide (q < d.seq) && kP (P7 m fs r d) d.keys.length
 | none => false
structure Qe (m : aO) (d : aF) : Prop where
 n : d.keys.length < 1000000000
 fs : ∃ fs, at? m.schemas d.schema = some fs ∧ m.schemas[d.schema.toNat]? = some fs ∧ ∀ k ∈ d.keys, Pv fs d.ids k
theorem MA {m : aO} {d : aF} (hm : s7 m) (hz : LY d.ids d.keys) (h : FC m d) : Qe m d := by
 obtain ⟨fs, a1, a2, a3, a4⟩ := h.fs
 have hf := hm.schemas.2 _ a2
 refine ⟨hz.nkey, fs, a1, (at?_some a1).2.2, fun k hk => ?_⟩
 obtain ⟨b1, b2⟩ := a4 k hk
 have hn : fs.length < 1000000000 := by have := dQ fs; omega
 refine ⟨hn, hz.nid, b1, a3, fun i hi hi' => ⟨(hz.key k hk).2 _ (List.getElem_mem hi'), ?_, b2 i hi hi'⟩⟩
 obtain ⟨t, _, t2⟩ := Iu hn d.ids[i]
 exact BH hf (t2 (a3 i hi)).2
theorem IC {m : aO} {fs : List ab} {r : List aa} {d : aF} (hr : G4 fs r) (hd : Qe m d) :
  bN d.keys r m.schemas m.specs m.nextField m.nextSeq m.nextSnap m.purges m.snapshots m.refs m.props d.schema d.ids d.keys d.seq fs = some (kP (P7 m fs r d) d.keys.length, fs) := by
 obtain ⟨ofs, o1, o2, o3⟩ := hd.fs
 unfold bN cF
 obtain ⟨x, x1, x2⟩ := sK (z := fs) (L := fun k i => aL d.keys r m.schemas m.specs m.nextField m.nextSeq m.nextSnap m.purges m.snapshots m.refs m.props d.schema d.ids d.keys d.seq k fs i) (n := d.keys.length) (p := P7 m fs r d) hd.n
  (fun k => by rw [aL, w8, iF]; rfl)
  (fun k i hi => by
   rw [aL, bw hi, iT, aZ hi, bS]
   unfold nJ
   rw [o1, bS, Ly hr (o3 _ (List.getElem_mem hi)), bS, bS, aK hi hd.n]
   unfold P7
   rw [List.getElem?_eq_getElem hi, o2])
 rw [x1, bS, x2]
theorem Mv {m : aO} {fs : List ab} {r : List aa} {f : ah} {l : List aF} (hr : G4 fs r) (hn : l.length < 1000000000) (hd : ∀ d ∈ l, Qe m d) :
  bE l f.name f.schema f.spec f.part f.rows f.seq f.stats r m.schemas m.specs m.nextField m.nextSeq m.nextSnap m.purges m.snapshots m.refs m.props fs = some (kP (Je m f.seq fs r l) l.length, fs) := by
 unfold bE cg
 obtain ⟨x, x1, x2⟩ := sK (z := fs) (L := fun k i => aI l f.name f.schema f.spec f.part f.rows f.seq f.stats r m.schemas m.specs m.nextField m.nextSeq m.nextSnap m.purges m.snapshots m.refs m.props k fs i) (n := l.length) (p := Je m f.seq fs r l) hn
  (fun k => by rw [aI, w8, iF]; rfl)
  (fun k i hi => by
   rw [aI, bw hi, iT, aZ hi, bS]
   unfold oI
   rw [IC hr (hd _ (List.getElem_mem hi)), bS]
   unfold j3 Je
   rw [List.getElem?_eq_getElem hi]
   simp only
   cases decide (f.seq < l[i].seq) with
   | true => rw [iT, bS, aK hi hn, Bool.true_and]
   | false => rw [iF, bS, aK hi hn, Bool.false_and])
 rw [x1, bS, x2]
theorem HR {m : aO} {q : Int} {fs : List ab} {r : List aa} {l l' : List aF} (h1 : ∀ d ∈ l, q < d.seq → d ∈ l') (h2 : ∀ d ∈ l', q < d.seq → d ∈ l) : kP (Je m q fs r l) l.length = kP (Je m q fs r l') l'.length := by
 have key : ∀ (a b : List aF), (∀ d ∈ a, q < d.seq → d ∈ b) → kP (Je m q fs r a) a.length = true → kP (Je m q fs r b) b.length = true := by
  intro a b h
  rw [eO, eO]
  rintro ⟨j, hj, e⟩
  unfold Je at e
  rw [List.getElem?_eq_getElem hj] at e
  simp only [Bool.and_eq_true, decide_eq_true_eq] at e
  obtain ⟨i, hi, g⟩ := List.mem_iff_getElem.1 (h _ (List.getElem_mem hj) e.1)
  refine ⟨i, hi, ?_⟩
  unfold Je
  rw [List.getElem?_eq_getElem hi, g]
  simp only [Bool.and_eq_true, decide_eq_true_eq]
  exact e
 exact mL ⟨key _ _ h1, key _ _ h2⟩
def wh (p : Nat → Bool) : Nat → Nat → List Int
 | 0, _ => []
 | d + 1, i => (if p i = true then [(i : Int)] else []) ++ wh p d (i + 1)
theorem Bt (p : Nat → Bool) : ∀ d i, (wh p d i).length ≤ d
 | 0, _ => Nat.le_refl _
 | d + 1, i => by
  have := Bt p d (i + 1)
  unfold wh
  split <;> simp <;> omega
noncomputable def HN (m : aO) (fs : List ab) (rows : List (List aa)) (gone : List Int) (q : Int) (l : List aF) (i : Nat) : Bool :=
 !decide ((i : Int) ∈ gone) && !(match rows[i]? with | some r => kP (Je m q fs r l) l.length | none => false)
theorem Nw {l : List Int} (hn : l.length < 1000000000) (x : Int) : iu l x = some (decide (x ∈ l)) := by
 unfold iu ma
 obtain ⟨r, r1, r2⟩ := zU (L := da l x) (n := l.length) (p := fun j => match l[j]? with | some e => x == e | none => false) hn
  (fun k => by rw [da, w8, iF]; rfl)
  (fun k i hi => by
   rw [da, bw hi, iT, aZ hi, bS, aK hi hn, List.getElem?_eq_getElem hi])
 rw [r1, bS, r2]
 congr 1
 refine mL ?_
 rw [eO, decide_eq_true_iff]
 constructor
 ·rintro ⟨j, hj, h⟩
  rw [List.getElem?_eq_getElem hj] at h
  rw [beq_iff_eq.1 h]; exact List.getElem_mem hj
 ·intro h
  obtain ⟨j, hj, e⟩ := List.mem_iff_getElem.1 h
  exact ⟨j, hj, by rw [List.getElem?_eq_getElem hj]; exact beq_iff_eq.2 e.symm⟩
theorem OI (l : List Int) : j6 l = some l := by
 unfold j6
 rw [gP ⟨by omega, by omega, by omega, by omega⟩]
 simp
theorem M8 {m : aO} {s : ak} {f : ah} {rows : List (List aa)} {fs : List ab} (hs : Hk s) (hf : at? m.schemas f.schema = some fs) (hl : rows.length < 1000000000) (hr : ∀ r ∈ rows, G4 fs r) (hd : ∀ d ∈ s.dby, Qe m d) :
  oE m s f rows = some (wh (HN m fs rows (qw s.dat f.name) f.seq s.dby) rows.length 0) := by
 have hg := Gf hs f.name
 have key : ∀ (d k i : Nat) (l : List Int), i + d = rows.length → d < k → l.length ≤ i →
   eQ m s f rows (qw s.dat f.name) k l fs (i : Int) = some (l ++ wh (HN m fs rows (qw s.dat f.name) f.seq s.dby) d i) := by
  intro d
  induction d with
  | zero =>
   intro k i l hi hk _
   obtain ⟨k, rfl⟩ := fu hk
   rw [eQ, C3 (by omega), iF]
   unfold so
   rw [OI, bS]
   simp [wh]
  | succ d ih =>
   intro k i l hi hk h1
   obtain ⟨k, rfl⟩ := fu hk
   have h2 : i < rows.length := by omega
   rw [eQ, bw h2, iT, aZ h2, bS, Nw hg, bS]
   have hj : ∀ b, b = HN m fs rows (qw s.dat f.name) f.seq s.dby i → nj (eQ m s f rows (qw s.dat f.name) k) l (i : Int) fs b = some (l ++ wh (HN m fs rows (qw s.dat f.name) f.seq s.dby) (d + 1) i) := by
    rintro b rfl
    unfold nj pg wh
    rw [aK h2 hl]
    cases HN m fs rows (qw s.dat f.name) f.seq s.dby i with
    | true => rw [iT, gP (by omega), ih k (i + 1) _ (by omega) (by omega) (by simp; omega)]; simp
    | false => rw [iF, ih k (i + 1) _ (by omega) (by omega) (by omega)]; simp
   have hp : HN m fs rows (qw s.dat f.name) f.seq s.dby i = (!decide ((i : Int) ∈ qw s.dat f.name) && !kP (Je m f.seq fs rows[i] s.dby) s.dby.length) := by
    unfold HN; rw [List.getElem?_eq_getElem h2]
   unfold rn
   rw [Mv (hr _ (List.getElem_mem h2)) hs.dby.1 hd, bS, bS]
   cases hc : decide ((i : Int) ∈ qw s.dat f.name) with
   | true => rw [Bool.not_true, iF]; exact hj false (by rw [hp, hc]; rfl)
   | false => rw [Bool.not_false, iT]; exact hj _ (by rw [hp, hc]; rfl)
 unfold oE
 rw [hf, bS, HU hs.dat.1, bS]
 exact key rows.length bq 0 [] (by omega) (by rw [bl]; omega) (Nat.zero_le _)
end Go.Proofs.YtfnmbpecdjncfaaGreatDoor
namespace Go.Proofs.YtfnmbpecdjncfaaGreatDoor
open Go Go.SX Go.SX.Cal
theorem sZ {fs : List ah} {n : ByteArray} {f : ah} (h : jE fs n = some f) : f ∈ fs ∧ f.name = n :=
 ⟨List.mem_of_find?_eq_some h, by simpa using List.find?_some h⟩
theorem La {fs : List ab} {rows : List (List aa)} (hf : d8 fs < 1000000000 - 1) (hr : ∀ r ∈ rows, jr r < 1000000000) (h : Mm fs rows = 0) : ∀ r ∈ rows, G4 fs r := by
 intro r hm
 have h1 : Af fs rows = 0 := by
  unfold Mm at h
  split at h
  ·omega
  ·split at h
   ·omega
   ·exact h
 obtain ⟨a, b⟩ := Di h1 r hm
 have hn : fs.length < 1000000000 := by have := dQ fs; omega
 refine ⟨hn, a, fun i f v e1 e2 => ?_⟩
 obtain ⟨c, _⟩ := F9 b i f v e1 e2
 have s1 := ku (List.mem_of_getElem? e2)
 have s2 := hr r hm
 exact ⟨by omega, BH hf (List.mem_of_getElem? e1), c⟩
noncomputable def JH (m : aO) (s : ak) (f : ah) (fs : List ab) (rows : List (List aa)) : List Int × Int :=
 if Mm fs rows ≠ 0 then ([], Mm fs rows) else if (rows.length : Int) ≠ f.rows then ([], 1) else (wh (HN m fs rows (qw s.dat f.name) f.seq s.dby) rows.length 0, 0)
theorem I9 {m : aO} (hm : s7 m) {id : Int} {s : ak} {n : ByteArray} {rows : List (List aa)} (hc : mg m = some 0) (hs : dL m id = some (s, true)) (hd : Mi s) (ho : M3 m s) (hr : ∀ r ∈ rows, jr r < 1000000000) (hl : rows.length < 1000000000) :
  (jE s.files n = none → nH m id n rows = some ([], 9)) ∧
  (∀ f, jE s.files n = some f → ∃ fs, at? m.schemas f.schema = some fs ∧ nH m id n rows = some (JH m s f fs rows)) := by
 have h0 : ∀ X, X = jE s.files n → nH m id n rows = (al (!X.isSome) (some ([], 9))
   (aE (at? m.schemas (X.getD Ky).schema) fun e1 =>
    aE (km e1 rows) fun r4 =>
    al (r4 != (0 : Int))
     (some ([], r4))
     (al ((rows.length : Int) != (X.getD Ky).rows)
      (some ([], (1 : Int)))
      (aE (oE m s (X.getD Ky) rows) fun r5 =>
       some (r5, (0 : Int)))))) := by
  rintro X rfl
  unfold nH
  rw [hc, bS, bne_self_eq_false, iF, hs, bS]
  show al false _ _ = _
  rw [iF, Cn hd.sort hd.sz.files.1, bS]
 refine ⟨fun h => by rw [h0 none h.symm]; rfl, fun f h => ?_⟩
 obtain ⟨hf, hn⟩ := sZ h
 obtain ⟨_, fs, a1, a2⟩ := ho.file f hf
 have hz := hm.schemas.2 _ a2
 refine ⟨fs, a1, ?_⟩
 rw [h0 (some f) h.symm]
 show al false _ (aE (at? m.schemas f.schema) _) = _
 rw [iF, a1, bS, DP hz hr hl, bS]
 unfold JH
 by_cases h1 : Mm fs rows = 0
 ·rw [h1, bne_self_eq_false, iF, if_neg (fun h => h rfl)]
  show al ((rows.length : Int) != f.rows) _ (aE (oE m s f rows) _) = _
  by_cases h2 : (rows.length : Int) = f.rows
  ·rw [show ((rows.length : Int) != f.rows) = false by simp [h2], iF, if_neg (fun h => h h2), M8 hd.sz a1 hl (La hz hr h1) (fun d hdm => MA hm (hd.dby d hdm).sz (ho.dby d hdm)), bS]
  ·rw [show ((rows.length : Int) != f.rows) = true by simp [h2], iT, if_pos h2]
 ·rw [show (Mm fs rows != 0) = true by simp [h1], iT, if_pos h1]
theorem Lf {m : aO} {s : ak} {f : ah} {fs : List ab} {rows : List (List aa)} (hl : rows.length < 1000000000) : (JH m s f fs rows).1.length < 1000000000 := by
 unfold JH
 split
 ·show ([] : List Int).length < _; simp
 ·split
  ·show ([] : List Int).length < _; simp
  ·have := Bt (HN m fs rows (qw s.dat f.name) f.seq s.dby) rows.length 0
   show (wh _ _ _).length < _
   omega
theorem H2 {m : aO} {x y : ak} {f g : ah} {fs : List ab} {rows : List (List aa)} (hs : Sf f g) (h : Bf x y f g = false) : JH m x f fs rows = JH m y g fs rows := by
 unfold Bf at h
 rw [Bool.or_eq_false_iff, Bool.or_eq_false_iff, Bool.or_eq_false_iff, bne_eq_false_iff_eq, Bool.not_eq_false', decide_eq_true_iff] at h
 obtain ⟨h1, h2, h3, h4⟩ := h
 obtain ⟨n1, _, _, n2, _, _⟩ := hs
 have a1 : ∀ d ∈ x.dby, f.seq < d.seq → d ∈ y.dby := fun d hd hq => Classical.byContradiction fun hc => by
  have := Ae.2 ⟨d, hd, hq, hc⟩
  rw [h3] at this; cases this
 have a2 : ∀ d ∈ y.dby, f.seq < d.seq → d ∈ x.dby := fun d hd hq => Classical.byContradiction fun hc => by
  have hq' : g.seq < d.seq := by rw [← h1]; exact hq
  have := Ae.2 ⟨d, hd, hq', hc⟩
  rw [h4] at this; cases this
 have hp : HN m fs rows (qw x.dat f.name) f.seq x.dby = HN m fs rows (qw y.dat g.name) g.seq y.dby := by
  funext i
  unfold HN
  rw [h2, ← n1, ← h1]
  congr 2
  cases rows[i]? with
  | none => rfl
  | some r => exact HR a1 a2
 unfold JH
 rw [hp, n2]
theorem Dg {y : ak} {fs : List ah} {n : ByteArray} {f : ah} (h : jE fs n = some f) (hy : jE y.files n = none) : n ∈ l0 y fs := by
 obtain ⟨a, b⟩ := sZ h
 unfold l0
 rw [List.mem_map]
 exact ⟨f, List.mem_filter.2 ⟨a, by rw [b, hy]; rfl⟩, b⟩
theorem LK {x y : ak} {fs : List ah} {n : ByteArray} {f g : ah} (h : jE fs n = some f) (hy : jE y.files n = some g) (ht : Bf x y f g = true) : n ∈ we x y fs := by
 obtain ⟨a, b⟩ := sZ h
 unfold we
 rw [List.mem_map]
 exact ⟨f, List.mem_filter.2 ⟨a, by rw [b, hy]; exact ht⟩, b⟩
theorem DI (y : ak) {fs : List ah} (h : fs.length < 1000000000) : (l0 y fs).length < 1000000000 := by
 have := List.length_filter_le (fun f => (jE y.files f.name).isNone) fs
 unfold l0
 rw [List.length_map]; omega
theorem Kn (x y : ak) {fs : List ah} (h : fs.length < 1000000000) : (we x y fs).length < 1000000000 := by
 unfold we
 rw [List.length_map]
 exact Nat.lt_of_le_of_lt (List.length_filter_le _ fs) h
theorem EV {m : aO} (hm : s7 m) (a b : Int) (n : ByteArray) {rows : List (List aa)} (hr : ∀ r ∈ rows, jr r < 1000000000) (hl : rows.length < 1000000000) : gZ m a b n rows = some true := by
 unfold gZ
 rw [D3, bS]
 show al false _ _ = _
 rw [iF]
 have hT : cq m a b n rows true = some true := rfl
 obtain ⟨e, e1, e2⟩ := Lx hm
 by_cases he : e = 0
 ·subst he
  have hall := e2 rfl
  obtain ⟨x, bx, x1, x2⟩ := GB hm a
  obtain ⟨y, by', y1, y2⟩ := GB hm b
  have hno : (bx && by') = false → jG m a b = some (⟨[], [], []⟩, 9) := by
   intro h
   unfold jG
   rw [e1, bS, bne_self_eq_false, iF, x1, bS, y1, bS]
   cases bx with
   | false => rfl
   | true =>
    rw [Bool.true_and] at h; subst h
    rfl
  cases hb : (bx && by') with
  | false =>
   rw [hno hb, bS]
   show al true (cq m a b n rows true) _ = _
   rw [iT, hT]
  | true =>
   rw [Bool.and_eq_true] at hb
   obtain ⟨rfl, rfl⟩ := hb
   have hxm := x2 rfl
   have hym := y2 rfl
   obtain ⟨_, ox⟩ := Oz hm hall x hxm
   obtain ⟨_, oy⟩ := Oz hm hall y hym
   have dx := Jj hm hxm ox
   have dy := Jj hm hym oy
   rw [HT hm e1 x1 y1 dx dy, bS]
   show al false _ _ = _
   rw [iF]
   obtain ⟨g1, g2, g3⟩ := Fm (l0 y x.files) (DI y dx.sz.files.1) n
   obtain ⟨h1, h2, h3⟩ := Fm (l0 x y.files) (DI x dy.sz.files.1) n
   obtain ⟨t1, t2, t3⟩ := Fm (we x y x.files) (Kn x y dx.sz.files.1) n
   show aE (pQ (l0 y x.files) n) _ = _
   rw [g2, bS]
   cases g1 with
   | true => rw [iT, hT]
   | false =>
    rw [iF]
    show aE (pQ (l0 x y.files) n) _ = _
    rw [h2, bS]
    cases h1 with
    | true => rw [iT, hT]
    | false =>
     rw [iF]
     show aE (pQ (we x y x.files) n) _ = _
     rw [t2, bS]
     cases t1 with
     | true => exact hT
     | false =>
      unfold cq
      rw [iF]
      obtain ⟨lx1, lx2⟩ := I9 (n := n) hm e1 x1 dx ox hr hl
      obtain ⟨ly1, ly2⟩ := I9 (n := n) hm e1 y1 dy oy hr hl
      cases hf : jE x.files n with
      | none =>
       cases hg : jE y.files n with
       | none =>
        rw [lx1 hf, ly1 hg, bS, bS]
        rfl
       | some g => exact absurd (h3.2 (Dg hg hf)) (by simp)
      | some f =>
       cases hg : jE y.files n with
       | none => exact absurd (g3.2 (Dg hf hg)) (by simp)
       | some g =>
        obtain ⟨fs, f1, f2⟩ := lx2 f hf
        obtain ⟨gs, k1, k2⟩ := ly2 g hg
        obtain ⟨hfm, hfn⟩ := sZ hf
        obtain ⟨hgm, hgn⟩ := sZ hg
        have hs := Fb hm hall hxm hym hfm hgm (by rw [hfn, hgn])
        have htc : Bf x y f g = false := by
         cases htc : Bf x y f g with
         | false => rfl
         | true => exact absurd (t3.2 (LK hf hg htc)) (by simp)
        rw [hs.2.1, k1] at f1
        cases f1
        rw [f2, k2, H2 hs htc, bS, bS]
        show al ((JH m y g fs rows).2 == (JH m y g fs rows).2) _ _ = _
        rw [beq_self_eq_true, iT]
        show aE (sN (JH m y g fs rows).1 (JH m y g fs rows).1) _ = _
        rw [Hq _ (Lf hl), bS]
        rfl
 ·have : jG m a b = some (⟨[], [], []⟩, e) := by
   unfold jG
   rw [e1, bS, show (e != 0) = true by simp [he], iT]
  rw [this, bS]
  show al (e != 0) _ _ = _
  rw [show (e != 0) = true by simp [he], iT, hT]
end Go.Proofs.YtfnmbpecdjncfaaGreatDoor
namespace Go.Proofs.YtfnmbpecdjncfaaGreatDoor
open Go Go.SX Go.SX.Cal
theorem zb : ∀ l : List aa, jr l = (l.map d9).sum
 | [] => by simp [jr]
 | x :: l => by simp [jr, zb l]
theorem L7 (k n sc : Int) (s : ByteArray) (it : List aa) : d9 ⟨k, n, sc, s, it⟩ ≤ s.size + (it.map d9).sum + 6 := by
 simp only [d9, zb]; omega
theorem yG : ∀ l : List ab, d8 l = (l.map rD).sum
 | [] => by simp [d8]
 | x :: l => by simp [d8, yG l]
theorem NU (k s : Int) (fs : List ab) : jm ⟨k, s, fs⟩ ≤ (fs.map rD).sum + 4 := by
 rw [m9, yG]; simp only; omega
theorem NH (i : Int) (n : ByteArray) (q : Bool) (t : af) : rD ⟨i, n, q, t⟩ ≤ n.size + jm t + 4 := by
 rw [gq]; simp only; omega
def Rd (B : rG) (t : TypeId) {α : Type} (c : α → List PV) (X : α → Prop) : Prop := ∀ N N' : Nat, N' ≤ N → lu B Tryz.prog N' t c (fun x => N ≤ 1048576 → X x) (fun _ => 1)
theorem Rd.of {B : rG} {t : TypeId} {α : Type} {c c' : α → List PV} {wf : α → Prop} {s : α → Nat} {X : α → Prop} (h : ∀ N, lu B Tryz.prog N t c wf s) (hc : ∀ x, c' x = c x) (hX : ∀ x, wf x → s x ≤ 1048576 → X x) : Rd B t c' X := by
 intro N N' hN H enc w base spare held gd cs d ps hd hb
 obtain ⟨x, h1, h2, h3⟩ := h N' hd hb
 exact ⟨x, by rw [hc]; exact h1, fun hM => hX x h2 (by omega), B.one d⟩
theorem Qs {α : Type} (xs : List α) : (xs.map fun _ => (1 : Nat)).sum = xs.length := by
 induction xs with
 | nil => rfl
 | cons x l ih => rw [List.map_cons, List.sum_cons, ih, List.length_cons]; omega
theorem Rd.list {B : rG} {t e : TypeId} {α : Type} {c : α → List PV} {X : α → Prop} (n : Nat) (h : Rd B e c X) (ht : Tryz.prog.underlying t = some (.slice e)) (he : Tryz.prog.cellsOf e = n + 1) (hc : ∀ x, (c x).length = n + 1) :
  Rd B t (fun xs : List α => [.ro (xs.map c)]) (fun xs => xs.length < 1000000000 ∧ ∀ x ∈ xs, X x) := by
 intro N N' hN H enc w base spare held gd cs d ps hd hb
 obtain ⟨x, h1, h2, h3⟩ := lu.slice (B := B) (P := Tryz.prog) (N := N') (t := t) (e := e) (cells := c) ht (fun x => by rw [hc, he]) (by rw [he]; omega) (fun N'' h'' => h N N'' (by omega)) hd hb
 have h3 : (x.map fun _ => (1 : Nat)).sum + 1 ≤ B.f d := h3
 rw [Qs] at h3
 exact ⟨x, h1, fun hM => ⟨by omega, fun y hy => h2 y hy hM⟩, B.one d⟩
def RF (B : rG) (off : Nat) (fs : List Field) {α : Type} (c : α → List PV) (X : α → Prop) : Prop := ∀ N N' : Nat, N' ≤ N → vY B Tryz.prog N' off fs c (fun x => N ≤ 1048576 → X x) (fun _ => 0)
theorem RF.nil {B : rG} {off : Nat} : RF B off [] (fun _ : Unit => []) (fun _ => True) := fun N N' hN H enc w base spare held n cs xs hl h hb hc => by
 obtain ⟨x, h1, _, h3⟩ := vY.nil (B := B) (P := Tryz.prog) (N := N') hl h hb hc
 exact ⟨x, h1, fun _ => trivial, h3⟩
theorem RF.cons {B : rG} {off : Nat} {f : Field} {fs : List Field} {α β : Type} {c1 : α → List PV} {c2 : β → List PV} {X : α → Prop} {Y : β → Prop} (k n : Nat) (hk : f.type = k) (ho : f.offset = off) (hz : Tryz.prog.cellsOf k = n) (hc : ∀ x, (c1 x).length = n)
  (h : Rd B k c1 X) (r : RF B (off + n) fs c2 Y) : RF B off (f :: fs) (fun p : α × β => c1 p.1 ++ c2 p.2) (fun p => X p.1 ∧ Y p.2) := by
 subst hk; subst hz
 intro N N' hN H enc w base spare held m cs xs hl hx hb hc'
 obtain ⟨x, h1, h2, h3⟩ := vY.cons ho hc (h N N' hN) (r N N' hN) hl hx hb hc'
 exact ⟨x, h1, fun hM => ⟨h2.1 hM, h2.2 hM⟩, Nat.zero_le _⟩
theorem Rd.struct {B : rG} {t : TypeId} {α β : Type} {L : List Field} {c : β → List PV} {X : β → Prop} {c' : α → List PV} {Y : α → Prop} (h : RF B 0 L c X) (hu : gi Tryz.prog t = true) (hL : fieldsOf Tryz.prog t = L) (hz : Tryz.prog.cellsOf t = 0 + (L.map fun f => Tryz.prog.cellsOf f.type).sum)
  (mk : β → α) (h1 : ∀ y, c' (mk y) = c y) (h2 : ∀ y, X y → Y (mk y)) : Rd B t c' Y := fun N N' hN =>
 lu.structF (α := α) (cells := c') (wf' := fun x => N ≤ 1048576 → Y x) (size := fun _ => 1) hu hL hz (fun N'' h'' => h N N'' (by omega)) mk h1 (fun y hy hM => h2 y (hy hM)) (fun y => by omega)
variable {B : rG}
theorem rI : Rd B 3 (fun n : Int => [pi n]) (fun _ => True) := Rd.of (fun N => lu.int (k := .i64) (by kernel_rfl)) (fun _ => rfl) (fun _ _ _ => trivial)
theorem RD : Rd B 4 (fun b : Bool => [.s (.bool b)]) (fun _ => True) := Rd.of (fun N => lu.bool (by kernel_rfl)) (fun _ => rfl) (fun _ _ _ => trivial)
theorem O6 : Rd B 9 (fun s : ByteArray => [.s (.string s)]) (fun s => s.size < 10000000) := Rd.of (fun N => lu.str (by kernel_rfl)) (fun _ => rfl) (fun s _ h => by omega)
theorem rV : Rd B 114 CS (fun v => d9 v < 1000000000) :=
 Rd.of (GL (P := Tryz.prog) (wf := fun _ => True) (sz := d9) 114 3 9 54 (by kernel_rfl) (by kernel_rfl) (by kernel_rfl) (by kernel_rfl) (by kernel_rfl) ⟨by kernel_rfl, by kernel_rfl, by kernel_rfl, by kernel_rfl⟩ ⟨by kernel_rfl, by kernel_rfl, by kernel_rfl, by kernel_rfl, by kernel_rfl⟩ ⟨by kernel_rfl, by kernel_rfl, by kernel_rfl, by kernel_rfl, by kernel_rfl⟩ (fun _ _ _ _ _ _ _ _ _ => trivial) L7) (fun v => (congrFun BN v).symm) (fun v _ h => by omega)
theorem RK : Rd B 66 (fun fs : List ab => [.ro (ac.els fs)]) (fun fs => d8 fs < 1000000000 - 1) :=
 Rd.of (fun N => IF (P := Tryz.prog) (wfT := fun _ => True) (szT := jm) (wfF := fun _ => True) (szF := rD) (szL := d8) 68 70 3 9 4 66 (by kernel_rfl) (by kernel_rfl) (by kernel_rfl) (by kernel_rfl) (by kernel_rfl) (by kernel_rfl) (by kernel_rfl) (by kernel_rfl) ⟨by kernel_rfl, by kernel_rfl, by kernel_rfl, by kernel_rfl, by kernel_rfl⟩ (by kernel_rfl) ⟨by kernel_rfl, by kernel_rfl, by kernel_rfl, by kernel_rfl⟩ ⟨by kernel_rfl, by kernel_rfl, by kernel_rfl, by kernel_rfl⟩ ⟨by kernel_rfl, by kernel_rfl, by kernel_rfl⟩ ⟨by kernel_rfl, by kernel_rfl, by kernel_rfl⟩ (fun _ _ _ _ _ _ => trivial) NH (fun _ _ _ _ _ _ => trivial) NU (fun xs => by rw [yG]; omega) N) (fun _ => rfl) (fun fs _ h => by omega)
theorem RR : Rd B 73 (fun x : cN => [PV.ro (bj.els x.fields)]) (fun x => x.fields.length < 1000000000) :=
 Rd.of (fun N => N2 (P := Tryz.prog) 73 71 111 109 3 (by kernel_rfl) (by kernel_rfl) (by kernel_rfl) ⟨by kernel_rfl, by kernel_rfl⟩ (by kernel_rfl) (by kernel_rfl) (by kernel_rfl) (by kernel_rfl) (by kernel_rfl) (by kernel_rfl) (by kernel_rfl) ⟨by kernel_rfl, by kernel_rfl, by kernel_rfl⟩ ⟨by kernel_rfl, by kernel_rfl, by kernel_rfl, by kernel_rfl⟩ ⟨by kernel_rfl, by kernel_rfl, by kernel_rfl, by kernel_rfl⟩ N) (fun _ => rfl) (fun x _ h => by omega)
theorem Rl : Rd B 54 (fun xs : List aa => [PV.ro (ae.els xs)]) (fun xs => xs.length < 1000000000 ∧ ∀ v ∈ xs, d9 v < 1000000000) := by
 have h := Rd.list (B := B) (t := 54) (e := 114) 4 rV (by kernel_rfl) (by kernel_rfl) (fun x => rfl)
 have e : (fun xs : List aa => [PV.ro (ae.els xs)]) = fun xs => [.ro (xs.map CS)] := by funext xs; rw [ae.hels]; rfl
 rw [e]; exact h
theorem Na : Rd B 145 Fc (fun x : de => d9 x.min < 1000000000 ∧ d9 x.max < 1000000000) :=
 Rd.struct (L := [dE Tryz.prog 145 0, dE Tryz.prog 145 1, dE Tryz.prog 145 2, dE Tryz.prog 145 3]) (RF.cons 3 1 (by kernel_rfl) (by kernel_rfl) (by kernel_rfl) (fun x => rfl) rI (RF.cons 3 1 (by kernel_rfl) (by kernel_rfl) (by kernel_rfl) (fun x => rfl) rI (RF.cons 114 5 (by kernel_rfl) (by kernel_rfl) (by kernel_rfl) (fun x => rfl) rV (RF.cons 114 5 (by kernel_rfl) (by kernel_rfl) (by kernel_rfl) (fun x => rfl) rV RF.nil)))) (by kernel_rfl) (by kernel_rfl) (by kernel_rfl)
  (fun y => (⟨y.1, y.2.1, y.2.2.1, y.2.2.2.1⟩ : de)) (fun y => rfl) (fun y h => ⟨h.2.2.1, h.2.2.2.1⟩)
theorem KQ : Rd B 55 (fun xs : List de => [PV.ro (dv.els xs)]) (fun xs => xs.length < 1000000000 ∧ ∀ x ∈ xs, d9 x.min < 1000000000 ∧ d9 x.max < 1000000000) := by
 have h := Rd.list (B := B) (t := 55) (e := 145) 11 Na (by kernel_rfl) (by kernel_rfl) (fun x => rfl)
 have e : (fun xs : List de => [PV.ro (dv.els xs)]) = fun xs => [.ro (xs.map Fc)] := by funext xs; rw [oR.hels]; rfl
 rw [e]; exact h
theorem Ot : Rd B 57 IP (fun x : ah => Lo x) :=
 Rd.struct (L := [dE Tryz.prog 57 0, dE Tryz.prog 57 1, dE Tryz.prog 57 2, dE Tryz.prog 57 3, dE Tryz.prog 57 4, dE Tryz.prog 57 5, dE Tryz.prog 57 6]) (RF.cons 9 1 (by kernel_rfl) (by kernel_rfl) (by kernel_rfl) (fun x => rfl) O6 (RF.cons 3 1 (by kernel_rfl) (by kernel_rfl) (by kernel_rfl) (fun x => rfl) rI (RF.cons 3 1 (by kernel_rfl) (by kernel_rfl) (by kernel_rfl) (fun x => rfl) rI (RF.cons 54 1 (by kernel_rfl) (by kernel_rfl) (by kernel_rfl) (fun x => rfl) Rl (RF.cons 3 1 (by kernel_rfl) (by kernel_rfl) (by kernel_rfl) (fun x => rfl) rI (RF.cons 3 1 (by kernel_rfl) (by kernel_rfl) (by kernel_rfl) (fun x => rfl) rI (RF.cons 55 1 (by kernel_rfl) (by kernel_rfl) (by kernel_rfl) (fun x => rfl) KQ RF.nil))))))) (by kernel_rfl) (by kernel_rfl) (by kernel_rfl)
  (fun y => (⟨y.1, y.2.1, y.2.2.1, y.2.2.2.1, y.2.2.2.2.1, y.2.2.2.2.2.1, y.2.2.2.2.2.2.1⟩ : ah)) (fun y => rfl) (fun y h => ⟨Nat.lt_trans h.1 (by decide), h.2.2.2.1, h.2.2.2.2.2.2.1⟩)
theorem Nv : Rd B 47 (fun xs : List ah => [PV.ro (aX.els xs)]) (fun xs => xs.length < 1000000000 ∧ ∀ x ∈ xs, Lo x) := by
 have h := Rd.list (B := B) (t := 47) (e := 57) 6 Ot (by kernel_rfl) (by kernel_rfl) (fun x => rfl)
 have e : (fun xs : List ah => [PV.ro (aX.els xs)]) = fun xs => [.ro (xs.map IP)] := by funext xs; rw [oR.hels]; rfl
 rw [e]; exact h
theorem Ry : Rd B 39 (fun xs : List Int => [PV.ro (eI.els xs)]) (fun xs => xs.length < 1000000000) :=
 Rd.of (fun N => MR (P := Tryz.prog) 39 3 (by kernel_rfl) (by kernel_rfl) (by kernel_rfl) N) (fun _ => rfl) (fun x _ h => by omega)
theorem Qy : Rd B 85 (fun x : eg => [PV.s (.string x.file), .ro (eI.els x.rows)]) (fun x : eg => x.rows.length < 1000000000) :=
 Rd.struct (L := [dE Tryz.prog 85 0, dE Tryz.prog 85 1]) (RF.cons 9 1 (by kernel_rfl) (by kernel_rfl) (by kernel_rfl) (fun x => rfl) O6 (RF.cons 39 1 (by kernel_rfl) (by kernel_rfl) (by kernel_rfl) (fun x => rfl) Ry RF.nil)) (by kernel_rfl) (by kernel_rfl) (by kernel_rfl)
  (fun y => (⟨y.1, y.2.1⟩ : eg)) (fun y => rfl) (fun y h => h.2.1)
theorem OQ : Rd B 48 (fun xs : List eg => [PV.ro (cD.els xs)]) (fun xs => xs.length < 1000000000 ∧ ∀ x ∈ xs, x.rows.length < 1000000000) := by
 have h := Rd.list (B := B) (t := 48) (e := 85) 1 Qy (by kernel_rfl) (by kernel_rfl) (fun x => rfl)
 have e : (fun xs : List eg => [PV.ro (cD.els xs)]) = fun xs => [.ro (xs.map (fun x : eg => [PV.s (.string x.file), .ro (eI.els x.rows)]))] := by funext xs; rw [oR.hels]; rfl
 rw [e]; exact h
theorem Pa : Rd B 38 (fun xs : List (List aa) => [PV.ro ((eL ae).els xs)]) (fun xs => xs.length < 1000000000 ∧ ∀ x ∈ xs, x.length < 1000000000 ∧ ∀ v ∈ x, d9 v < 1000000000) := by
 have h := Rd.list (B := B) (t := 38) (e := 54) 0 Rl (by kernel_rfl) (by kernel_rfl) (fun x => rfl)
 have e : (fun xs : List (List aa) => [PV.ro ((eL ae).els xs)]) = fun xs => [.ro (xs.map (fun xs : List aa => [PV.ro (ae.els xs)]))] := by funext xs; rw [oR.hels]; rfl
 rw [e]; exact h
theorem QF : Rd B 88 (fun x : aF => [pi x.schema, PV.ro (eI.els x.ids), .ro ((eL ae).els x.keys), pi x.seq]) (fun x : aF => x.ids.length < 1000000000 ∧ x.keys.length < 1000000000 ∧ ∀ k ∈ x.keys, k.length < 1000000000 ∧ ∀ v ∈ k, d9 v < 1000000000) :=
 Rd.struct (L := [dE Tryz.prog 88 0, dE Tryz.prog 88 1, dE Tryz.prog 88 2, dE Tryz.prog 88 3]) (RF.cons 3 1 (by kernel_rfl) (by kernel_rfl) (by kernel_rfl) (fun x => rfl) rI (RF.cons 39 1 (by kernel_rfl) (by kernel_rfl) (by kernel_rfl) (fun x => rfl) Ry (RF.cons 38 1 (by kernel_rfl) (by kernel_rfl) (by kernel_rfl) (fun x => rfl) Pa (RF.cons 3 1 (by kernel_rfl) (by kernel_rfl) (by kernel_rfl) (fun x => rfl) rI RF.nil)))) (by kernel_rfl) (by kernel_rfl) (by kernel_rfl)
  (fun y => (⟨y.1, y.2.1, y.2.2.1, y.2.2.2.1⟩ : aF)) (fun y => rfl) (fun y h => ⟨h.2.1, h.2.2.1⟩)
theorem OX : Rd B 49 (fun xs : List aF => [PV.ro (bz.els xs)]) (fun xs => xs.length < 1000000000 ∧ ∀ x ∈ xs, x.ids.length < 1000000000 ∧ x.keys.length < 1000000000 ∧ ∀ k ∈ x.keys, k.length < 1000000000 ∧ ∀ v ∈ k, d9 v < 1000000000) := by
 have h := Rd.list (B := B) (t := 49) (e := 88) 3 QF (by kernel_rfl) (by kernel_rfl) (fun x => rfl)
 have e : (fun xs : List aF => [PV.ro (bz.els xs)]) = fun xs => [.ro (xs.map (fun x : aF => [pi x.schema, PV.ro (eI.els x.ids), .ro ((eL ae).els x.keys), pi x.seq]))] := by funext xs; rw [oR.hels]; rfl
 rw [e]; exact h
theorem O8 : Rd B 51 HQ (fun x : ak => Hk x) :=
 Rd.struct (L := [dE Tryz.prog 51 0, dE Tryz.prog 51 1, dE Tryz.prog 51 2, dE Tryz.prog 51 3, dE Tryz.prog 51 4, dE Tryz.prog 51 5, dE Tryz.prog 51 6, dE Tryz.prog 51 7, dE Tryz.prog 51 8]) (RF.cons 3 1 (by kernel_rfl) (by kernel_rfl) (by kernel_rfl) (fun x => rfl) rI (RF.cons 3 1 (by kernel_rfl) (by kernel_rfl) (by kernel_rfl) (fun x => rfl) rI (RF.cons 3 1 (by kernel_rfl) (by kernel_rfl) (by kernel_rfl) (fun x => rfl) rI (RF.cons 3 1 (by kernel_rfl) (by kernel_rfl) (by kernel_rfl) (fun x => rfl) rI (RF.cons 3 1 (by kernel_rfl) (by kernel_rfl) (by kernel_rfl) (fun x => rfl) rI (RF.cons 3 1 (by kernel_rfl) (by kernel_rfl) (by kernel_rfl) (fun x => rfl) rI (RF.cons 47 1 (by kernel_rfl) (by kernel_rfl) (by kernel_rfl) (fun x => rfl) Nv (RF.cons 48 1 (by kernel_rfl) (by kernel_rfl) (by kernel_rfl) (fun x => rfl) OQ (RF.cons 49 1 (by kernel_rfl) (by kernel_rfl) (by kernel_rfl) (fun x => rfl) OX RF.nil))))))))) (by kernel_rfl) (by kernel_rfl) (by kernel_rfl)
  (fun y => (⟨y.1, y.2.1, y.2.2.1, y.2.2.2.1, y.2.2.2.2.1, y.2.2.2.2.2.1, y.2.2.2.2.2.2.1, y.2.2.2.2.2.2.2.1, y.2.2.2.2.2.2.2.2.1⟩ : ak)) (fun y => rfl) (fun y h => ⟨h.2.2.2.2.2.2.1, h.2.2.2.2.2.2.2.1, h.2.2.2.2.2.2.2.2.1⟩)
theorem MW : Rd B 24 (fun xs : List ak => [PV.ro (aU.els xs)]) (fun xs => xs.length < 1000000000 ∧ ∀ x ∈ xs, Hk x) := by
 have h := Rd.list (B := B) (t := 24) (e := 51) 8 O8 (by kernel_rfl) (by kernel_rfl) (fun x => rfl)
 have e : (fun xs : List ak => [PV.ro (aU.els xs)]) = fun xs => [.ro (xs.map HQ)] := by funext xs; rw [oR.hels]; rfl
 rw [e]; exact h
theorem QA : Rd B 99 (fun x : gf => [PV.s (.string x.name), .s (.bool x.branch), pi x.snapshot]) (fun x : gf => x.name.size < 1000000000) :=
 Rd.struct (L := [dE Tryz.prog 99 0, dE Tryz.prog 99 1, dE Tryz.prog 99 2]) (RF.cons 9 1 (by kernel_rfl) (by kernel_rfl) (by kernel_rfl) (fun x => rfl) O6 (RF.cons 4 1 (by kernel_rfl) (by kernel_rfl) (by kernel_rfl) (fun x => rfl) RD (RF.cons 3 1 (by kernel_rfl) (by kernel_rfl) (by kernel_rfl) (fun x => rfl) rI RF.nil))) (by kernel_rfl) (by kernel_rfl) (by kernel_rfl)
  (fun y => (⟨y.1, y.2.1, y.2.2.1⟩ : gf)) (fun y => rfl) (fun y h => Nat.lt_trans h.1 (by decide))
theorem OV : Rd B 25 (fun xs : List gf => [PV.ro (il.els xs)]) (fun xs => xs.length < 1000000000 ∧ ∀ x ∈ xs, x.name.size < 1000000000) := by
 have h := Rd.list (B := B) (t := 25) (e := 99) 2 QA (by kernel_rfl) (by kernel_rfl) (fun x => rfl)
 have e : (fun xs : List gf => [PV.ro (il.els xs)]) = fun xs => [.ro (xs.map (fun x : gf => [PV.s (.string x.name), .s (.bool x.branch), pi x.snapshot]))] := by funext xs; rw [oR.hels]; rfl
 rw [e]; exact h
theorem O2 : Rd B 102 (fun x : gC => [PV.s (.string x.name), .s (.string x.value)]) (fun x : gC => x.name.size < 1000000000 ∧ x.value.size < 100000000) :=
 Rd.struct (L := [dE Tryz.prog 102 0, dE Tryz.prog 102 1]) (RF.cons 9 1 (by kernel_rfl) (by kernel_rfl) (by kernel_rfl) (fun x => rfl) O6 (RF.cons 9 1 (by kernel_rfl) (by kernel_rfl) (by kernel_rfl) (fun x => rfl) O6 RF.nil)) (by kernel_rfl) (by kernel_rfl) (by kernel_rfl)
  (fun y => (⟨y.1, y.2.1⟩ : gC)) (fun y => rfl) (fun y h => ⟨Nat.lt_trans h.1 (by decide), Nat.lt_trans h.2.1 (by decide)⟩)
theorem NJ : Rd B 26 (fun xs : List gC => [PV.ro (eG.els xs)]) (fun xs => xs.length < 1000000000 ∧ ∀ x ∈ xs, x.name.size < 1000000000 ∧ x.value.size < 100000000) := by
 have h := Rd.list (B := B) (t := 26) (e := 102) 1 O2 (by kernel_rfl) (by kernel_rfl) (fun x => rfl)
 have e : (fun xs : List gC => [PV.ro (eG.els xs)]) = fun xs => [.ro (xs.map (fun x : gC => [PV.s (.string x.name), .s (.string x.value)]))] := by funext xs; rw [oR.hels]; rfl
 rw [e]; exact h
theorem Q2 : Rd B 22 (fun xs : List (List ab) => [PV.ro ((eL ac).els xs)]) (fun xs => xs.length < 1000000000 ∧ ∀ x ∈ xs, d8 x < 1000000000 - 1) := by
 have h := Rd.list (B := B) (t := 22) (e := 66) 0 RK (by kernel_rfl) (by kernel_rfl) (fun x => rfl)
 have e : (fun xs : List (List ab) => [PV.ro ((eL ac).els xs)]) = fun xs => [.ro (xs.map (fun fs : List ab => [PV.ro (ac.els fs)]))] := by funext xs; rw [oR.hels]; rfl
 rw [e]; exact h
theorem Qr : Rd B 23 (fun xs : List cN => [PV.ro (dV.els xs)]) (fun xs => xs.length < 1000000000 ∧ ∀ x ∈ xs, x.fields.length < 1000000000) := by
 have h := Rd.list (B := B) (t := 23) (e := 73) 0 RR (by kernel_rfl) (by kernel_rfl) (fun x => rfl)
 have e : (fun xs : List cN => [PV.ro (dV.els xs)]) = fun xs => [.ro (xs.map (fun x : cN => [PV.ro (bj.els x.fields)]))] := by funext xs; rw [oR.hels]; rfl
 rw [e]; exact h
abbrev Mk (x : aO) : List PV := [.ro ((eL ac).els x.schemas), .ro (dV.els x.specs), pi x.nextField, pi x.nextSeq, pi x.nextSnap, pi x.purges, .ro (aU.els x.snapshots), .ro (il.els x.refs), .ro (eG.els x.props)]
theorem L1 : Rd B 28 Mk (fun x : aO => s7 x) :=
 Rd.struct (L := [dE Tryz.prog 28 0, dE Tryz.prog 28 1, dE Tryz.prog 28 2, dE Tryz.prog 28 3, dE Tryz.prog 28 4, dE Tryz.prog 28 5, dE Tryz.prog 28 6, dE Tryz.prog 28 7, dE Tryz.prog 28 8]) (RF.cons 22 1 (by kernel_rfl) (by kernel_rfl) (by kernel_rfl) (fun x => rfl) Q2 (RF.cons 23 1 (by kernel_rfl) (by kernel_rfl) (by kernel_rfl) (fun x => rfl) Qr (RF.cons 3 1 (by kernel_rfl) (by kernel_rfl) (by kernel_rfl) (fun x => rfl) rI (RF.cons 3 1 (by kernel_rfl) (by kernel_rfl) (by kernel_rfl) (fun x => rfl) rI (RF.cons 3 1 (by kernel_rfl) (by kernel_rfl) (by kernel_rfl) (fun x => rfl) rI (RF.cons 3 1 (by kernel_rfl) (by kernel_rfl) (by kernel_rfl) (fun x => rfl) rI (RF.cons 24 1 (by kernel_rfl) (by kernel_rfl) (by kernel_rfl) (fun x => rfl) MW (RF.cons 25 1 (by kernel_rfl) (by kernel_rfl) (by kernel_rfl) (fun x => rfl) OV (RF.cons 26 1 (by kernel_rfl) (by kernel_rfl) (by kernel_rfl) (fun x => rfl) NJ RF.nil))))))))) (by kernel_rfl) (by kernel_rfl) (by kernel_rfl)
  (fun y => (⟨y.1, y.2.1, y.2.2.1, y.2.2.2.1, y.2.2.2.2.1, y.2.2.2.2.2.1, y.2.2.2.2.2.2.1, y.2.2.2.2.2.2.2.1, y.2.2.2.2.2.2.2.2.1⟩ : aO)) (fun y => rfl) (fun y h => ⟨h.1, h.2.1, h.2.2.2.2.2.2.1, h.2.2.2.2.2.2.2.1, h.2.2.2.2.2.2.2.2.1⟩)
noncomputable def N9 (m : aO) : Nat := @ite _ (s7 m) (Classical.propDecidable _) 1 1048577
theorem MF {m : aO} (h : N9 m ≤ 1048576) : s7 m := by
 unfold N9 at h
 split at h
 ·assumption
 ·omega
theorem Nu (N : Nat) : lu B Tryz.prog N 28 Mk (fun _ => True) N9 := by
 intro H enc w base spare held gd cs d ps hd hb
 by_cases hs : B.f d ≤ 1048576
 ·obtain ⟨x, h1, h2, _⟩ := L1 1048576 (B.f d) hs hd (Nat.le_refl _)
  refine ⟨x, h1, trivial, ?_⟩
  unfold N9
  rw [if_pos (h2 (Nat.le_refl _))]
  exact B.one d
 ·obtain ⟨x, h1, _, _⟩ := L1 N N (Nat.le_refl _) hd hb
  refine ⟨x, h1, trivial, ?_⟩
  unfold N9
  split <;> omega
end Go.Proofs.YtfnmbpecdjncfaaGreatDoor
namespace Go.Proofs.YtfnmbpecdjncfaaGreatDoor
open Go Go.SX Go.SX.Cal
def Dc (r : List aa) : Nat := jr r + 1
def qd (rows : List (List aa)) : Nat := (rows.map Dc).sum
theorem A7 : ∀ {rows : List (List aa)} {r : List aa}, r ∈ rows → jr r < qd rows + 1
 | [], _, h => by cases h
 | x :: rows, r, h => by
  have hx : qd (x :: rows) = (jr x + 1) + qd rows := by unfold qd; simp only [List.map_cons, List.sum_cons, Dc]
  rcases List.mem_cons.1 h with rfl | h
  ·omega
  ·have := A7 h; omega
theorem AL : ∀ rows : List (List aa), rows.length ≤ qd rows
 | [] => by simp [qd]
 | x :: rows => by
  have hx : qd (x :: rows) = (jr x + 1) + qd rows := by unfold qd; simp only [List.map_cons, List.sum_cons, Dc]
  have := AL rows
  rw [List.length_cons]; omega
theorem Do {m : aO} {rows : List (List aa)} (h1 : N9 m ≤ 1048576) (h2 : qd rows ≤ 1048576) (a b : Int) (n : ByteArray) : gZ m a b n rows = some true :=
 EV (MF h1) a b n (fun r hr => by have := A7 hr; omega) (by have := AL rows; omega)
end Go.Proofs.YtfnmbpecdjncfaaGreatDoor
