/- SX: functions whose contract is given over plain worlds; utf8.ValidString by the shelf's contract. SX: functions that the model stands in for, at any arguments; bytes.Compare. SX: the way from a given row to a contract of pure values: reading the arguments, and closing the row. SX: readings of structs by the program's own fields. SX: readings of values and types. Types out of rows. Lists of fields out of rows. Lists of values, of numbers, of bytes out of rows. Lists of lists of values out of rows. -/
import Derived.Shelf.Unicode.ValidAny
import Derived.Lib.Bytealg
import Derived.OpenShut
import Derived.JoinedCond
import Derived.WideKeyArgs
import Derived.Test.YtmaemlebpjnmoaaGreatDoorSxB
set_option linter.unusedVariables false
set_option linter.unusedSimpArgs false
set_option linter.unnecessarySimpa false
namespace Go.SX
open Go Go.Shelf Go.Lib Go.Proofs Go.RowKit
theorem rq {ι : IM} {w : World} {st : St} : ∀ {us vs : List Value}, vs.length = us.length → (∀ (j : Nat) v a, vs[j]? = some v → (us.map fun u => AV.one (.pv (.s u)))[j]? = some a → aH ι w st v a) → vs = us
 | [], [], _, _ => rfl
 | [], _ :: _, h, _ => by simp at h
 | _ :: _, [], h, _ => by simp at h
 | u :: us, v :: vs, h, hA => by
  have h0 := bz (hA 0 v _ rfl rfl)
  subst h0
  rw [rq (us := us) (vs := vs) (by simpa using h) (fun j x a h1 h2 => hA (j + 1) x a (by simpa using h1) (by simpa using h2))]
theorem PC.below {P : Program} {f : Nat} {us : List Value} {v : Value} (hv : kD v = true)
  (h : ∀ w : World, (∀ (b : Nat) (l : List Value), uw b = some l → ∀ (i : Nat) x, l[i]? = some x → w.cell? ⟨b, i, none⟩ = some x) → Calls P f us.toArray w fun e w' => e = .returned v ∧ Below w.heap.size w w') :
  PC P f (us.map fun u => .one (.pv (.s u))) (.one (.pv (.s v))) := by
 intro ι w vs hR hA
 obtain rfl := rq (by simpa using hA.1) hA.2
 refine (h w (fun b l hb => (hR.gl b l hb).2.2)).mono ?_
 rintro e w' ⟨rfl, hb⟩
 have hx : ki w w' := ⟨hb.os, hb.tape, hb.output, hb.size, fun b hlt => hb.block b hlt⟩
 exact ⟨v, _, [], ι, rfl, ⟨rfl, rfl⟩, hR.ext hx, .one _ _ (.pv _ _ (.s _ hv)), (hx.keeps ι []).weaken (fun _ _ => trivial)⟩
theorem B5 {g3 g4 : Nat} {w : World} (h3 : ∀ (i : Nat) x, oT[i]? = some x → w.cell? ⟨g3, i, none⟩ = some x) (h4 : ∀ (i : Nat) x, vy[i]? = some x → w.cell? ⟨g4, i, none⟩ = some x) : Utf8Tabs g3 g4 w := by
 refine ⟨fun c hc => h3 c _ ?_, fun i hi => ⟨h4 _ _ ?_, h4 _ _ ?_⟩⟩
 ·simp [oT, hc]
 ·simp [vy, show 2 * i < 32 by omega]
 ·simp [vy, show 2 * i + 1 < 32 by omega, show (2 * i + 1) / 2 = i by omega]
theorem BP {g3 g4 : Nat} {w : World} (h : Utf8Tabs g3 g4 w) : (∀ (i : Nat) x, oT[i]? = some x → w.cell? ⟨g3, i, none⟩ = some x) ∧ (∀ (i : Nat) x, vy[i]? = some x → w.cell? ⟨g4, i, none⟩ = some x) := by
 refine ⟨fun i x hx => ?_, fun i x hx => ?_⟩
 ·by_cases hi : i < 256
  ·simp [oT, hi] at hx; subst hx; exact h.1 i hi
  ·simp [oT, hi] at hx
 ·by_cases hi : i < 32
  ·simp only [vy, List.getElem?_map, List.getElem?_range hi, Option.map_some, Option.some.injEq] at hx
   by_cases e : i % 2 = 0
   ·rw [if_pos e] at hx
    have := (h.2 (i / 2) (by omega)).1
    rw [show 2 * (i / 2) = i by omega, hx] at this
    exact this
   ·rw [if_neg e] at hx
    have := (h.2 (i / 2) (by omega)).2
    rw [show 2 * (i / 2) + 1 = i by omega, hx] at this
    exact this
  ·simp [vy, hi] at hx
theorem q6 {P : Program} {ρ : Ren} (L : Lays.n196 P ρ) (h3 : uw (ρ.g 3) = some oT) (h4 : uw (ρ.g 4) = some vy) (s : ByteArray) (hs : s.size ≤ 9223372036854775807) :
  PC P (ρ.f 196) [.one (.pv (.s (.string s)))] (.one (.pv (.s (.bool (validD s.data.toList))))) :=
 PC.below (us := [.string s]) rfl fun w hw => Go.Proofs.Any.utf8_ValidString L s w hs (B5 (hw _ _ h3) (hw _ _ h4))
end Go.SX
namespace Go.SX
open Go
section
variable {P : Program} {n n0 : Nat} {loose : List Nat} {Q : QT} {fr : Fr} {st : St} {ops : Array Oper}
end
end Go.SX
namespace Go.SX
open Go
structure rK where
 f : {H : Type} → DataW H → Nat
 one : ∀ {H : Type} (d : DataW H), 1 ≤ f d
 str : ∀ {H : Type} (b : List UInt8), b.length + 1 ≤ f (DataW.lit (H := H) (.string b))
 sl : ∀ {H : Type} (e s : List (DataW H)), (e.map f).sum + 1 ≤ f (.slice e s)
 ag : ∀ {H : Type} (ps : List (DataW H)), (ps.map f).sum + 1 ≤ f (.agg ps)
abbrev vv : Nat → Prop := fun _ => False
def og (w : World) (cs : List Value) (ps : List PV) : Prop :=
 cs.length = ps.length ∧ ∀ (j : Nat) v p, cs[j]? = some v → ps[j]? = some p → fc vv w v p
theorem og.one {w : World} {v : Value} {p : PV} (h : fc vv w v p) : og w [v] [p] := by
 refine ⟨rfl, fun j v' p' h1 h2 => ?_⟩
 cases j with
 | zero => simp at h1 h2; subst h1; subst h2; exact h
 | succ j => simp at h1
theorem og.nil {w : World} : og w [] [] := ⟨rfl, fun j v p h => by simp at h⟩
theorem og.app {w : World} {cs : List Value} {p q : List PV} {n : Nat} (h : og w (cs.take n) p) (k : og w (cs.drop n) q) (hn : p.length = n) : og w cs (p ++ q) := by
 have e : cs = cs.take n ++ cs.drop n := (List.take_append_drop n cs).symm
 refine ⟨?_, fun j v x h1 h2 => ?_⟩
 ·have h1 := h.1; have h2 := k.1
  rw [List.length_append, ← h1, ← h2, ← List.length_append, ← e]
 ·by_cases hj : j < n
  ·rw [List.getElem?_append_left (by omega)] at h2
   refine h.2 j v x ?_ h2
   rw [List.getElem?_take, if_pos hj]; exact h1
  ·rw [List.getElem?_append_right (by omega)] at h2
   refine k.2 (j - n) v x ?_ (by rw [← hn]; exact h2)
   rw [List.getElem?_drop, show n + (j - n) = j by omega]; exact h1
section
variable (B : rK) (P : Program)
def lI (N : Nat) (t : TypeId) {α : Type} (cells : α → List PV) (wf : α → Prop) (size : α → Nat) : Prop :=
 ∀ ⦃H : Type⦄ ⦃enc : TypeId × Value → H⦄ ⦃w : World⦄ ⦃base : Nat⦄ ⦃spare : Nat → Bool⦄ ⦃held : Bool⦄ ⦃bX : Nat⦄ ⦃cs : List Value⦄ ⦃d : DataW H⦄ ⦃ps : List MemPlace⦄,
  DataW.trod enc P w base spare held bX t cs = some (d, ps) → B.f d ≤ N → ∃ x, og w cs (cells x) ∧ wf x ∧ size x ≤ B.f d
variable {B P}
theorem lI.int {N : Nat} {t : TypeId} {k : IntKind} (ht : P.underlying t = some (.int k)) : lI B P N t (fun n : Int => [.s (.int k n)]) (fun n => k.min ≤ n ∧ n ≤ k.max) (fun _ => 1) := by
 intro H enc w base spare held bX cs d ps h hN
 obtain ⟨n, rfl, hx, hw⟩ := DataW.trod_int ht h
 refine ⟨n, .one (.s _ rfl), ?_, B.one d⟩
 simpa [Lit.wf] using hw
theorem lI.bool {N : Nat} {t : TypeId} (ht : P.underlying t = some .bool) : lI B P N t (fun b : Bool => [.s (.bool b)]) (fun _ => True) (fun _ => 1) := by
 intro H enc w base spare held bX cs d ps h hN
 obtain ⟨b, rfl, hx⟩ := DataW.trod_bool ht h
 exact ⟨b, .one (.s _ rfl), trivial, B.one d⟩
theorem lI.str {N : Nat} {t : TypeId} (ht : P.underlying t = some .string) : lI B P N t (fun s : ByteArray => [.s (.string s)]) (fun _ => True) (fun s => s.size + 1) := by
 intro H enc w base spare held bX cs d ps h hN
 obtain ⟨s, rfl, hx, hs⟩ := DataW.trod_string ht h
 simp only [Prod.mk.injEq] at hx
 obtain ⟨rfl, rfl⟩ := hx
 refine ⟨s, .one (.s _ rfl), trivial, ?_⟩
 have := B.str (H := H) s.data.toList
 simpa using this
theorem BU {w : World} {a : Addr} {v : Value} (h : w.cell? a = some v) : a.block < w.heap.size := by
 unfold World.cell? at h
 split at h
 ·rename_i h1; exact (Array.getElem?_eq_some_iff.1 h1).1
 ·cases h
theorem CU {α : Type} {f : α → Nat} {l : List α} {x : α} (h : x ∈ l) : f x ≤ (l.map f).sum := by
 induction l with
 | nil => cases h
 | cons y l ih =>
  simp only [List.map_cons, List.sum_cons]
  rcases List.mem_cons.1 h with rfl | h
  ·omega
  ·have := ih h; omega
theorem vE {α β : Type} {q : Nat → α → β → Prop} : ∀ {l : List α} , (∀ (i : Nat) a, l[i]? = some a → ∃ b, q i a b) → ∃ bs : List β, bs.length = l.length ∧ ∀ (i : Nat) a b, l[i]? = some a → bs[i]? = some b → q i a b := by
 intro l
 induction l generalizing q with
 | nil => intro _; exact ⟨[], rfl, fun i a b h => by simp at h⟩
 | cons x l ih =>
  intro h
  obtain ⟨b0, h0⟩ := h 0 x rfl
  obtain ⟨bs, hl, hb⟩ := ih (q := fun i => q (i + 1)) (fun i a hi => h (i + 1) a (by simpa using hi))
  refine ⟨b0 :: bs, by simp [hl], fun i a b h1 h2 => ?_⟩
  cases i with
  | zero => simp at h1 h2; subst h1; subst h2; exact h0
  | succ i => exact hb i a b (by simpa using h1) (by simpa using h2)
theorem sZ {α β : Type} {f : α → Nat} {g : β → Nat} : ∀ {l : List α} {m : List β}, m.length = l.length → (∀ (i : Nat) a b, l[i]? = some a → m[i]? = some b → g b ≤ f a) → (m.map g).sum ≤ (l.map f).sum
 | [], [], _, _ => by simp
 | [], _ :: _, h, _ => by simp at h
 | _ :: _, [], h, _ => by simp at h
 | a :: l, b :: m, h, hk => by
  have h0 := hk 0 a b rfl rfl
  have := sZ (f := f) (g := g) (l := l) (m := m) (by simpa using h) (fun i x y h1 h2 => hk (i + 1) x y (by simpa using h1) (by simpa using h2))
  simp only [List.map_cons, List.sum_cons]
  omega
theorem lI.slice {N : Nat} {t e : TypeId} {α : Type} {cells : α → List PV} {wf : α → Prop} {size : α → Nat} (ht : P.underlying t = some (.slice e)) (hc : ∀ x, (cells x).length = P.cellsOf e)
  (hpos : 0 < P.cellsOf e) (h : ∀ N', N' < N → lI B P N' e cells wf size) :
  lI B P N t (fun xs : List α => [.ro (xs.map cells)]) (fun xs => ∀ x ∈ xs, wf x) (fun xs => (xs.map size).sum + 1) := by
 intro H enc w base spare held bX cs d ps hd hN
 rcases DataW.trod_slice ht hd with ⟨rfl, hx⟩ | ⟨a, len, cap, elems, rest, n, _, rfl, hx, hb, hl, hm, hlen, hel, _, _⟩
 ·exact ⟨[], .one .nl, by simp, by simpa using B.one d⟩
 simp only [Prod.mk.injEq] at hx
 obtain ⟨rfl, rfl⟩ := hx
 have hsum := B.sl (elems.map (·.1)) (rest.map (·.1))
 have hel' : ∀ (i : Nat) z, elems[i]? = some z → ∃ x : α, (∃ cs', w.cells? base (a.add (i * P.cellsOf e)) (P.cellsOf e) = some cs' ∧ og w cs' (cells x)) ∧ wf x ∧ size x ≤ B.f z.1 := by
  intro i z hz
  have hi : i < len := by rw [← hlen]; exact (List.getElem?_eq_some_iff.1 hz).1
  have hk := hel i hi
  rw [hz] at hk
  obtain ⟨cs', h1, h2⟩ := Option.bind_eq_some_iff.1 hk
  have hle : B.f z.1 ≤ ((elems.map (·.1)).map B.f).sum := CU (f := B.f) (List.mem_map.2 ⟨z, List.mem_of_getElem? hz, rfl⟩)
  obtain ⟨x, k1, k2, k3⟩ := h (B.f z.1) (by omega) (d := z.1) (ps := z.2) h2 (Nat.le_refl _)
  exact ⟨x, ⟨cs', h1, k1⟩, k2, k3⟩
 obtain ⟨xs, hxl, hxs⟩ := vE hel'
 have hxlen : xs.length = len := by omega
 have key : ∀ (i : Nat) x, xs[i]? = some x → ∃ z, elems[i]? = some z ∧ (∃ cs', w.cells? base (a.add (i * P.cellsOf e)) (P.cellsOf e) = some cs' ∧ og w cs' (cells x)) ∧ wf x ∧ size x ≤ B.f z.1 := by
  intro i x hx
  have hi : i < elems.length := by rw [← hxl]; exact (List.getElem?_eq_some_iff.1 hx).1
  exact ⟨_, List.getElem?_eq_getElem hi, hxs i _ x (List.getElem?_eq_getElem hi) hx⟩
 refine ⟨xs, .one ?_, ?_, ?_⟩
 ·have hcell : ∀ (i : Nat) (ee : List PV) (j : Nat) c, (xs.map cells)[i]? = some ee → ee[j]? = some c → ∃ v, w.cell? (a.add (i * P.cellsOf e + j)) = some v ∧ fc vv w v c := by
   intro i ee j c h1 h2
   rw [List.getElem?_map, Option.map_eq_some_iff] at h1
   obtain ⟨x, hx, rfl⟩ := h1
   obtain ⟨z, _, ⟨cs', hcs, hrd⟩, _, _⟩ := key i x hx
   obtain ⟨_, hcl, hcc⟩ := World.cells?_some hcs
   have hj : j < P.cellsOf e := by rw [← hc x]; exact (List.getElem?_eq_some_iff.1 h2).1
   have := hcc j hj
   rw [pp] at this
   have hget : cs'[j]? = some cs'[j] := List.getElem?_eq_getElem (by omega)
   exact ⟨cs'[j], this.trans hget, hrd.2 j _ c hget h2⟩
  have := fc.ro (μ := vv) (w := w) a cap (P.cellsOf e) (xs.map cells) (fun i j => (w.cell? (a.add (i * P.cellsOf e + j))).getD undef) (by simpa [hxlen] using hl)
   (fun ee he => by obtain ⟨x, _, rfl⟩ := List.mem_map.1 he; exact hc x)
   (fun hne => by
    refine ⟨?_, fun h => h⟩
    cases xs with
    | nil => simp at hne
    | cons x0 r0 =>
     have h0 : 0 < (cells x0).length := by rw [hc]; exact hpos
     obtain ⟨v, hv, _⟩ := hcell 0 (cells x0) 0 _ rfl (List.getElem?_eq_getElem h0)
     have := BU hv
     rwa [nQ] at this)
   (fun i ee j c h1 h2 => by obtain ⟨v, hv, _⟩ := hcell i ee j c h1 h2; simp [hv])
   (fun i ee j c h1 h2 => by obtain ⟨v, hv, hr⟩ := hcell i ee j c h1 h2; simpa [hv] using hr)
  rw [List.length_map, hxlen] at this
  exact this
 ·intro x hx
  obtain ⟨i, hi, rfl⟩ := List.getElem_of_mem hx
  obtain ⟨_, _, _, k, _⟩ := key i _ (List.getElem?_eq_getElem hi)
  exact k
 ·have : (xs.map size).sum ≤ ((elems.map (·.1)).map B.f).sum := by
   rw [List.map_map]
   exact sZ (f := B.f ∘ Prod.fst) (g := size) hxl (fun i z x h1 h2 => (hxs i z x h1 h2).2.2)
  show (xs.map size).sum + 1 ≤ _
  omega
def se (B : rK) (P : Program) (N : Nat) (off : Nat) (fs : List Field) {α : Type} (cells : α → List PV) (wf : α → Prop) (size : α → Nat) : Prop :=
 ∀ ⦃H : Type⦄ ⦃enc : TypeId × Value → H⦄ ⦃w : World⦄ ⦃base : Nat⦄ ⦃spare : Nat → Bool⦄ ⦃held : Bool⦄ ⦃n : Nat⦄ ⦃cs : List Value⦄ ⦃xs : List (DataW H × List MemPlace)⦄,
  xs.length = fs.length → (∀ (i : Nat) f, fs[i]? = some f → DataW.trod enc P w base spare held n f.type ((cs.drop f.offset).take (P.cellsOf f.type)) = xs[i]?) → ((xs.map (·.1)).map B.f).sum ≤ N →
  cs.length = off + (fs.map fun f => P.cellsOf f.type).sum →
  ∃ x, og w (cs.drop off) (cells x) ∧ wf x ∧ size x ≤ ((xs.map (·.1)).map B.f).sum
theorem se.nil {N off : Nat} : se B P N off [] (fun _ : Unit => []) (fun _ => True) (fun _ => 0) := by
 intro H enc w base spare held n cs xs hl h hN hc
 refine ⟨(), ?_, trivial, Nat.zero_le _⟩
 have : cs.drop off = [] := by simp at hc ⊢; omega
 rw [this]
 exact .nil
theorem se.cons {N off : Nat} {f : Field} {fs : List Field} {α β : Type} {c1 : α → List PV} {w1 : α → Prop} {s1 : α → Nat} {c2 : β → List PV} {w2 : β → Prop} {s2 : β → Nat} (ho : f.offset = off) (hc : ∀ x, (c1 x).length = P.cellsOf f.type)
  (h : lI B P N f.type c1 w1 s1) (k : se B P N (off + P.cellsOf f.type) fs c2 w2 s2) : se B P N off (f :: fs) (fun p : α × β => c1 p.1 ++ c2 p.2) (fun p => w1 p.1 ∧ w2 p.2) (fun p => s1 p.1 + s2 p.2) := by
 intro H enc w base spare held n cs xs hl hx hN hlen
 match xs, hl with
 | z :: zs, hl =>
  simp only [List.map_cons, List.sum_cons] at hN hlen ⊢
  have h0 := hx 0 f rfl
  obtain ⟨x, a1, a2, a3⟩ := h (d := z.1) (ps := z.2) h0 (by omega)
  obtain ⟨y, b1, b2, b3⟩ := k (xs := zs) (cs := cs) (by simpa using hl) (fun i g hg => hx (i + 1) g (by simpa using hg)) (by omega) (by omega)
  refine ⟨(x, y), ?_, ⟨a2, b2⟩, by simp only; omega⟩
  rw [ho] at a1
  refine og.app (n := P.cellsOf f.type) a1 ?_ (hc x)
  rw [List.drop_drop]
  exact b1
theorem lI.struct {N : Nat} {t : TypeId} {fs : Array Field} {α β : Type} {c : β → List PV} {wf : β → Prop} {s : β → Nat} {cells : α → List PV} {wf' : α → Prop} {size : α → Nat} (ht : P.underlying t = some (.struct fs)) (hsz : P.cellsOf t = 0 + (fs.toList.map fun f => P.cellsOf f.type).sum)
  (h : ∀ N', N' < N → se B P N' 0 fs.toList c wf s) (mk : β → α) (h1 : ∀ y, cells (mk y) = c y) (h2 : ∀ y, wf y → wf' (mk y)) (h3 : ∀ y, size (mk y) ≤ s y + 1) : lI B P N t cells wf' size := by
 intro H enc w base spare held bX cs d ps hd hN
 obtain ⟨xs, n, _, hx, hlen, hxl, hf⟩ := DataW.trod_struct ht hd
 simp only [Prod.mk.injEq] at hx
 obtain ⟨rfl, rfl⟩ := hx
 have hag := B.ag (xs.map (·.1))
 obtain ⟨y, a1, a2, a3⟩ := h _ (show ((xs.map (·.1)).map B.f).sum < N by omega) (xs := xs) (cs := cs) (by simpa using hxl) (fun i f hi => hf i f (by simpa using hi)) (Nat.le_refl _) (hlen.trans hsz)
 refine ⟨mk y, ?_, h2 y a2, ?_⟩
 ·rw [h1]; simpa using a1
 ·have := h3 y; omega
theorem lI.conv {N : Nat} {t : TypeId} {α : Type} {c c' : α → List PV} {wf wf' : α → Prop} {s s' : α → Nat} (h : lI B P N t c wf s) (h1 : ∀ x, c' x = c x) (h2 : ∀ x, wf x → wf' x) (h3 : ∀ x, s' x ≤ s x) : lI B P N t c' wf' s' := by
 intro H enc w base spare held bX cs d ps hd hN
 obtain ⟨x, a1, a2, a3⟩ := h hd hN
 exact ⟨x, by rw [h1]; exact a1, h2 x a2, Nat.le_trans (h3 x) a3⟩
end
theorem fc.toVRel {w : World} {v : Value} {p : PV} (h : fc vv w v p) : bZ ⟨fun _ => none, fun _ => False⟩ w [] v (.pv p) :=
 .pv v p (h.mono (Nat.le_refl _) (fun b _ _ => ⟨rfl, fun hm => by
  rcases hm with hm | ⟨id, o, h1, _, _⟩
  ·exact hm
  ·simp at h1⟩))
theorem BF {w : World} {v : Value} {p : PV} (h : og w [v] [p]) : aH ⟨fun _ => none, fun _ => False⟩ w [] v (.one (.pv p)) := .one _ _ (h.2 0 v p rfl rfl).toVRel
theorem uF {B : rK} {P : Program} {H : Type} {enc : TypeId × Value → H} {w : World} {base b0 : Nat} {spare : Nat → Bool} {held : Bool} {r : Reach} {t : TypeId} {v : Value} {d : DataW H} {ps : List MemPlace} {α : Type} {cells : α → List PV} {wf : α → Prop} {size : α → Nat}
  (h : ∀ N, lI B P N t cells wf size) (hval : Value.okWide P w r b0 t v) (hd : DataW.Trod enc P w base spare held t v d ps) :
  ∃ x, og w v.cells.toList (cells x) ∧ wf x ∧ size x ≤ B.f d := by
 obtain ⟨bX, hd⟩ := hd
 exact h _ hd (Nat.le_refl _)
theorem uy {w : World} {v : Value} {p : PV} (h : og w v.cells.toList [p]) (hv : ∀ cs, v ≠ .agg cs) : aH ⟨fun _ => none, fun _ => False⟩ w [] v (.one (.pv p)) := by
 have e : v.cells = #[v] := by cases v <;> first | rfl | exact absurd rfl (hv _)
 rw [e] at h
 exact BF h
theorem xz {P : Program} {w : World} {r : Reach} {b0 : Nat} {t : TypeId} {v : Value} (ht : (match P.underlying t with | some (.int _) => true | some .bool => true | some .string => true | some (.slice _) => true | _ => false) = true) (hval : Value.okWide P w r b0 t v) : ∀ cs, v ≠ .agg cs := by
 rintro cs rfl
 cases hu : P.underlying t with
 | none => simp [hu] at ht
 | some d =>
  cases d <;> simp [hu] at ht <;> simp [Value.okWide, hu, Cell.okWide, Cell.ok] at hval
structure v6 (w w' : World) : Prop where
 os : w'.os = w.os
 output : w'.output = w.output
 size : w.heap.size ≤ w'.heap.size
 blk : ∀ b : Nat, b < w.heap.size → w'.heap[b]? = w.heap[b]?
theorem PC.call {P : Program} {f : Nat} {args : List AV} {r : AV} (h : PC P f args r) {w : World} {vs : List Value} (hl : vs.length = args.length) (hA : ∀ (j : Nat) v a, vs[j]? = some v → args[j]? = some a → aH ⟨fun _ => none, fun _ => False⟩ w [] v a) (hg : ∀ (b : Nat) (l : List Value), uw b = some l → b < w.heap.size ∧ ∀ (i : Nat) v, l[i]? = some v → w.cell? ⟨b, i, none⟩ = some v) :
  Calls P f vs.toArray w fun e w' => ∃ v ι', e = .returned v ∧ aH ι' w' [] v r ∧ v6 w w' := by
 refine (h ⟨fun _ => none, fun _ => False⟩ w vs ⟨fun id o h => by simp at h, fun b h => h.elim, fun b h => fun h' => h', fun id id' o o' b h => by simp at h, fun b o h => ⟨fun hm => hm.elim id (fun ⟨_, _, h1, _⟩ => by simp at h1), hg b o h⟩⟩ ⟨hl, hA⟩).mono ?_
 rintro e w' ⟨v, av, st', ι', rfl, ⟨rfl, rfl⟩, hR, hv, k⟩
 refine ⟨v, ι', rfl, hv, k.os, k.output, k.size, fun b hb => (k.blk b hb ?_).1⟩
 rintro ⟨id, o, h1, _⟩
 simp at h1
theorem v6.keptBut {w w' : World} (k : v6 w w') (may : MemPlace → Prop) : w.keptBut w' may := by
 refine ⟨k.os, k.output, fun i hi => ?_⟩
 rw [k.blk i hi]
 have : w.heap[i]? = some w.heap[i] := Array.getElem?_eq_getElem hi
 rw [this]
 cases w.heap[i] with
 | cells c t fr => exact ⟨rfl, rfl, rfl, fun _ _ => rfl⟩
 | map es clock => exact .inr ⟨rfl, rfl⟩
 | _ => rfl
theorem v6.frozen {w w' : World} (k : v6 w w') {b off : Nat} (hb : b < w.heap.size) : w'.frozen? ⟨b, off, none⟩ = w.frozen? ⟨b, off, none⟩ := by
 simp [World.frozen?, k.blk b hb]
open Go.ChangeShapes Go.WideElems Go.WideShapes in
theorem sQ {H : Type} {enc : TypeId × Value → H} {P : Program} {W W' : World} (hl : laidOutB P = true) (k : v6 W W') {sp : Nat → Bool} : ∀ {ts : List TypeId} {vs : List Value} {ds : List (DataW H)} {ps : List MemPlace}, (ts.all fun t => P.readableRec t && Nat.ble (t + 1) P.types.size) = true →
  DataW.TrodAll enc P W 0 (fun _ => true) true ts vs ds ps → (∀ p ∈ ps, p.block < W.heap.size) → (∀ p ∈ ps, sp p.block = true) → DataW.TrodAll enc P W' 0 sp true ts vs ds ps
 | [], _, _, _, _, h, _, _ => by
  obtain ⟨rfl, rfl, rfl⟩ := trodAll_nil h
  exact rfl
 | t :: ts, _, _, _, hr, h, hp, hs => by
  obtain ⟨v, vs1, d, ds1, a, b, rfl, rfl, rfl, h1, h2⟩ := trodAll_cons h
  simp only [List.all_cons, Bool.and_eq_true] at hr
  refine ⟨a, b, Trod_stays hl hr.1.1 (Nat.le_of_ble_eq_true hr.1.2) h1 (fun p hpa => ?_) (fun p hpa => hs p (by simp [hpa])), sQ hl k hr.2 h2 (fun p hpa => hp p (by simp [hpa])) (fun p hpa => hs p (by simp [hpa])), rfl⟩
  have := hp p (by simp [hpa])
  cases p with
  | cell b off => exact cell?_same (k.blk b this)
  | map b => exact k.blk b this
open Go.ChangeShapes Go.RowKit Go.WideShapes Go.ChangeAt in
theorem yz {H : Type} {enc : TypeId × Value → H} {P : Program} {f : Func} {s : ChangeSpec} {apart fresh handsOn again : Bool} {W W' : World} {args : Array Value} {ds gs : List (DataW H)} {before : List MemPlace}
  (hW : DataW.Whole enc P f.params.toList s.vars apart W args.toList ds gs before) (hl : laidOutB P = true) (hr : (f.params.toList.all fun t => P.readableRec t && Nat.ble (t + 1) P.types.size) = true) (k : v6 W W')
  (hvars : s.vars = []) (t : TypeId) (ht : f.resultTypes = #[t]) (hb : P.underlying t = some .bool) (hsp : s.fn H ds = { results := [.lit (.bool true)], args := ds }) :
  s.post enc P f apart fresh handsOn again W args (.bool true) W' := by
 have hW' := hW
 have hlt : ∀ p ∈ before, p.block < W.heap.size := fun p hp => hW.lt p hp
 obtain ⟨p, q, hA, hV, rfl, hz, hn⟩ := hW'
 rw [hvars] at hV
 obtain ⟨rfl, rfl⟩ := trodVars_none hV
 have hres : ∀ (b : Nat) (sp : Nat → Bool) (hd : Bool), DataW.TrodAll enc P W' b sp hd f.resultTypes.toList ((Value.bool true).resultList f.resultTypes.size) [.lit (.bool true)] [] := by
  intro b sp hd
  rw [ht]
  exact trodAll_cons_mk (shut_bool hb _) trodAll_mk0
 simp only [List.append_nil] at *
 have hargs : ∀ sp : Nat → Bool, (∀ x ∈ p, sp x.block = true) → DataW.TrodAll enc P W' 0 sp true f.params.toList args.toList ds p := fun sp hs => sQ hl k hr hA hlt hs
 have hold : ∀ x ∈ p, (fun b => decide (b < W.heap.size)) x.block = true := fun x hx => by simpa using hlt x hx
 refine ⟨ds, [], p, [], p, [], by simpa using hW, ?_, ?_, ?_, k.keptBut _, fun _ => ⟨?_, [.lit (.bool true)] ++ ds, [], p, ⟨p, [], ?_, ?_, by simp, ?_, hn⟩, ?_⟩⟩
 ·simp only [List.append_nil, hsp]; exact hres _ _ _
 ·simp only [List.append_nil, hsp]; exact hargs _ hold
 ·simp only [List.append_nil, hsp, hvars]; rfl
 ·exact ok_one ht rfl (okWide_bool_mk hb _)
 ·have := trodAll_append (hargs (fun _ => true) (fun _ _ => rfl)) (hres 0 (fun _ => true) true)
  simpa using this
 ·rw [hvars]; rfl
 ·intro b off hp
  rw [k.frozen (b := b) (off := off) (hlt _ hp)]
  exact hz b off hp
 ·intro x hx _; exact hx
theorem BN {ι : IM} {w : World} {v : Value} {b : Bool} (h : aH ι w [] v (.one (.pv (.s (.bool b))))) : v = .bool b := by
 cases h with
 | one _ _ h =>
  cases h with
  | pv _ _ h => cases h with | s => rfl
end Go.SX
namespace Go.SX
open Go
def fieldsOf (P : Program) (t : TypeId) : List Field := match P.underlying t with
 | some (.struct fs) => fs.toList
 | _ => []
def i9 (P : Program) (t : TypeId) : Bool := match P.underlying t with
 | some (.struct _) => true
 | _ => false
def fld (P : Program) (t : TypeId) (i : Nat) : Field := (fieldsOf P t)[i]?.getD default
section
variable {B : rK} {P : Program}
theorem lI.structF {N : Nat} {t : TypeId} {L : List Field} {α β : Type} {c : β → List PV} {wf : β → Prop} {s : β → Nat} {cells : α → List PV} {wf' : α → Prop} {size : α → Nat} (hu : i9 P t = true) (hL : fieldsOf P t = L) (hsz : P.cellsOf t = 0 + (L.map fun f => P.cellsOf f.type).sum)
  (h : ∀ N', N' < N → se B P N' 0 L c wf s) (mk : β → α) (h1 : ∀ y, cells (mk y) = c y) (h2 : ∀ y, wf y → wf' (mk y)) (h3 : ∀ y, size (mk y) ≤ s y + 1) : lI B P N t cells wf' size := by
 unfold i9 at hu
 unfold fieldsOf at hL
 cases hd : P.underlying t with
 | none => simp [hd] at hu
 | some d =>
  cases d <;> simp [hd] at hu
  rename_i fs
  simp only [hd] at hL
  subst hL
  exact lI.struct hd hsz h mk h1 h2 h3
end
end Go.SX
namespace Go.SX
open Go
abbrev kR (n : Int) : Prop := IntKind.min .i64 ≤ n ∧ n ≤ IntKind.max .i64
theorem BQ {B : rK} {P : Program} {wf : ac → Prop} {sz : ac → Nat} (tv ti ts tl : TypeId) (hi : P.underlying ti = some (.int .i64)) (hs : P.underlying ts = some .string) (hl : P.underlying tl = some (.slice tv)) (hu : i9 P tv = true)
  (hL : fieldsOf P tv = [fld P tv 0, fld P tv 1, fld P tv 2, fld P tv 3, fld P tv 4]) (hz : P.cellsOf tv = 5 ∧ P.cellsOf ti = 1 ∧ P.cellsOf ts = 1 ∧ P.cellsOf tl = 1)
  (ht : (fld P tv 0).type = ti ∧ (fld P tv 1).type = ti ∧ (fld P tv 2).type = ti ∧ (fld P tv 3).type = ts ∧ (fld P tv 4).type = tl)
  (ho : (fld P tv 0).offset = 0 ∧ (fld P tv 1).offset = 1 ∧ (fld P tv 2).offset = 2 ∧ (fld P tv 3).offset = 3 ∧ (fld P tv 4).offset = 4)
  (hwf : ∀ k n sc s it, kR k → kR n → kR sc → (∀ x ∈ it, wf x) → wf ⟨k, n, sc, s, it⟩) (hsz : ∀ k n sc s it, sz ⟨k, n, sc, s, it⟩ ≤ s.size + (it.map sz).sum + 6) :
  ∀ N, lI B P N tv ac.cells wf sz := by
 obtain ⟨t0, t1, t2, t3, t4⟩ := ht
 obtain ⟨o0, o1, o2, o3, o4⟩ := ho
 obtain ⟨z0, z1, z2, z3⟩ := hz
 intro N
 induction N using Nat.strongRecOn with
 | _ N ih =>
  have I : ∀ (N : Nat) (f : Field), f.type = ti → lI B P N f.type (fun n : Int => [PV.s (.int .i64 n)]) (fun n => IntKind.min .i64 ≤ n ∧ n ≤ IntKind.max .i64) (fun _ => 1) := fun N f hf => lI.int (by rw [hf]; exact hi)
  have C : ∀ (f : Field), f.type = ti → ∀ x : Int, ([PV.s (.int .i64 x)] : List PV).length = P.cellsOf f.type := fun f hf x => by rw [hf, z1]; rfl
  refine lI.structF (α := ac) (cells := ac.cells) (wf' := wf) (size := sz) hu hL (by simp [t0, t1, t2, t3, t4, z0, z1, z2, z3]) (fun N' hN' =>
   se.cons o0 (C _ t0) (I N' _ t0) (se.cons (by rw [o1, t0, z1]) (C _ t1) (I N' _ t1) (se.cons (by rw [o2, t0, t1, z1]) (C _ t2) (I N' _ t2)
    (se.cons (c1 := fun s : ByteArray => [PV.s (.string s)]) (by rw [o3, t0, t1, t2, z1]) (fun x => by rw [t3, z2]; rfl) (lI.str (by rw [t3]; exact hs))
     (se.cons (c1 := fun xs : List ac => [PV.ro (xs.map ac.cells)]) (by rw [o4, t0, t1, t2, t3, z1, z2]) (fun x => by rw [t4, z3]; rfl)
      (lI.slice (e := tv) (by rw [t4]; exact hl) (fun x => by rw [z0]; exact aa.hsz x) (by omega) (fun N'' hN'' => ih N'' (by omega))) se.nil)))))
   (fun y => (⟨y.1, y.2.1, y.2.2.1, y.2.2.2.1, y.2.2.2.2.1⟩ : ac)) (fun y => ?_) (fun y h => hwf _ _ _ _ _ h.1 h.2.1 h.2.2.1 h.2.2.2.2.1) (fun y => ?_)
  ·simp only [ac.cells, ac.lcells_eq]
   rfl
  ·have := hsz y.1 y.2.1 y.2.2.1 y.2.2.2.1 y.2.2.2.2.1
   exact Nat.le_trans this (by show _ ≤ 1 + (1 + (1 + ((y.2.2.2.1).size + 1 + ((y.2.2.2.2.1.map sz).sum + 1 + 0)))) + 1; omega)
end Go.SX
namespace Go.SX
open Go
theorem yh {B : rK} {P : Program} {wfT : aw → Prop} {szT : aw → Nat} {wfF : ah → Prop} {szF : ah → Nat} (tt tf ti ts tb : TypeId) (hi : P.underlying ti = some (.int .i64)) (hs : P.underlying ts = some .string) (hb : P.underlying tb = some .bool) (hu : i9 P tf = true)
  (hL : fieldsOf P tf = [fld P tf 0, fld P tf 1, fld P tf 2, fld P tf 3]) (hz : P.cellsOf tf = 6 ∧ P.cellsOf tt = 3 ∧ P.cellsOf ti = 1 ∧ P.cellsOf ts = 1 ∧ P.cellsOf tb = 1)
  (ht : (fld P tf 0).type = ti ∧ (fld P tf 1).type = ts ∧ (fld P tf 2).type = tb ∧ (fld P tf 3).type = tt)
  (ho : (fld P tf 0).offset = 0 ∧ (fld P tf 1).offset = 1 ∧ (fld P tf 2).offset = 2 ∧ (fld P tf 3).offset = 3)
  (hwf : ∀ i n q t, kR i → wfT t → wfF ⟨i, n, q, t⟩) (hsz : ∀ i n q t, szF ⟨i, n, q, t⟩ ≤ n.size + szT t + 4) {N : Nat} (ih : ∀ N', N' < N → lI B P N' tt aw.cells wfT szT) :
  lI B P N tf aw.fcell wfF szF := by
 obtain ⟨t0, t1, t2, t3⟩ := ht
 obtain ⟨o0, o1, o2, o3⟩ := ho
 obtain ⟨z0, z1, z2, z3, z4⟩ := hz
 refine lI.structF (α := ah) (cells := aw.fcell) (wf' := wfF) (size := szF) hu hL (by simp [t0, t1, t2, t3, z0, z1, z2, z3, z4]) (fun N' hN' =>
  se.cons (c1 := fun n : Int => [PV.s (.int .i64 n)]) o0 (fun x => by rw [t0, z2]; rfl) (lI.int (by rw [t0]; exact hi))
   (se.cons (c1 := fun s : ByteArray => [PV.s (.string s)]) (by rw [o1, t0, z2]) (fun x => by rw [t1, z3]; rfl) (lI.str (by rw [t1]; exact hs))
    (se.cons (c1 := fun b : Bool => [PV.s (.bool b)]) (by rw [o2, t0, t1, z2, z3]) (fun x => by rw [t2, z4]; rfl) (lI.bool (by rw [t2]; exact hb))
     (se.cons (c1 := aw.cells) (by rw [o3, t0, t1, t2, z2, z3, z4]) (fun x => by rw [t3, z1]; cases x; rfl) (by rw [t3]; exact ih N' hN') se.nil))))
  (fun y => (⟨y.1, y.2.1, y.2.2.1, y.2.2.2.1⟩ : ah)) (fun y => ?_) (fun y h => hwf _ _ _ _ h.1 h.2.2.2.1) (fun y => ?_)
 ·simp only [aw.fcell, List.append_nil]
  rfl
 ·have := hsz y.1 y.2.1 y.2.2.1 y.2.2.2.1
  exact Nat.le_trans this (by show _ ≤ 1 + ((y.2.1).size + 1 + (1 + (szT y.2.2.2.1 + 0))) + 1; omega)
theorem CH {B : rK} {P : Program} {wfT : aw → Prop} {szT : aw → Nat} {wfF : ah → Prop} {szF : ah → Nat} (tt tf ti ts tb tl : TypeId) (hi : P.underlying ti = some (.int .i64)) (hs : P.underlying ts = some .string) (hb : P.underlying tb = some .bool)
  (hl : P.underlying tl = some (.slice tf)) (hu : i9 P tf = true) (hu' : i9 P tt = true)
  (hL : fieldsOf P tf = [fld P tf 0, fld P tf 1, fld P tf 2, fld P tf 3]) (hL' : fieldsOf P tt = [fld P tt 0, fld P tt 1, fld P tt 2]) (hz : P.cellsOf tf = 6 ∧ P.cellsOf tt = 3 ∧ P.cellsOf ti = 1 ∧ P.cellsOf ts = 1 ∧ P.cellsOf tb = 1) (hzl : P.cellsOf tl = 1)
  (ht : (fld P tf 0).type = ti ∧ (fld P tf 1).type = ts ∧ (fld P tf 2).type = tb ∧ (fld P tf 3).type = tt)
  (ho : (fld P tf 0).offset = 0 ∧ (fld P tf 1).offset = 1 ∧ (fld P tf 2).offset = 2 ∧ (fld P tf 3).offset = 3)
  (ht' : (fld P tt 0).type = ti ∧ (fld P tt 1).type = ti ∧ (fld P tt 2).type = tl)
  (ho' : (fld P tt 0).offset = 0 ∧ (fld P tt 1).offset = 1 ∧ (fld P tt 2).offset = 2)
  (hwf : ∀ i n q t, kR i → wfT t → wfF ⟨i, n, q, t⟩) (hsz : ∀ i n q t, szF ⟨i, n, q, t⟩ ≤ n.size + szT t + 4)
  (hwf' : ∀ k s fs, kR k → kR s → (∀ f ∈ fs, wfF f) → wfT ⟨k, s, fs⟩) (hsz' : ∀ k s fs, szT ⟨k, s, fs⟩ ≤ (fs.map szF).sum + 4) :
  ∀ N, lI B P N tt aw.cells wfT szT := by
 intro N
 induction N using Nat.strongRecOn with
 | _ N ih =>
  have hF : ∀ N', N' ≤ N → lI B P N' tf aw.fcell wfF szF := fun N' h => yh tt tf ti ts tb hi hs hb hu hL hz ht ho hwf hsz (fun N'' h'' => ih N'' (by omega))
  obtain ⟨t0, t1, t2⟩ := ht'
  obtain ⟨o0, o1, o2⟩ := ho'
  obtain ⟨z0, z1, z2, z3, z4⟩ := hz
  refine lI.structF (α := aw) (cells := aw.cells) (wf' := wfT) (size := szT) hu' hL' (by simp [t0, t1, t2, z1, z2, hzl]) (fun N' hN' =>
   se.cons (c1 := fun n : Int => [PV.s (.int .i64 n)]) o0 (fun x => by rw [t0, z2]; rfl) (lI.int (by rw [t0]; exact hi))
    (se.cons (c1 := fun n : Int => [PV.s (.int .i64 n)]) (by rw [o1, t0, z2]) (fun x => by rw [t1, z2]; rfl) (lI.int (by rw [t1]; exact hi))
     (se.cons (c1 := fun xs : List ah => [PV.ro (xs.map aw.fcell)]) (by rw [o2, t0, t1, z2]) (fun x => by rw [t2, hzl]; rfl)
      (lI.slice (e := tf) (by rw [t2]; exact hl) (fun x => by rw [z0]; exact ab.hsz x) (by omega) (fun N'' hN'' => hF N'' (by omega))) se.nil)))
   (fun y => (⟨y.1, y.2.1, y.2.2.1⟩ : aw)) (fun y => ?_) (fun y h => hwf' _ _ _ h.1 h.2.1 h.2.2.1) (fun y => ?_)
  ·simp only [aw.cells, aw.fcells_eq]
   rfl
  ·have := hsz' y.1 y.2.1 y.2.2.1
   exact Nat.le_trans this (by show _ ≤ 1 + (1 + ((y.2.2.1.map szF).sum + 1 + 0)) + 1; omega)
end Go.SX
namespace Go.SX
open Go
theorem AN {B : rK} {P : Program} {wfT : aw → Prop} {szT : aw → Nat} {wfF : ah → Prop} {szF : ah → Nat} {szL : List ah → Nat} (tt tf ti ts tb tl : TypeId) (hi : P.underlying ti = some (.int .i64)) (hs : P.underlying ts = some .string) (hb : P.underlying tb = some .bool)
  (hl : P.underlying tl = some (.slice tf)) (hu : i9 P tf = true) (hu' : i9 P tt = true)
  (hL : fieldsOf P tf = [fld P tf 0, fld P tf 1, fld P tf 2, fld P tf 3]) (hL' : fieldsOf P tt = [fld P tt 0, fld P tt 1, fld P tt 2]) (hz : P.cellsOf tf = 6 ∧ P.cellsOf tt = 3 ∧ P.cellsOf ti = 1 ∧ P.cellsOf ts = 1 ∧ P.cellsOf tb = 1) (hzl : P.cellsOf tl = 1)
  (ht : (fld P tf 0).type = ti ∧ (fld P tf 1).type = ts ∧ (fld P tf 2).type = tb ∧ (fld P tf 3).type = tt)
  (ho : (fld P tf 0).offset = 0 ∧ (fld P tf 1).offset = 1 ∧ (fld P tf 2).offset = 2 ∧ (fld P tf 3).offset = 3)
  (ht' : (fld P tt 0).type = ti ∧ (fld P tt 1).type = ti ∧ (fld P tt 2).type = tl)
  (ho' : (fld P tt 0).offset = 0 ∧ (fld P tt 1).offset = 1 ∧ (fld P tt 2).offset = 2)
  (hwf : ∀ i n q t, kR i → wfT t → wfF ⟨i, n, q, t⟩) (hsz : ∀ i n q t, szF ⟨i, n, q, t⟩ ≤ n.size + szT t + 4)
  (hwf' : ∀ k s fs, kR k → kR s → (∀ f ∈ fs, wfF f) → wfT ⟨k, s, fs⟩) (hsz' : ∀ k s fs, szT ⟨k, s, fs⟩ ≤ (fs.map szF).sum + 4) (hszl : ∀ xs, szL xs ≤ (xs.map szF).sum + 1) (N : Nat) :
  lI B P N tl (fun xs : List ah => [PV.ro (ab.els xs)]) (fun xs => ∀ x ∈ xs, wfF x) szL := by
 have hT := CH (B := B) (P := P) tt tf ti ts tb tl hi hs hb hl hu hu' hL hL' hz hzl ht ho ht' ho' hwf hsz hwf' hsz'
 have hF : ∀ N, lI B P N tf aw.fcell wfF szF := fun N => yh tt tf ti ts tb hi hs hb hu hL hz ht ho hwf hsz (fun N' _ => hT N')
 refine lI.conv (lI.slice (e := tf) (cells := aw.fcell) hl (fun x => by rw [hz.1]; exact ab.hsz x) (by rw [hz.1]; omega) (fun N' _ => hF N')) (fun x => ?_) (fun x h => h) hszl
 show [PV.ro (aw.fcells x)] = _
 rw [aw.fcells_eq]
end Go.SX
namespace Go.SX
open Go
theorem AE {B : rK} {P : Program} {wf : ac → Prop} {sz : ac → Nat} {szL : List ac → Nat} (tv ti ts tl : TypeId) (hi : P.underlying ti = some (.int .i64)) (hs : P.underlying ts = some .string) (hl : P.underlying tl = some (.slice tv)) (hu : i9 P tv = true)
  (hL : fieldsOf P tv = [fld P tv 0, fld P tv 1, fld P tv 2, fld P tv 3, fld P tv 4]) (hz : P.cellsOf tv = 5 ∧ P.cellsOf ti = 1 ∧ P.cellsOf ts = 1 ∧ P.cellsOf tl = 1)
  (ht : (fld P tv 0).type = ti ∧ (fld P tv 1).type = ti ∧ (fld P tv 2).type = ti ∧ (fld P tv 3).type = ts ∧ (fld P tv 4).type = tl)
  (ho : (fld P tv 0).offset = 0 ∧ (fld P tv 1).offset = 1 ∧ (fld P tv 2).offset = 2 ∧ (fld P tv 3).offset = 3 ∧ (fld P tv 4).offset = 4)
  (hwf : ∀ k n sc s it, kR k → kR n → kR sc → (∀ x ∈ it, wf x) → wf ⟨k, n, sc, s, it⟩) (hsz : ∀ k n sc s it, sz ⟨k, n, sc, s, it⟩ ≤ s.size + (it.map sz).sum + 6) (hszl : ∀ xs, szL xs ≤ (xs.map sz).sum + 1) (N : Nat) :
  lI B P N tl (fun xs : List ac => [PV.ro (aa.els xs)]) (fun xs => ∀ x ∈ xs, wf x) szL := by
 have hV := BQ (B := B) (P := P) tv ti ts tl hi hs hl hu hL hz ht ho hwf hsz
 refine lI.conv (lI.slice (e := tv) (cells := ac.cells) hl (fun x => by rw [hz.1]; exact aa.hsz x) (by rw [hz.1]; omega) (fun N' _ => hV N')) (fun x => ?_) (fun x h => h) hszl
 show [PV.ro (ac.lcells x)] = _
 rw [ac.lcells_eq]
end Go.SX
namespace Go.SX
open Go
theorem CO {B : rK} {P : Program} {wf : ac → Prop} {sz : ac → Nat} {szL : List ac → Nat} {szR : List (List ac) → Nat} (tr tv ti ts tl : TypeId) (hr : P.underlying tr = some (.slice tl)) (hi : P.underlying ti = some (.int .i64)) (hs : P.underlying ts = some .string) (hl : P.underlying tl = some (.slice tv)) (hu : i9 P tv = true)
  (hL : fieldsOf P tv = [fld P tv 0, fld P tv 1, fld P tv 2, fld P tv 3, fld P tv 4]) (hz : P.cellsOf tv = 5 ∧ P.cellsOf ti = 1 ∧ P.cellsOf ts = 1 ∧ P.cellsOf tl = 1)
  (ht : (fld P tv 0).type = ti ∧ (fld P tv 1).type = ti ∧ (fld P tv 2).type = ti ∧ (fld P tv 3).type = ts ∧ (fld P tv 4).type = tl)
  (ho : (fld P tv 0).offset = 0 ∧ (fld P tv 1).offset = 1 ∧ (fld P tv 2).offset = 2 ∧ (fld P tv 3).offset = 3 ∧ (fld P tv 4).offset = 4)
  (hwf : ∀ k n sc s it, kR k → kR n → kR sc → (∀ x ∈ it, wf x) → wf ⟨k, n, sc, s, it⟩) (hsz : ∀ k n sc s it, sz ⟨k, n, sc, s, it⟩ ≤ s.size + (it.map sz).sum + 6) (hszl : ∀ xs, szL xs ≤ (xs.map sz).sum + 1) (hszr : ∀ xs, szR xs ≤ (xs.map szL).sum + 1) (N : Nat) :
  lI B P N tr (fun xs : List (List ac) => [PV.ro ((eL aa).els xs)]) (fun xs => ∀ r ∈ xs, ∀ x ∈ r, wf x) szR := by
 have hV := AE (B := B) (P := P) (szL := szL) tv ti ts tl hi hs hl hu hL hz ht ho hwf hsz hszl
 refine lI.conv (lI.slice (e := tl) (cells := fun r : List ac => [PV.ro (aa.els r)]) hr (fun x => by rw [hz.2.2.2]; rfl) (by rw [hz.2.2.2]; omega) (fun N' _ => hV N')) (fun x => ?_) (fun x h => h) hszr
 rfl
end Go.SX
