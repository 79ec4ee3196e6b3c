/- The shelf's contract of utf8.ValidString, laid at this program. Searching a byte in a text and comparing texts: by the contracts of the shelf. Trees of own lists of fields: what `copyFields` makes and `numbered` changes. The contract of `numbered`: it changes a tree of own lists in place. The contracts of `copyFields`: a tree of new lists. The contract of the reference's `number`. New: the two calls that make and number the new lists, as one step. slices.Clone of the fields of a spec, nil or not. -/
import Derived.Test.YtikbfjpcmalmlaaGreatDoorProg
import Derived.Shelf.Small.Strs
import Derived.Test.YtikbfjpcmalmlaaGreatDoorChecked
import Derived.Test.YtikbfjpcmalmlaaGreatDoorSxC
set_option linter.unusedVariables false
set_option linter.unusedSimpArgs false
set_option linter.unnecessarySimpa false
namespace Go.Proofs.YtikbfjpcmalmlaaGreatDoor
open Go Go.SX Go.Shelf Go.Lib
set_option linter.unusedVariables false

def u8ren : Ren where
 f := fun n => if n = 196 then 201 else if n = 259 then 207 else n
 t := fun n => if n = 0 then 0 else if n = 3 then 3 else if n = 4 then 4 else if n = 5 then 5 else if n = 9 then 9 else if n = 12 then 12 else if n = 46 then 176 else if n = 53 then 163 else if n = 119 then 205 else if n = 138 then 207 else if n = 139 then 208 else n
 g := fun n => if n = 3 then 1 else if n = 4 then 2 else n

set_option maxRecDepth 100000 in
theorem u8lays : Lays.n196 Tryz.prog u8ren where
 mixed := by kernel_rfl
 f196 := by kernel_rfl
 f259 := by kernel_rfl
 t0 := by kernel_rfl
 a0 := fun w => by kernel_rfl
 z0 := fun w => by kernel_rfl
 v0 := fun w => by kernel_rfl
 t3 := by kernel_rfl
 a3 := fun w => by kernel_rfl
 z3 := fun w => by kernel_rfl
 v3 := fun w => by kernel_rfl
 t4 := by kernel_rfl
 a4 := fun w => by kernel_rfl
 z4 := fun w => by kernel_rfl
 v4 := fun w => by kernel_rfl
 t5 := by kernel_rfl
 a5 := fun w => by kernel_rfl
 z5 := fun w => by kernel_rfl
 v5 := fun w => by kernel_rfl
 t9 := by kernel_rfl
 a9 := fun w => by kernel_rfl
 z9 := fun w => by kernel_rfl
 v9 := fun w => by kernel_rfl
 t12 := by kernel_rfl
 a12 := fun w => by kernel_rfl
 z12 := fun w => by kernel_rfl
 v12 := fun w => by kernel_rfl
 t46 := by kernel_rfl
 a46 := fun w => by kernel_rfl
 z46 := fun w => by kernel_rfl
 v46 := fun w => by kernel_rfl
 t53 := by kernel_rfl
 a53 := fun w => by kernel_rfl
 z53 := fun w => by kernel_rfl
 v53 := fun w => by kernel_rfl
 t119 := by kernel_rfl
 a119 := fun w => by kernel_rfl
 z119 := fun w => by kernel_rfl
 t138 := by kernel_rfl
 a138 := fun w => by kernel_rfl
 z138 := fun w => by kernel_rfl
 v138 := fun w => by kernel_rfl
 t139 := by kernel_rfl
 a139 := fun w => by kernel_rfl
 z139 := fun w => by kernel_rfl
 v139 := fun w => by kernel_rfl
 g3 := by kernel_rfl
 g4 := by kernel_rfl

def utf8_ValidString (p1 : ByteArray) : Option Bool := grd (p1.size ≤ 9223372036854775807) <| some (validD p1.data.toList)

theorem c_utf8_ValidString (p1 : ByteArray) (r : Bool) (h : utf8_ValidString p1 = some r) : PC Tryz.prog 201 [vs p1] (vb r) := by
 unfold utf8_ValidString at h
 obtain ⟨g1, h⟩ := grd_some h
 obtain rfl := Option.some.inj h
 exact pc_validString u8lays (by kernel_rfl) (by kernel_rfl) p1 g1

end Go.Proofs.YtikbfjpcmalmlaaGreatDoor
namespace Go.Proofs.YtikbfjpcmalmlaaGreatDoor
open Go Go.SX Go.Shelf Go.Lib Go.Proofs Go.RowKit
def lrm : Ren where
 f := fun n => if n = 106 then 127 else if n = 137 then 185 else if n = 213 then 163 else if n = 217 then 204 else if n = 265 then 189 else if n = 266 then 214 else n
 t := fun n => if n = 3 then 3 else if n = 5 then 5 else if n = 9 then 9 else n
 g := fun n => n

set_option maxRecDepth 100000 in
theorem l137 : Lays.n137 Tryz.prog lrm := by constructor <;> intros <;> kernel_rfl

set_option maxRecDepth 100000 in
theorem l106 : Lays.n106 Tryz.prog lrm := by constructor <;> intros <;> kernel_rfl

def strings_IndexByte (p1 : ByteArray) (p2 : Int) : Option Int := some (Lib.indexByte p1.data.toList p2.toNat.toUInt8)
theorem c_strings_IndexByte (p1 : ByteArray) (p2 : Int) : CT Tryz.prog 185 [vs p1, vk .u8 p2] (strings_IndexByte p1 p2) vi := by
 intro r h
 obtain rfl := Option.some.inj h
 exact PC.below (us := [.string p1, .int .u8 p2]) rfl fun w _ => (Any.strings_IndexByte l137 p1 p2 w).mono (by rintro e w' ⟨rfl, rfl⟩; exact ⟨rfl, .refl _ _⟩)

def strings_Compare (p1 p2 : ByteArray) : Option Int := some (Lib.compareBytes p1.data.toList p2.data.toList)
theorem c_strings_Compare (p1 p2 : ByteArray) : CT Tryz.prog 127 [vs p1, vs p2] (strings_Compare p1 p2) vi := by
 intro r h
 obtain rfl := Option.some.inj h
 exact PC.below (us := [.string p1, .string p2]) rfl fun w _ => (Any.strings_Compare l106 p1 p2 w).mono (by rintro e w' ⟨rfl, rfl⟩; exact ⟨rfl, .refl _ _⟩)
end Go.Proofs.YtikbfjpcmalmlaaGreatDoor
namespace Go.SX
open Go
set_option linter.unusedVariables false

structure RT where
 kind : Int
 scale : Int
 fields : PV
abbrev RF := FieldP RT
abbrev rfC (f : RF) : List PV := [pi f.id, .s (.string f.name), .s (.bool f.need), pi f.type.kind, pi f.type.scale, f.type.fields]
def eRF : Enc RF := .of 6 rfC (fun _ => rfl)
abbrev rf (f : GField) (t : PV) : RF := ⟨f.id, f.name, f.need, ⟨f.type.kind, f.type.scale, t⟩⟩
def rws (t : Nat → PV) : Nat → List GField → List RF
 | _, [] => []
 | k, f :: l => rf f (t k) :: rws t (k + 1) l
theorem rws_len (t : Nat → PV) : ∀ (k : Nat) (l : List GField), (rws t k l).length = l.length
 | _, [] => rfl
 | k, f :: l => by simp [rws, rws_len t (k + 1) l]
theorem rws_app (t : Nat → PV) : ∀ (k : Nat) (l m : List GField), rws t k (l ++ m) = rws t k l ++ rws t (k + l.length) m
 | _, [], m => rfl
 | k, f :: l, m => by
  simp only [List.cons_append, rws, rws_app t (k + 1) l m, List.length_cons]
  rw [show k + 1 + l.length = k + (l.length + 1) by omega]
theorem rws_get (t : Nat → PV) : ∀ (k : Nat) (l : List GField) (i : Nat), (rws t k l)[i]? = l[i]?.map fun f => rf f (t (k + i))
 | _, [], i => by simp [rws]
 | k, f :: l, 0 => by simp [rws]
 | k, f :: l, i + 1 => by
  simp only [rws, List.getElem?_cons_succ, rws_get t (k + 1) l i]
  rw [show k + 1 + i = k + (i + 1) by omega]
def emptyV (v : Value) : Prop := v = .slice none 0 0 ∨ ∃ a cap, v = .slice (some a) 0 cap
def isQ (q : PV) : Prop := q = .ro [] ∨ ∃ a n m, q = .s (.slice (some a) n m)
def qOf (fs : List GField) (v : Value) : PV := match fs with
 | [] => .ro []
 | _ => .s v
theorem emptyV.rel {μ : Nat → Prop} {w : World} {v : Value} (h : emptyV v) : PRel μ w v (.ro []) := by
 rcases h with rfl | ⟨a, cap, rfl⟩
 ·exact .nl
 ·exact .ro a cap 6 [] (fun _ _ => undef) (by simp) (by simp) (fun h => absurd rfl h) (fun i e j c h => by simp at h) (fun i e j c h => by simp at h)
theorem rel_emptyV {μ : Nat → Prop} {w : World} {v : Value} (h : PRel μ w v (.ro [])) : emptyV v := by
 cases h with
 | nl => exact .inl rfl
 | ro a cap => exact .inr ⟨a, cap, rfl⟩
theorem isQ.any {q : PV} (h : isQ q) {μ μ' : Nat → Prop} {w w' : World} {v : Value} (hv : PRel μ w v q) : PRel μ' w' v q := by
 rcases h with rfl | ⟨a, n, m, rfl⟩
 ·exact (rel_emptyV hv).rel
 ·cases hv with
  | s _ h => exact .s _ h
theorem rfC_q {f : RF} (hq : isQ f.type.fields) {j : Nat} {p : PV} (h : (rfC f)[j]? = some p) {μ μ' : Nat → Prop} {w w' : World} {v : Value} (hv : PRel μ w v p) : PRel μ' w' v p := by
 have key : ∀ u, some (PV.s u) = some p → PRel μ' w' v p := fun u e => by
  cases e
  cases hv with
  | s _ h0 => exact .s _ h0
 match j, h with
 | 0, h => exact key _ h
 | 1, h => exact key _ h
 | 2, h => exact key _ h
 | 3, h => exact key _ h
 | 4, h => exact key _ h
 | 5, h => simp at h; subst h; exact hq.any hv
 | j + 6, h => simp at h

mutual
def numT : GType → Int → GType × Int
 | ⟨k, s, fs⟩, n => (⟨k, s, (numL fs n).1⟩, (numL fs n).2)
def numL : List (FieldP GType) → Int → List (FieldP GType) × Int
 | [], n => ([], n)
 | f :: l, n => ((numO f n).1 :: (numL l (numO f n).2).1, (numL l (numO f n).2).2)
def numO : FieldP GType → Int → FieldP GType × Int
 | ⟨_, nm, q, t⟩, n => (⟨n, nm, q, (numT t (IntKind.i64.wrap (n + 1))).1⟩, (numT t (IntKind.i64.wrap (n + 1))).2)
end
theorem numO_eq (f : GField) (n : Int) : numO f n = (⟨n, f.name, f.need, ⟨f.type.kind, f.type.scale, (numL f.type.fields (IntKind.i64.wrap (n + 1))).1⟩⟩, (numL f.type.fields (IntKind.i64.wrap (n + 1))).2) := by
 obtain ⟨_, _, _, ⟨_, _, _⟩⟩ := f
 simp only [numO, numT]
theorem numL_len : ∀ (l : List GField) (n : Int), (numL l n).1.length = l.length
 | [], n => by simp [numL]
 | f :: l, n => by simp [numL, numL_len l]

structure Row (c : Array Value) (i : Nat) (f : GField) (v : Value) : Prop where
 c0 : c[i * 6 + 0]? = some (.int .i64 f.id)
 c1 : c[i * 6 + 1]? = some (.string f.name)
 c2 : c[i * 6 + 2]? = some (.bool f.need)
 c3 : c[i * 6 + 3]? = some (.int .i64 f.type.kind)
 c4 : c[i * 6 + 4]? = some (.int .i64 f.type.scale)
 c5 : c[i * 6 + 5]? = some v

inductive Tr (w : World) : Value → List GField → (Nat → Prop) → Prop
 | nil (v : Value) (S : Nat → Prop) (h : emptyV v) : Tr w v [] S
 | mk (b cap : Nat) (c : Array Value) (ty : TypeId) (fs : List GField) (t : Nat → Value) (B : Nat → Nat → Prop) (S : Nat → Prop) (hne : fs ≠ [])
  (hb : w.heap[b]? = some (.cells c ty (0, 0))) (hcap : fs.length ≤ cap) (hsz : cap * 6 ≤ c.size)
  (hS : S b) (hn : ∀ i, ¬ B i b) (hi : ∀ i x, B i x → S x) (hd : ∀ i j x, B i x → B j x → i = j)
  (hc : ∀ (i : Nat) f, fs[i]? = some f → Row c i f (t i))
  (hr : ∀ (i : Nat) f, fs[i]? = some f → Tr w (t i) f.type.fields (B i)) : Tr w (.slice (some ⟨b, 0, none⟩) fs.length cap) fs S

theorem Tr.q {w : World} {v : Value} {fs : List GField} {S : Nat → Prop} (h : Tr w v fs S) : isQ (qOf fs v) := by
 cases h with
 | nil => exact .inl rfl
 | mk b cap c ty fs t B S hne =>
  cases fs with
  | nil => exact absurd rfl hne
  | cons f l => exact .inr ⟨_, _, _, rfl⟩
theorem Tr.qrel {μ : Nat → Prop} {w w' : World} {v : Value} {fs : List GField} {S : Nat → Prop} (h : Tr w v fs S) : PRel μ w' v (qOf fs v) := by
 cases h with
 | nil v S h => exact h.rel
 | mk b cap c ty fs t B S hne =>
  cases fs with
  | nil => exact absurd rfl hne
  | cons f l => exact .s _ rfl
theorem Tr.frame {w w' : World} {v : Value} {fs : List GField} {S : Nat → Prop} (h : Tr w v fs S) : (∀ b, S b → w'.heap[b]? = w.heap[b]?) → Tr w' v fs S := by
 induction h with
 | nil v S h => exact fun _ => .nil v S h
 | mk b cap c ty fs t B S hne hb hcap hsz hS hn hi hd hc hr ih =>
  exact fun hk => .mk b cap c ty fs t B S hne ((hk b hS).trans hb) hcap hsz hS hn hi hd hc fun i f hf => ih i f hf fun x hx => hk x (hi i x hx)
theorem rel_q {μ : Nat → Prop} {w : World} {u v : Value} {fs : List GField} {S : Nat → Prop} (ht : Tr w v fs S) (h : PRel μ w u (qOf fs v)) : Tr w u fs S := by
 cases fs with
 | nil => exact .nil u S (rel_emptyV h)
 | cons f l =>
  cases h with
  | s _ _ => exact ht

structure WB (S : Nat → Prop) (w w' : World) : Prop where
 os : w'.os = w.os
 tape : w'.tape = w.tape
 output : w'.output = w.output
 size : w.heap.size ≤ w'.heap.size
 blk : ∀ b : Nat, b < w.heap.size → ¬ S b → w'.heap[b]? = w.heap[b]?
 shp : ∀ (b : Nat) (c : Array Value) (ty : TypeId) (fz : Nat × Nat), w.heap[b]? = some (.cells c ty fz) → ∃ c' : Array Value, w'.heap[b]? = some (.cells c' ty fz) ∧ c'.size = c.size
theorem WB.refl (S : Nat → Prop) (w : World) : WB S w w := ⟨rfl, rfl, rfl, Nat.le_refl _, fun _ _ _ => rfl, fun b c ty fz h => ⟨c, h, rfl⟩⟩
theorem WB.trans {S : Nat → Prop} {w w' w'' : World} (h : WB S w w') (k : WB S w' w'') : WB S w w'' where
 os := k.os.trans h.os
 tape := k.tape.trans h.tape
 output := k.output.trans h.output
 size := Nat.le_trans h.size k.size
 blk b hb hs := (k.blk b (Nat.lt_of_lt_of_le hb h.size) hs).trans (h.blk b hb hs)
 shp b c ty fz hb := by
  obtain ⟨c1, e1, s1⟩ := h.shp b c ty fz hb
  obtain ⟨c2, e2, s2⟩ := k.shp b c1 ty fz e1
  exact ⟨c2, e2, s2.trans s1⟩
theorem WB.up {S S' : Nat → Prop} {w w' : World} (h : WB S w w') (hs : ∀ x, S x → S' x) : WB S' w w' := ⟨h.os, h.tape, h.output, h.size, fun b hb hn => h.blk b hb fun hx => hn (hs b hx), h.shp⟩

def GlobOK (w : World) : Prop := ∀ (b : Nat) (l : List Value), glob b = some l → b < w.heap.size ∧ GAt w b l

def Qs (q : Nat → PV) (fs : List GField) : Prop := ∀ i f, fs[i]? = some f → isQ (q i)

theorem obj_cells {q : Nat → PV} {fs : List GField} (hq : Qs q fs) {i j : Nat} {e : List PV} {p : PV} (h1 : (eRF.els (rws q 0 fs))[i]? = some e) (h2 : e[j]? = some p) {μ μ' : Nat → Prop} {w w' : World} {v : Value} (hv : PRel μ w v p) : PRel μ' w' v p := by
 rw [eRF.hels, List.getElem?_map, rws_get, Option.map_eq_some_iff] at h1
 obtain ⟨x, h1, rfl⟩ := h1
 rw [Option.map_eq_some_iff] at h1
 obtain ⟨f, hf, rfl⟩ := h1
 rw [Nat.zero_add] at h2
 exact rfC_q (hq i f hf) h2 hv

theorem Tr.opn {w : World} {v : Value} {fs : List GField} {S : Nat → Prop} (h : Tr w v fs S) (hne : fs ≠ []) (hS : ∀ x, S x → x < w.heap.size ∧ glob x = none) (hg : GlobOK w) :
  ∃ (t : Nat → Value) (q : Nat → PV) (B : Nat → Nat → Prop) (ι : IM), Rel ι w [.arr 6 (eRF.els (rws q 0 fs))] ∧ VRel ι w [.arr 6 (eRF.els (rws q 0 fs))] v (.sl 0 6 0 fs.length) ∧ (∀ x, ι.amb x ↔ ∃ i, B i x) ∧
   (∀ i x, B i x → S x) ∧ (∀ i j x, B i x → B j x → i = j) ∧ (∀ x, ι 0 = some x → S x) ∧ (∀ i f, fs[i]? = some f → q i = qOf f.type.fields (t i) ∧ Tr w (t i) f.type.fields (B i)) := by
 have hgl : ∀ (ι : IM) (st : St), (∀ b, Mut ι st b → S b) → ∀ (b : Nat) (l : List Value), glob b = some l → ¬ Mut ι st b ∧ b < w.heap.size ∧ GAt w b l := fun ι st hm b l hb =>
  ⟨fun h => (by rw [(hS b (hm b h)).2] at hb; cases hb), (hg b l hb).1, (hg b l hb).2⟩
 cases h with
 | nil => exact absurd rfl hne
 | mk b cap c ty fs t B S _ hb hcap hsz hSb hn hi hd hc hr =>
  let q : Nat → PV := fun i => match fs[i]? with
   | some f => qOf f.type.fields (t i)
   | none => .ro []
  have hq : ∀ i f, fs[i]? = some f → q i = qOf f.type.fields (t i) := fun i f hf => by show (match fs[i]? with | some f => _ | none => _) = _; rw [hf]
  refine ⟨t, q, B, ⟨fun id => if id = 0 then some b else none, fun x => ∃ i, B i x⟩, ⟨fun id o h => ?_, fun x ⟨i, hx⟩ => (hS x (hi i x hx)).1, fun x ⟨id, o, h1, h2, h3⟩ ⟨i, hx⟩ => ?_, fun id id' o o' x h1 h2 h3 h4 h5 h6 => ?_, hgl _ _ fun x hm => ?_⟩, ?_, fun x => Iff.rfl, hi, hd, fun x h => ?_, fun i f hf => ⟨hq i f hf, hr i f hf⟩⟩
  ·match id, h with
   | 0, h =>
    simp at h; subst h
    refine .inr ⟨b, c, ty, rfl, hb, ?_, ?_, ?_⟩
    ·have : (eRF.els (rws q 0 fs)).length = fs.length := by rw [eRF.hels, List.length_map, rws_len]
     rw [this]; exact Nat.le_trans (Nat.mul_le_mul_right 6 hcap) hsz
    ·intro e he
     rw [eRF.hels, List.mem_map] at he
     obtain ⟨x, _, rfl⟩ := he
     rfl
    ·intro i e j p h1 h2
     rw [eRF.hels, List.getElem?_map, rws_get, Option.map_eq_some_iff] at h1
     obtain ⟨x, h1, rfl⟩ := h1
     rw [Option.map_eq_some_iff] at h1
     obtain ⟨f, hf, rfl⟩ := h1
     rw [Nat.zero_add] at h2
     have hrow := hc i f hf
     match j, h2 with
     | 0, h2 => cases h2; exact ⟨_, hrow.c0, .s _ rfl⟩
     | 1, h2 => cases h2; exact ⟨_, hrow.c1, .s _ rfl⟩
     | 2, h2 => cases h2; exact ⟨_, hrow.c2, .s _ rfl⟩
     | 3, h2 => cases h2; exact ⟨_, hrow.c3, .s _ rfl⟩
     | 4, h2 => cases h2; exact ⟨_, hrow.c4, .s _ rfl⟩
     | 5, h2 =>
      have h2 : some (q i) = some p := h2
      cases h2
      rw [hq i f hf]
      exact ⟨_, hrow.c5, (hr i f hf).qrel⟩
     | j + 6, h2 => simp [eRF, Enc.of] at h2
   | id + 1, h => simp at h
  ·have h3 : (if id = 0 then some b else none) = some x := h3
   split at h3
   ·cases h3; exact hn i hx
   ·cases h3
  ·have h5 : (if id = 0 then some b else none) = some x := h5
   have h6 : (if id' = 0 then some b else none) = some x := h6
   split at h5 <;> split at h6 <;> simp_all
  ·rcases hm with ⟨i, hx⟩ | ⟨id, o, _, _, h⟩
   ·exact hi i x hx
   ·have h : (if id = 0 then some b else none) = some x := h
    split at h
    ·cases h; exact hSb
    ·cases h
  ·have := VRel.sl (ι := ⟨fun id => if id = 0 then some b else none, fun x => ∃ i, B i x⟩) (w := w) (st := [.arr 6 (eRF.els (rws q 0 fs))]) 0 6 0 fs.length b cap (by simp) rfl hcap ⟨c, ty, (0, 0), hb, by omega⟩
   simpa using this
  ·have h : (if (0 : Nat) = 0 then some b else none) = some x := h
   cases h; exact hSb

theorem Tr.cls {w : World} {v : Value} {fs : List GField} {S : Nat → Prop} {q : Nat → PV} {B : Nat → Nat → Prop} {ι : IM} {N : Nat} {st : St} (hst : st[0]? = some (.arr 6 (eRF.els (rws q 0 fs)))) (hR : Rel ι w st) (hv : VRel ι w st v (.sl 0 6 0 N)) (hN : fs.length = N)
  (ha : ∀ i x, B i x → ι 0 ≠ some x) (hi : ∀ i x, B i x → S x) (hd : ∀ i j x, B i x → B j x → i = j) (hs : ∀ x, ι 0 = some x → S x) (hr : ∀ i f, fs[i]? = some f → ∃ v, q i = qOf f.type.fields v ∧ Tr w v f.type.fields (B i)) : Tr w v fs S := by
 have ho := hR.obj 0 _ hst
 subst hN
 generalize hz : fs.length = N at *
 cases hv with
 | sn id sz hid hb =>
  have : fs = [] := List.eq_nil_of_length_eq_zero hz
  subst this
  exact .nil _ S (.inl rfl)
 | sl id sz off len b cap hid hb hcap hc =>
  by_cases hne : fs = []
  ·subst hne
   simp at hz
   subst hz
   exact .nil _ S (.inr ⟨_, _, rfl⟩)
  obtain ⟨c0, ty0, fz0, h1, h2⟩ := hc
  subst hz
  rcases ho with ⟨e, _⟩ | ⟨b', c, ty, e, hb', hl, hz, hcell⟩
  ·rw [e] at hb; cases hb
  ·rw [e] at hb
   cases hb
   rw [hb'] at h1
   cases h1
   have hget : ∀ (i : Nat) f, fs[i]? = some f → (eRF.els (rws q 0 fs))[i]? = some (rfC (rf f (q i))) := fun i f hf => by rw [eRF.hels, List.getElem?_map, rws_get, hf]; simp [eRF, Enc.of]
   have hcs : ∀ (i : Nat) f (j : Nat) u, fs[i]? = some f → (rfC (rf f (q i)))[j]? = some (.s u) → c0[i * 6 + j]? = some u := by
    intro i f j u hf hj
    obtain ⟨u', e1, e2⟩ := hcell i _ j (.s u) (hget i f hf) hj
    cases e2 with
    | s _ hp => exact e1
   have h5 : ∀ i, ∃ u, ∀ f, fs[i]? = some f → c0[i * 6 + 5]? = some u ∧ Tr w u f.type.fields (B i) := fun i => by
    cases hf : fs[i]? with
    | none => exact ⟨undef, fun f h => by cases h⟩
    | some f =>
     obtain ⟨u, e1, e2⟩ := hcell i _ 5 (q i) (hget i f hf) rfl
     obtain ⟨v, e3, e4⟩ := hr i f hf
     rw [e3] at e2
     exact ⟨u, fun g hg => by cases hg; exact ⟨e1, rel_q e4 e2⟩⟩
   rw [show (0 : Nat) * 6 = 0 from rfl]
   exact .mk b cap c0 _ fs (fun i => (h5 i).choose) B S hne hb' hcap (by omega) (hs b e) (fun i hx => ha i b hx e) hi hd
    (fun i f hf => ⟨hcs i f 0 _ hf rfl, hcs i f 1 _ hf rfl, hcs i f 2 _ hf rfl, hcs i f 3 _ hf rfl, hcs i f 4 _ hf rfl, ((h5 i).choose_spec f hf).1⟩) fun i f hf => ((h5 i).choose_spec f hf).2

theorem Tr.pure {μ : Nat → Prop} {w : World} {v : Value} {fs : List GField} {S : Nat → Prop} (h : Tr w v fs S) : (∀ x, S x → x < w.heap.size ∧ ¬ μ x) → PRel μ w v (.ro (eField.els fs)) := by
 induction h with
 | nil v S h => exact fun _ => h.rel
 | mk b cap c ty fs t B S hne hb hcap hsz hS hn hi hd hc hr ih =>
  intro hm
  have hlen : (eField.els fs).length = fs.length := by rw [eField.hels, List.length_map]
  have hcell : ∀ k, w.cell? ⟨b, k, none⟩ = c[k]? := fun k => by simp [World.cell?, hb]
  rw [← hlen]
  have hget : ∀ (i : Nat) e, (eField.els fs)[i]? = some e → ∃ f, fs[i]? = some f ∧ e = fieldC f := by
   intro i e h
   rw [eField.hels, List.getElem?_map, Option.map_eq_some_iff] at h
   obtain ⟨f, h1, h2⟩ := h
   exact ⟨f, h1, h2.symm⟩
  have g : ∀ (k : Nat) u, c[k]? = some u → c.getD k undef = u := fun k u hu => by rw [Array.getD_eq_getD_getElem?, hu]; rfl
  refine .ro ⟨b, 0, none⟩ cap 6 _ (fun i j => c.getD (i * 6 + j) undef) (by rw [hlen]; exact hcap) (fun e he => ?_) (fun _ => hm b hS) (fun i e j p h1 h2 => ?_) (fun i e j p h1 h2 => ?_)
  ·rw [eField.hels, List.mem_map] at he
   obtain ⟨f, _, rfl⟩ := he
   rfl
  ·obtain ⟨f, hf, rfl⟩ := hget i e h1
   have hrow := hc i f hf
   have hx : ∃ u, c[i * 6 + j]? = some u := by
    match j, h2 with
    | 0, _ => exact ⟨_, hrow.c0⟩
    | 1, _ => exact ⟨_, hrow.c1⟩
    | 2, _ => exact ⟨_, hrow.c2⟩
    | 3, _ => exact ⟨_, hrow.c3⟩
    | 4, _ => exact ⟨_, hrow.c4⟩
    | 5, _ => exact ⟨_, hrow.c5⟩
    | j + 6, h2 => simp at h2
   obtain ⟨u, hu⟩ := hx
   rw [show (Addr.add ⟨b, 0, none⟩ (i * 6 + j)) = ⟨b, i * 6 + j, none⟩ by unfold Addr.add; split <;> simp_all, hcell, hu, g _ _ hu]
  ·obtain ⟨f, hf, rfl⟩ := hget i e h1
   have hrow := hc i f hf
   match j, h2 with
   | 0, h2 => simp at h2; subst h2; show PRel _ _ (c.getD (i * 6 + 0) undef) _; rw [g _ _ hrow.c0]; exact .s _ rfl
   | 1, h2 => simp at h2; subst h2; show PRel _ _ (c.getD (i * 6 + 1) undef) _; rw [g _ _ hrow.c1]; exact .s _ rfl
   | 2, h2 => simp at h2; subst h2; show PRel _ _ (c.getD (i * 6 + 2) undef) _; rw [g _ _ hrow.c2]; exact .s _ rfl
   | 3, h2 => simp at h2; subst h2; show PRel _ _ (c.getD (i * 6 + 3) undef) _; rw [g _ _ hrow.c3]; exact .s _ rfl
   | 4, h2 => simp at h2; subst h2; show PRel _ _ (c.getD (i * 6 + 4) undef) _; rw [g _ _ hrow.c4]; exact .s _ rfl
   | 5, h2 => simp at h2; subst h2; show PRel _ _ (c.getD (i * 6 + 5) undef) _; rw [g _ _ hrow.c5]; exact ih i f hf fun x hx => hm x (hi i x hx)
   | j + 6, h2 => simp at h2
end Go.SX
namespace Go.SX
open Go Go.Proofs
set_option linter.unusedVariables false
set_option maxRecDepth 100000

theorem wp_reg {P : Program} {c : Code} {Q : Exit → Act → World → Prop} {a : Act} {w : World} (hk : regKind c = some false) (h : wpList P (regOps c) Q (regOps c).toList a w) : c.wp P Q a w := by
 cases c <;> simp only [regKind, reduceCtorEq] at hk
 rename_i id ops dr
 simp only [Option.some.injEq] at hk
 subst hk
 exact wp_region_list h

theorem wp_cut {P : Program} {n n0 : Nat} {ops : Array Oper} {l : List Oper} {fr fr1 : Fr} {st st1 : St} {G : GT} (k : Nat) (hG : Stab n0 G) (h : XO P n n0 [] ops (l.take k) (endK n n0 .normal fr1 st1) fr st) {a : Act} {w : World} (hA : At n G fr st a w)
  {Q : Exit → Act → World → Prop} (hn : ∀ a w, At n G fr1 st1 a w → wpList P ops Q (l.drop k) a w) : wpList P ops Q l a w := by
 rw [← List.take_append_drop k l]
 refine wpList_app (wpList_post ?_ (hA.segO hG h))
 rintro e a w ⟨rfl, hA⟩
 exact ⟨rfl, hn a w hA⟩

theorem ofGGe {P : Program} {n n0 : Nat} {c : Code} {fr fr1 : Fr} {st st1 : St} {e1 : Exit} {an : List Nat} (h : GG P n n0 [] an () (endK n n0 e1 fr1 st1) (some ()) ⟨[.c c], fr, st, []⟩) : XW P n n0 [] c (endK n n0 e1 fr1 st1) fr st := h.go rfl
theorem xE1 {P : Program} {n n0 : Nat} {fr1 : Fr} {st1 : St} {e1 : Exit} {an : List Nat} {r : Unit} {T : Option Unit} {s : SS} (he : jnF n0 fr1 st1 s.fr s.st = some (fr1, st1) := by kernel_rfl) : RE P n n0 [] an r e1 (endK n n0 e1 fr1 st1) T s :=
 ⟨fun _ => ⟨rfl, jnF_sub he⟩⟩

theorem ARel.one1 {ι : IM} {w : World} {st : St} {vs : List Value} {a : AV} (h : ARel ι w st vs [a]) : ∃ x, vs = [x] ∧ AVRel ι w st x a := by
 obtain ⟨l1, l2⟩ := h
 match vs, l1, l2 with
 | [x], _, l2 => exact ⟨x, rfl, l2 0 x _ rfl rfl⟩
theorem ARel.two {ι : IM} {w : World} {st : St} {vs : List Value} {a b : AV} (h : ARel ι w st vs [a, b]) : ∃ x y, vs = [x, y] ∧ AVRel ι w st x a ∧ AVRel ι w st y b := by
 obtain ⟨l1, l2⟩ := h
 match vs, l1, l2 with
 | [x, y], _, l2 => exact ⟨x, y, rfl, l2 0 x _ rfl rfl, l2 1 y _ rfl rfl⟩

theorem wp_of_eq {P : Program} {c c' : Code} {Q : Exit → Act → World → Prop} {a : Act} {w : World} (h : c = c') (k : c'.wp P Q a w) : c.wp P Q a w := h ▸ k
namespace Num
noncomputable abbrev P := Tryz.prog
noncomputable abbrev C (p : List Nat) : Code := cd Tryz.f32 p
abbrev A0 (N : Nat) (nx : Int) : Fr := [(0, .one (.sl 0 6 0 N)), (1, vi nx)]
abbrev F (N : Nat) (nx i : Int) : Fr := [(0, .one (.sl 0 6 0 N)), (1, vi nx), (7, vi (N : Int)), (8, vi i)]
abbrev F9 (N : Nat) (nx i : Int) (b : Bool) : Fr := [(0, .one (.sl 0 6 0 N)), (1, vi nx), (7, vi (N : Int)), (8, vi i), (9, vb b)]
abbrev F5 (N : Nat) (nx i : Int) : Fr := [(0, .one (.sl 0 6 0 N)), (1, vi nx), (5, vi i), (7, vi (N : Int)), (8, vi i)]
abbrev S1 (ys : List RF) : St := [.arr 6 (eRF.els ys)]

theorem p0 (N : Nat) (nx : Int) (ys : List RF) : XW P 27 1 [] (C [0]) (endK 27 1 .normal (A0 N nx) (S1 ys)) (A0 N nx) (S1 ys) := ofGG (an := []) uJ0
theorem p1 (N : Nat) (nx : Int) (ys : List RF) : XW P 27 1 [] (C [1,0,0]) (endK 27 1 .normal (F N nx 0) (S1 ys)) (A0 N nx) (S1 ys) := ofGG (an := []) uJ0
theorem p2 (N : Nat) (nx i : Int) (ys : List RF) : XW P 27 1 [] (C [1,0,1,0,0,0]) (endK 27 1 .normal (F9 N nx i (decide (i < (N : Int)))) (S1 ys)) (F N nx i) (S1 ys) := ofGG (an := []) uJ0
theorem p3 (N : Nat) (nx i : Int) (ys : List RF) : XW P 27 1 [] (C [1,0,1,0,0,1,0]) (endK 27 1 .normal (F N nx i) (S1 ys)) (F9 N nx i true) (S1 ys) := ofGG (an := []) (uT uJ0)
theorem p3' (N : Nat) (nx i : Int) (ys : List RF) : XW P 27 1 [] (C [1,0,1,0,0,1,0]) (endK 27 1 (.exit 0) (F N nx i) (S1 ys)) (F9 N nx i false) (S1 ys) := ofGGe (an := []) (uF (uR (.exit 0) xE1))
theorem p4 (N : Nat) (nx i : Int) (ys : List RF) : XW P 27 1 [] (C [1,0,1,0,0,1,1,0,0,0]) (endK 27 1 .normal (F5 N nx i) (S1 ys)) (F N nx i) (S1 ys) := ofGG (an := []) uJ0
theorem p5 (N : Nat) (nx i : Int) (ys : List RF) (e : RF) (ha : at? ys i = some e) (hL : N = ys.length) : XW P 27 1 [] (C [1,0,1,0,0,1,1,0,0,1,0]) (endK 27 1 .normal (F5 N nx i) (S1 (ys.set i.toNat ⟨nx, e.name, e.need, e.type⟩))) (F5 N nx i) (S1 ys) :=
 ofGG (an := []) (uIb eRF 0 ha (uSt eRF 0 ha ⟨nx, e.name, e.need, e.type⟩ uJ0) hL)
noncomputable abbrev l6 : List Oper := (regOps (C [1,0,1,0,0,1,1,0,0,1,1])).toList
theorem h8 : 8 < l6.length := of_decide_eq_true (by kernel_rfl)
noncomputable abbrev o8 : Oper := l6[8]'h8
theorem d8 : l6.drop 8 = o8 :: l6.drop 9 := List.drop_eq_getElem_cons _
abbrev F6 (N : Nat) (nx i : Int) (t : PV) : Fr := [(0, .one (.sl 0 6 0 N)), (7, vi (N : Int)), (8, vi i), (21, .one (.pv t)), (23, vi (IntKind.i64.wrap (nx + 1)))]
theorem p6 (N : Nat) (nx i : Int) (ys : List RF) (e : RF) (hv : isQ e.type.fields) (ha : at? ys i = some e) (hL : N = ys.length) : XO P 27 1 [] (regOps (C [1,0,1,0,0,1,1,0,0,1,1])) (l6.take 8) (endK 27 1 .normal (F6 N nx i e.type.fields) (S1 ys)) (F5 N nx i) (S1 ys) := by
 obtain ⟨id, nm, nd, ⟨k, s, v⟩⟩ := e
 rcases hv with h | ⟨a, n, m, h⟩ <;> (have h : v = _ := h; subst h) <;> exact ofGGo (an := []) (uIb eRF 0 ha (uLd eRF ha uJ0) hL)
theorem p7 (N : Nat) (nx n1 i : Int) (ys : List RF) (t : PV) : XO P 27 1 [] (regOps (C [1,0,1,0,0,1,1,0,0,1,1])) (l6.drop 9) (endK 27 1 .normal (F N n1 i) (S1 ys)) ((24, vi n1) :: F6 N nx i t) (S1 ys) :=
 ofGGo (an := []) uJ0
theorem p8 (N : Nat) (nx i : Int) (ys : List RF) : XW P 27 1 [] (C [1,0,1,0,0,1,1,1]) (endK 27 1 .normal (F N nx (IntKind.i64.wrap (i + 1))) (S1 ys)) (F N nx i) (S1 ys) := ofGG (an := []) uJ0
theorem p9 (N : Nat) (nx i : Int) (ys : List RF) : XW P 27 1 [] (C [1,1,0]) (endK 27 1 .normal [(0, .one (.sl 0 6 0 N)), (4, vi nx)] (S1 ys)) (F N nx i) (S1 ys) := ofGG (an := []) uJ0

def G (S : Nat → Prop) (B : Nat → Nat → Prop) (t : Nat → PV) (w0 : World) (v : Value) (N : Nat) (o0 : Option Nat) (cur : List GField) : GT := fun ι w st =>
 WB S w0 w ∧ VRel ι w st v (.sl 0 6 0 N) ∧ 0 < st.length ∧ ι 0 = o0 ∧ (∀ x, ι.amb x ↔ ∃ i, B i x) ∧ (∀ x, Own ι st x → x < w0.heap.size → S x) ∧ (∀ i f, cur[i]? = some f → ∃ v, t i = qOf f.type.fields v ∧ Tr w v f.type.fields (B i))

theorem G.stab {S : Nat → Prop} {B : Nat → Nat → Prop} {t : Nat → PV} {w0 : World} {v : Value} {N : Nat} {o0 : Option Nat} {cur : List GField} : Stab 1 (G S B t w0 v N o0 cur) := by
 rintro ι w st ι' w' st' hR k ⟨h1, h2, h3, h4, h5, h6, h7⟩
 have hf : fixP 1 [] 0 := rfl
 obtain ⟨m1, m2⟩ := k.map 0 hf h3
 refine ⟨⟨k.os.trans h1.os, k.tape.trans h1.tape, k.output.trans h1.output, Nat.le_trans h1.size k.size, fun b hb hn => ?_, fun b c ty fz hb => ?_⟩, ?_, m1, m2.trans h4, fun x => by rw [k.amb]; exact h5 x, fun x hx hl => ?_, fun i f hi => (by
  obtain ⟨u, e, ht⟩ := h7 i f hi
  refine ⟨u, e, ht.frame fun b hb => ?_⟩
  have ha : ι.amb b := (h5 b).2 ⟨i, hb⟩
  exact (k.blk b (hR.amb b ha) (fun ho => hR.dis b ho ha)).1)⟩
 ·exact (k.blk b (Nat.lt_of_lt_of_le hb h1.size) (fun ho => hn (h6 b ho hb))).1.trans (h1.blk b hb hn)
 ·obtain ⟨c1, e1, s1⟩ := h1.shp b c ty fz hb
  obtain ⟨c2, e2, s2⟩ := k.shp b c1 ty fz e1
  exact ⟨c2, e2, s2.trans s1⟩
 ·refine h2.mono k (q := fun id => Nat.beq id 0) (fun id hq _ => ?_) rfl
  rw [Nat.eq_of_beq_eq_true hq]; exact hf
 ·refine Classical.byContradiction fun hn => ?_
  exact (k.blk x (Nat.lt_of_lt_of_le hl h1.size) (fun ho => hn (h6 x ho hl))).2 hx

theorem wp_loop' {P : Program} {x : Code} {Q : Exit → Act → World → Prop} (k : Nat) {a : Act} {w : World} (h : rnd P x Q k a w) : (Code.loop x).wp P Q a w := by
 intro b kk cs
 obtain ⟨e, a', w', hq, harr⟩ := wp_of_rnd k a w h b kk cs
 exact ⟨e, a', w', hq, .of_steps (.one step_loop) harr⟩

mutual
def okT : GType → Bool
 | ⟨_, _, fs⟩ => Nat.ble (fs.length + 1) 4294967296 && okL fs
def okL : List (FieldP GType) → Bool
 | [] => true
 | f :: l => okO f && okL l
def okO : FieldP GType → Bool
 | ⟨_, _, _, t⟩ => okT t
end
def okB (fs : List GField) : Bool := Nat.ble (fs.length + 1) 4294967296 && okL fs
def ok (fs : List GField) : Prop := okB fs = true
theorem ok_len {fs : List GField} (h : ok fs) : (fs.length : Int) < 4294967296 := by
 unfold ok okB at h
 rw [Bool.and_eq_true] at h
 have := Nat.le_of_ble_eq_true h.1
 omega
theorem okO_eq (f : GField) : okO f = okB f.type.fields := by
 obtain ⟨_, _, _, ⟨_, _, fs⟩⟩ := f
 show okO _ = okB fs
 rw [okO, okT, okB]
theorem okL_get {fs : List GField} (h : okL fs = true) : ∀ f ∈ fs, ok f.type.fields := by
 induction fs with
 | nil => intro f h; cases h
 | cons g l ih =>
  rw [okL, Bool.and_eq_true, okO_eq] at h
  intro f hf
  rcases List.mem_cons.1 hf with rfl | hf
  ·exact h.1
  ·exact ih h.2 f hf
theorem okL_mem {fs : List GField} (h : ok fs) : ∀ f ∈ fs, ok f.type.fields := by
 unfold ok okB at h
 rw [Bool.and_eq_true] at h
 exact okL_get h.2
theorem fsize {fs : List GField} {f : GField} (h : f ∈ fs) : SizeOf.sizeOf f.type.fields < SizeOf.sizeOf fs := by
 have := List.sizeOf_lt_of_mem h
 obtain ⟨_, _, _, ⟨_, _, l⟩⟩ := f
 simp at this ⊢
 omega

def NC (fs : List GField) : Prop := ∀ (w : World) (v : Value) (S : Nat → Prop) (nx : Int), ok fs → Tr w v fs S → (∀ x, S x → x < w.heap.size ∧ glob x = none) → GlobOK w →
 Calls Tryz.prog 32 #[v, .int .i64 nx] w fun e w' => e = .returned (.int .i64 (numL fs nx).2) ∧ Tr w' v (numL fs nx).1 S ∧ WB S w w'

theorem rel_glob {ι : IM} {w : World} {st : St} (h : Rel ι w st) : GlobOK w := fun b l hb => ⟨(h.gl b l hb).2.1, (h.gl b l hb).2.2⟩
theorem at_mid {α : Type} (l : List α) (x : α) (m : List α) : at? (l ++ x :: m) (l.length : Int) = some x := by
 simp [at?]
theorem rws_mid (t : Nat → PV) (done rest : List GField) (f : GField) : rws t 0 (done ++ f :: rest) = rws t 0 done ++ rf f (t done.length) :: rws t (done.length + 1) rest := by
 rw [rws_app, Nat.zero_add]; rfl
theorem wrap_succ {i N : Nat} (h : i < N) (hN : (N : Int) < 4294967296) : IntKind.i64.wrap ((i : Int) + 1) = ((i + 1 : Nat) : Int) := by
 simp only [IntKind.wrap, IntKind.bits, IntKind.signed]
 simp only [Bool.true_and, decide_eq_true_eq, ge_iff_le]
 split <;> omega

theorem q_num {μ : Nat → Prop} {w : World} {fs : List GField} {n : Int} {v x : Value} (h : PRel μ w x (qOf fs v)) : qOf fs v = qOf (numL fs n).1 x := by
 cases fs with
 | nil => simp [numL, qOf]
 | cons f l =>
  cases h with
  | s _ _ => simp [numL, qOf]

theorem loop {S : Nat → Prop} {B : Nat → Nat → Prop} {t : Nat → PV} {w0 : World} {v : Value} {N : Nat} {o0 : Option Nat} (hB : ∀ i x, B i x → S x) (hd : ∀ i j x, B i x → B j x → i = j) (hS : ∀ x, S x → glob x = none) (hN : (N : Int) < 4294967296) :
  ∀ (rest done : List GField) (nx : Int) (a : Act) (w : World), done.length + rest.length = N → (∀ f ∈ rest, ok f.type.fields ∧ NC f.type.fields) →
   At 27 (G S B t w0 v N o0 (done ++ rest)) (F N nx (done.length : Int)) (S1 (rws t 0 (done ++ rest))) a w →
   rnd Tryz.prog (C [1,0,1,0,0]) (fun e a' w' => e = .exit 0 ∧ At 27 (G S B t w0 v N o0 (done ++ (numL rest nx).1)) (F N (numL rest nx).2 (N : Int)) (S1 (rws t 0 (done ++ (numL rest nx).1))) a' w') (rest.length + 1) a w
 | [], done, nx, a, w, hlen, hih, hA => by
  have hc : C [1,0,1,0,0] = .seq (C [1,0,1,0,0,0]) (.seq (C [1,0,1,0,0,1,0]) (C [1,0,1,0,0,1,1])) := by kernel_rfl
  have hl : (done.length : Int) = N := by simp at hlen; omega
  have hdec : decide ((done.length : Int) < (N : Int)) = false := by rw [hl]; simp
  unfold rnd
  refine wp_of_eq hc ?_
  refine Go.wp_seq (Go.wp_mono (hA.seg G.stab (p2 N nx _ _)) ?_)
  rintro e a w ⟨rfl, hA⟩
  rw [hdec] at hA
  refine Go.wp_seq (Go.wp_mono (hA.seg G.stab (p3' N nx _ _)) ?_)
  rintro e a w ⟨rfl, hA⟩
  rw [hl] at hA
  exact ⟨rfl, by simpa only [numL] using hA⟩
 | f :: rest, done, nx, a, w, hlen, hih, hA => by
  have hc : C [1,0,1,0,0] = .seq (C [1,0,1,0,0,0]) (.seq (C [1,0,1,0,0,1,0]) (C [1,0,1,0,0,1,1])) := by kernel_rfl
  have hc2 : C [1,0,1,0,0,1,1] = .seq (.block 1 (.seq (C [1,0,1,0,0,1,1,0,0,0]) (.seq (C [1,0,1,0,0,1,1,0,0,1,0]) (C [1,0,1,0,0,1,1,0,0,1,1])))) (C [1,0,1,0,0,1,1,1]) := by kernel_rfl
  simp only [List.length_cons] at hlen
  have hdec : decide ((done.length : Int) < (N : Int)) = true := decide_eq_true (by omega)
  have hL : N = (rws t 0 (done ++ f :: rest)).length := by rw [rws_len]; simp; omega
  have ha : at? (rws t 0 (done ++ f :: rest)) (done.length : Int) = some (rf f (t done.length)) := by
   rw [rws_mid]
   have := at_mid (rws t 0 done) (rf f (t done.length)) (rws t (done.length + 1) rest)
   rwa [rws_len] at this
  unfold rnd
  refine wp_of_eq hc ?_
  refine Go.wp_seq (Go.wp_mono (hA.seg G.stab (p2 N nx _ _)) ?_)
  rintro e a w ⟨rfl, hA⟩
  rw [hdec] at hA
  refine Go.wp_seq (Go.wp_mono (hA.seg G.stab (p3 N nx _ _)) ?_)
  rintro e a w ⟨rfl, hA⟩
  show (C [1,0,1,0,0,1,1]).wp _ _ _ _
  refine wp_of_eq hc2 ?_
  refine Go.wp_seq (Go.wp_block (Go.wp_seq (Go.wp_mono (hA.seg G.stab (p4 N nx _ _)) ?_)))
  rintro e a w ⟨rfl, hA⟩
  refine Go.wp_seq (Go.wp_mono (hA.seg G.stab (p5 N nx _ _ _ ha hL)) ?_)
  rintro e a w ⟨rfl, hA⟩
  let f1 : GField := ⟨nx, f.name, f.need, f.type⟩
  have hset : (rws t 0 (done ++ f :: rest)).set (done.length : Int).toNat ⟨nx, (rf f (t done.length)).name, (rf f (t done.length)).need, (rf f (t done.length)).type⟩ = rws t 0 (done ++ f1 :: rest) := by
   rw [rws_mid, rws_mid]
   have : ((done.length : Int)).toNat = (rws t 0 done).length := by rw [rws_len]; simp
   rw [this]
   simp [List.set_append, f1]
  rw [hset] at hA
  have ha1 : at? (rws t 0 (done ++ f1 :: rest)) (done.length : Int) = some (rf f1 (t done.length)) := by
   rw [rws_mid]
   have := at_mid (rws t 0 done) (rf f1 (t done.length)) (rws t (done.length + 1) rest)
   rwa [rws_len] at this
  have hL1 : N = (rws t 0 (done ++ f1 :: rest)).length := by rw [rws_len]; simp; omega
  obtain ⟨v0, hq0, ht0⟩ : ∃ v0, t done.length = qOf f.type.fields v0 ∧ ∃ w, Tr w v0 f.type.fields (B done.length) := by
   obtain ⟨ι, _, _, _, _, _, _, _, _, g7⟩ := hA
   obtain ⟨v0, h1, h2⟩ := g7 done.length f (by simp)
   exact ⟨v0, h1, _, h2⟩
  have hqi : isQ (t done.length) := by
   obtain ⟨_, ht0⟩ := ht0
   rw [hq0]; exact ht0.q
  refine wp_reg (by kernel_rfl) ?_
  refine wp_cut 8 G.stab (p6 N nx _ _ _ hqi ha1 hL1) hA fun a w hA => ?_
  obtain ⟨ι, hR, hF, g1, g2, g3, g4, g5, g6, g7⟩ := hA
  rw [d8]
  obtain ⟨vs, hvs, hcall⟩ := wp_call (P := Tryz.prog) (ops := regOps (C [1,0,1,0,0,1,1,0,0,1,1])) (o := o8) (rest := l6.drop 9) (g := 32) (asv := [.one (.pv (t done.length)), vi (IntKind.i64.wrap (nx + 1))]) (by kernel_rfl) (by kernel_rfl) hF
  refine hcall ?_
  obtain ⟨x, y, rfl, hx, hy⟩ := hvs.two
  have hy := scalar_of hy
  subst hy
  have hxp : PRel (Mut ι (S1 (rws t 0 (done ++ f1 :: rest)))) w x (t done.length) := by
   cases cv_of hx with
   | pv _ _ h => exact h
  have hmem : (done ++ f :: rest)[done.length]? = some f := by simp
  obtain ⟨hok, hnc⟩ := hih f (by simp)
  have hBlt : ∀ x, B done.length x → x < w.heap.size ∧ glob x = none := fun x hx => ⟨hR.amb x ((g5 x).2 ⟨_, hx⟩), hS x (hB _ x hx)⟩
  obtain ⟨v1, hq1, ht1⟩ := g7 _ f hmem
  rw [hq1] at hxp
  refine (hnc w x (B done.length) _ hok (rel_q ht1 hxp) hBlt (rel_glob hR)).mono ?_
  rintro e w1 ⟨rfl, ht, hw⟩
  refine ⟨_, rfl, ?_⟩
  have hkw : KW ι w (S1 (rws t 0 (done ++ f1 :: rest))) ι w1 := ⟨hw.size, fun _ => rfl, fun b hb hm => ⟨hw.blk b hb fun hx => hm (.inl ((g5 b).2 ⟨_, hx⟩)), hm⟩, hw.shp⟩
  have hown : ∀ b, Own ι (S1 (rws t 0 (done ++ f1 :: rest))) b → w1.heap[b]? = w.heap[b]? := fun b hb => hw.blk b (hR.own_lt hb) fun hx => hR.dis b hb ((g5 b).2 ⟨_, hx⟩)
  have hR1 := hR.kw hkw hown (fun b hb => ⟨Nat.lt_of_lt_of_le (hR.amb b hb) hw.size, fun ho => hR.dis b ho hb⟩) (fun b l hb => ⟨hw.blk b (hR.gl b l hb).2.1 fun hx => (by rw [(hBlt b hx).2] at hb; cases hb), fun hx => (hR.gl b l hb).1 (.inl hx)⟩)
  have hput : putF 27 o8.dst (vi (numL f.type.fields (IntKind.i64.wrap (nx + 1))).2) (F6 N nx (done.length : Int) (t done.length)) = some ((24, vi (numL f.type.fields (IntKind.i64.wrap (nx + 1))).2) :: F6 N nx (done.length : Int) (t done.length)) := by kernel_rfl
  have hF1 := putF_rel hput (hF.kw hkw) (AVRel.one (ι := ι) (w := w1) (st := S1 (rws t 0 (done ++ f1 :: rest))) (.int .i64 (numL f.type.fields (IntKind.i64.wrap (nx + 1))).2) _ (.pv _ _ (.s _ rfl)))
  let f2 : GField := (numO f nx).1
  have hf2 : f2 = ⟨nx, f.name, f.need, ⟨f.type.kind, f.type.scale, (numL f.type.fields (IntKind.i64.wrap (nx + 1))).1⟩⟩ := congrArg Prod.fst (numO_eq f nx)
  have hn2 : (numO f nx).2 = (numL f.type.fields (IntKind.i64.wrap (nx + 1))).2 := congrArg Prod.snd (numO_eq f nx)
  have hrw : rws t 0 (done ++ f1 :: rest) = rws t 0 (done ++ f2 :: rest) := by rw [rws_mid, rws_mid, hf2]
  have hA1 : At 27 (G S B t w0 v N o0 (done ++ f2 :: rest)) ((24, vi (numO f nx).2) :: F6 N nx (done.length : Int) (t done.length)) (S1 (rws t 0 (done ++ f2 :: rest))) (a.put o8.dst (.int .i64 (numL f.type.fields (IntKind.i64.wrap (nx + 1))).2)) w1 := by
   rw [hn2, ← hrw]
   refine ⟨ι, hR1, hF1, g1.trans (hw.up fun x hx => hB _ x hx), g2.kw hkw, g3, g4, g5, g6, fun i g hi => ?_⟩
   by_cases e : i = done.length
   ·subst e
    have : (done ++ f2 :: rest)[done.length]? = some f2 := by simp
    rw [this] at hi
    cases hi
    rw [hf2]
    exact ⟨x, by rw [hq1]; exact q_num hxp, ht⟩
   ·have : (done ++ f2 :: rest)[i]? = (done ++ f :: rest)[i]? := by
     by_cases hi : i < done.length
     ·rw [List.getElem?_append_left hi, List.getElem?_append_left hi]
     ·rw [List.getElem?_append_right (by omega), List.getElem?_append_right (by omega)]
      obtain ⟨m, hm⟩ : ∃ m, i - done.length = m + 1 := ⟨i - done.length - 1, by omega⟩
      rw [hm]; rfl
    rw [this] at hi
    obtain ⟨u, e1, e2⟩ := g7 i g hi
    exact ⟨u, e1, e2.frame fun b hb => hw.blk b (hR.amb b ((g5 b).2 ⟨_, hb⟩)) fun hx => e (hd _ _ b hb hx)⟩
  refine wpList_post ?_ (hA1.segO G.stab (p7 N _ _ _ _ _))
  rintro e a w ⟨rfl, hA⟩
  show (C [1,0,1,0,0,1,1,1]).wp _ _ _ _
  refine Go.wp_mono (hA.seg G.stab (p8 N _ _ _)) ?_
  rintro e a w ⟨rfl, hA⟩
  show rnd _ _ _ _ _ _
  rw [wrap_succ (by omega) hN] at hA
  have := loop hB hd hS hN rest (done ++ [f2]) (numO f nx).2 a w (by simp; omega) (fun g hg => hih g (by simp [hg])) (by simpa using hA)
  simpa [numL, f2] using this

theorem nz (nx : Int) : CT Tryz.prog 32 [.one (.pv (.ro [])), vi nx] (some nx) vi := uFn 27 [] Tryz.f32 fun r => (uN eRF [] (uOk 0 (uF (uR .ret xF))))
theorem nc : ∀ (m : Nat) (fs : List GField), SizeOf.sizeOf fs ≤ m → NC fs
 | 0, fs, h => by cases fs <;> simp at h <;> omega
 | m + 1, fs, h => by
  intro w v S nx hok hT hS hg
  by_cases hne : fs = []
  ·subst hne
   have hv : emptyV v := by
    cases hT with
    | nil _ _ h => exact h
    | mk b cap c ty fs t B S hne => exact absurd rfl hne
   let ι0 : IM := ⟨fun _ => none, fun _ => False⟩
   have hno : ∀ b, ¬ Mut ι0 [] b := by
    rintro b (h | ⟨id, o, h1, _⟩)
    ·exact h
    ·simp at h1
   have hR : Rel ι0 w [] := ⟨fun id o h => by simp at h, fun b hb => hb.elim, fun b _ h => h, fun id id' o o' b h => by simp at h, fun b o h => ⟨hno b, hg b o h⟩⟩
   refine (nz nx nx rfl ι0 w [v, .int .i64 nx] hR ⟨rfl, fun j x y h1 h2 => ?_⟩).mono ?_
   ·match j, h1, h2 with
    | 0, h1, h2 => simp at h1 h2; subst h1; subst h2; exact .one _ _ (.pv _ _ hv.rel)
    | 1, h1, h2 => simp at h1 h2; subst h1; subst h2; exact .one _ _ (.pv _ _ (.s _ rfl))
    | j + 2, h1, h2 => simp at h1
   ·rintro e w' ⟨u, av, st', ι', rfl, ⟨rfl, rfl⟩, hR', hu, k⟩
    have hu := scalar_of hu
    subst hu
    exact ⟨by simp [numL], by simp only [numL]; exact .nil v S hv, k.os, k.tape, k.output, k.size, fun b hb _ => (k.blk b hb fun ho => hno b (.inr ho)).1, k.shp⟩
  obtain ⟨tv, t, B, ι, hR, hv, ha, hB, hd, h0, hr⟩ := hT.opn hne hS hg
  have hL : fs.length = (rws t 0 fs).length := (rws_len t 0 fs).symm
  have hA : ARel ι w (S1 (rws t 0 fs)) [v, .int .i64 nx] [.one (.sl 0 6 0 fs.length), vi nx] := ⟨rfl, fun j x y h1 h2 => by
   match j, h1, h2 with
   | 0, h1, h2 => simp at h1 h2; subst h1; subst h2; exact .one _ _ hv
   | 1, h1, h2 => simp at h1 h2; subst h1; subst h2; exact .one _ _ (.pv _ _ (.s _ rfl))
   | j + 2, h1, h2 => simp at h1⟩
  refine rawCalls (f := 32) (fn := Tryz.f32) (c := C []) (n := 27) (by kernel_rfl) (by kernel_rfl) (by kernel_rfl) (by simp) hA fun a hF => ?_
  have hc : C [] = .seq (C [0]) (.seq (.seq (C [1,0,0]) (.block 0 (.loop (C [1,0,1,0,0])))) (.seq (C [1,1,0]) .ret)) := by kernel_rfl
  have hA0 : At 27 (G S B t w v fs.length (ι 0) fs) (A0 fs.length nx) (S1 (rws t 0 fs)) a w :=
   ⟨ι, hR, hF, .refl _ _, hv, by simp, rfl, ha, fun x ⟨id, o, h1, h2, h3⟩ _ => by
    match id, h1 with
    | 0, _ => exact h0 x h3
    | id + 1, h1 => simp at h1, fun i f hf => ⟨tv i, hr i f hf⟩⟩
  refine wp_of_eq hc ?_
  refine Go.wp_seq (Go.wp_mono (hA0.seg G.stab (p0 _ nx _)) ?_)
  rintro e a w1 ⟨rfl, hA1⟩
  refine Go.wp_seq (Go.wp_seq (Go.wp_mono (hA1.seg G.stab (p1 _ nx _)) ?_))
  rintro e a w2 ⟨rfl, hA2⟩
  refine Go.wp_block (wp_loop' (fs.length + 1) (rnd_mono ?_ (loop hB hd (fun x hx => (hS x hx).2) (ok_len hok) fs [] nx a w2 (by simp) (fun f hf => ⟨okL_mem hok f hf, nc m _ (by have := fsize hf; omega)⟩) (by simpa using hA2))))
  rintro e a w3 ⟨rfl, hA3⟩
  show (Code.seq (C [1,1,0]) .ret).wp _ _ _ _
  simp only [List.nil_append] at hA3
  refine Go.wp_seq (Go.wp_mono (hA3.seg G.stab (p9 _ _ _ _)) ?_)
  rintro e a w4 ⟨rfl, ι4, hR4, hF4, g1, g2, g3, g4, g5, g6, g7⟩
  refine Go.wp_ret ⟨.inr rfl, ι4, _, _, [], _, _, (by kernel_rfl : resAll Tryz.prog [(0, .one (.sl 0 6 0 fs.length)), (4, vi (numL fs nx).2)] (S1 (rws t 0 (numL fs nx).1)) Tryz.f32.results.toList [] = some ([vi (numL fs nx).2], [])), trivial, hR4, hF4, fun x hx => ?_⟩
  have hx := scalar_of hx
  subst hx
  refine ⟨rfl, Tr.cls rfl hR4 g2 (numL_len fs nx) (fun i x hx e0 => hR4.dis x ⟨0, _, rfl, by simp [Body.alive], e0⟩ ((g5 x).2 ⟨i, hx⟩)) hB hd (fun x hx => h0 x (g4 ▸ hx)) g7, g1⟩
end Num
end Go.SX
namespace Go.SX
open Go Go.Proofs
set_option linter.unusedVariables false
set_option maxRecDepth 100000

theorem rws_congr {t t' : Nat → PV} : ∀ (l : List GField) (k : Nat), (∀ i, i < l.length → t' (k + i) = t (k + i)) → rws t' k l = rws t k l
 | [], _, _ => rfl
 | f :: l, k, h => by
  have h0 := h 0 (by simp)
  have h1 : rws t' (k + 1) l = rws t (k + 1) l := rws_congr l (k + 1) fun i hi => (by
   have := h (i + 1) (by simpa using hi)
   rwa [show k + (i + 1) = k + 1 + i by omega] at this)
  simp only [rws, h1]
  rw [show t' k = t k from h0]

namespace Cp
noncomputable abbrev C (p : List Nat) : Code := cd Tryz.f31 p
abbrev B3 (ys : List RF) (fs : List GField) (i : Int) (l : Fr) : Fr := (3, .one (.sl 0 6 0 ys.length)) :: (6, vl eField fs) :: (7, vi (fs.length : Int)) :: (8, vi i) :: l
abbrev S1 (ys : List RF) : St := [.arr 6 (eRF.els ys)]
abbrev S2 (ys : List RF) (f : GField) : St := [.arr 6 (eRF.els ys), .box [ci f.id, cst f.name, cb f.need, ci f.type.kind, ci f.type.scale, cl eField f.type.fields]]
abbrev S3 (ys : List RF) (f : GField) (t : PV) : St := [.arr 6 (eRF.els ys), .box [ci f.id, cst f.name, cb f.need, ci f.type.kind, ci f.type.scale, .pv t]]
theorem p0 (fs : List GField) : XW Tryz.prog 25 0 [] (C [0]) (endK 25 0 .normal [(0, vl eField fs)] []) [(0, vl eField fs)] [] := ofGG (an := [5]) uJ0
theorem p0b (fs : List GField) : XW Tryz.prog 25 0 [] (C [1,0]) (endK 25 0 .normal [(0, vl eField fs), (3, .sc (.slice none 0 0))] []) [(0, vl eField fs)] [] := ofGG (an := [5]) uJ0
theorem p1 (fs : List GField) : XW Tryz.prog 25 0 [] (C [1,1,0,0]) (endK 25 0 .normal (B3 [] fs 0 []) (S1 [])) [(0, vl eField fs), (3, .sc (.slice none 0 0))] [] := ofGG (an := [5]) (uN eField fs (uCvj (.li 3 6) uJ0))
theorem p2 (fs : List GField) (i : Int) (ys : List RF) : XW Tryz.prog 25 0 [] (C [1,1,0,1,0,0,0]) (endK 25 0 .normal (B3 ys fs i [(9, vb (decide (i < (fs.length : Int))))]) (S1 ys)) (B3 ys fs i []) (S1 ys) := ofGG (an := [5]) uJ0
theorem p3 (fs : List GField) (i : Int) (ys : List RF) : XW Tryz.prog 25 0 [] (C [1,1,0,1,0,0,1,0]) (endK 25 0 .normal (B3 ys fs i []) (S1 ys)) (B3 ys fs i [(9, vb true)]) (S1 ys) := ofGG (an := [5]) (uT uJ0)
theorem p3' (fs : List GField) (i : Int) (ys : List RF) : XW Tryz.prog 25 0 [] (C [1,1,0,1,0,0,1,0]) (endK 25 0 (.exit 0) (B3 ys fs i []) (S1 ys)) (B3 ys fs i [(9, vb false)]) (S1 ys) := ofGGe (an := [5]) (uF (uR (.exit 0) xE1))
theorem p4 (fs : List GField) (i : Int) (ys : List RF) (f : GField) (ha : at? fs i = some f) : XW Tryz.prog 25 0 [] (C [1,1,0,1,0,0,1,1,0,0,0]) (endK 25 0 .normal (B3 ys fs i [(5, .one (.pt 1 0 0 0))]) (S2 ys f)) (B3 ys fs i []) (S1 ys) := ofGG (an := [5]) (uM eField ha uJ0)
noncomputable abbrev l6 : List Oper := (regOps (C [1,1,0,1,0,0,1,1,0,0,1,0])).toList
theorem h3 : 3 < l6.length := of_decide_eq_true (by kernel_rfl)
noncomputable abbrev o3 : Oper := l6[3]'h3
theorem d3 : l6.drop 3 = o3 :: l6.drop 4 := List.drop_eq_getElem_cons _
theorem p6 (fs : List GField) (i : Int) (ys : List RF) (f : GField) : XO Tryz.prog 25 0 [] (regOps (C [1,1,0,1,0,0,1,1,0,0,1,0])) (l6.take 3) (endK 25 0 .normal (B3 ys fs i [(5, .one (.pt 1 0 0 0)), (14, vl eField f.type.fields)]) (S2 ys f)) (B3 ys fs i [(5, .one (.pt 1 0 0 0))]) (S2 ys f) := ofGGo (an := [5]) uJ0
theorem p7 (fs : List GField) (i : Int) (ys : List RF) (f : GField) (t : PV) (hv : isQ t) : XO Tryz.prog 25 0 [] (regOps (C [1,1,0,1,0,0,1,1,0,0,1,0])) (l6.drop 4) (endK 25 0 .normal (B3 ys fs i [(5, .one (.pt 1 0 0 0))]) (S3 ys f t)) ((15, .one (.pv t)) :: B3 ys fs i [(5, .one (.pt 1 0 0 0)), (14, vl eField f.type.fields)]) (S2 ys f) := by
 rcases hv with rfl | ⟨a, n, m, rfl⟩ <;> exact ofGGo (an := [5]) uJ0
theorem p8 (fs : List GField) (i : Int) (ys : List RF) (f : GField) (t : PV) (hv : isQ t) (hb : ys.length + 1 ≤ 4294967296) : XW Tryz.prog 25 0 [] (C [1,1,0,1,0,0,1,1,0,0,1,1]) (endK 25 0 .normal (B3 (ys ++ [rf f t]) fs i []) (S1 (ys ++ [rf f t]))) (B3 ys fs i [(5, .one (.pt 1 0 0 0))]) (S3 ys f t) := by
 rcases hv with rfl | ⟨a, n, m, rfl⟩
 ·exact ofGG (an := [5]) (uU (T := grd (ys.length + 1 ≤ 4294967296) (some ())) (by rw [grd, if_pos hb]) (uW 20 eRF [rf f (.ro [])] (uAp eRF 0 [rf f (.ro [])] uJ0)))
 ·exact ofGG (an := [5]) (uU (T := grd (ys.length + 1 ≤ 4294967296) (some ())) (by rw [grd, if_pos hb]) (uW 20 eRF [rf f (.s (.slice (some a) n m))] (uAp eRF 0 [rf f (.s (.slice (some a) n m))] uJ0)))
theorem p9 (fs : List GField) (i : Int) (ys : List RF) : XW Tryz.prog 25 0 [] (C [1,1,0,1,0,0,1,1,1]) (endK 25 0 .normal (B3 ys fs (IntKind.i64.wrap (i + 1)) []) (S1 ys)) (B3 ys fs i []) (S1 ys) := ofGG (an := [5]) uJ0
theorem clip (ys : List RF) : CX Tryz.prog 69 [.one (.sl 0 6 0 ys.length)] [.arr 6 (eRF.els ys)] [0] (some ((), ys)) (fun r => .one (.sl 0 6 0 r.2.length)) (fun r => [.arr 6 (eRF.els r.2)]) :=
 uFnX 1 1 9 [] Tryz.f69 fun r => (uXs 0 6 ys.length (uR .ret xFM))
theorem pe (fs : List GField) (i : Int) (ys : List RF) : XW Tryz.prog 25 0 [] (C [1,1,1,0]) (endK 25 0 .normal [(2, .one (.sl 0 6 0 ys.length))] (S1 ys)) (B3 ys fs i []) (S1 ys) := ofGG (an := [5]) (uU (T := bnd (some ((), ys)) fun _ => some ()) rfl (uMx true [0] (clip ys) fun r2 h => (by cases h; exact uJ0)))

def G (B : Nat → Nat → Prop) (t : Nat → PV) (w0 : World) (done : List GField) : GT := fun ι w st =>
 Ext w0 w ∧ (∀ x, Own ι st x → w0.heap.size ≤ x) ∧ (∀ i x, B i x → i < done.length ∧ w0.heap.size ≤ x ∧ x < w.heap.size ∧ ¬ Own ι st x) ∧ (∀ i j x, B i x → B j x → i = j) ∧ (∀ i f, done[i]? = some f → ∃ v, t i = qOf f.type.fields v ∧ Tr w v f.type.fields (B i))

theorem G.stab {B : Nat → Nat → Prop} {t : Nat → PV} {w0 : World} {done : List GField} : Stab 0 (G B t w0 done) := by
 rintro ι w st ι' w' st' hR k ⟨h1, h2, h3, h4, h5⟩
 refine ⟨⟨k.os.trans h1.os, k.tape.trans h1.tape, k.output.trans h1.output, Nat.le_trans h1.size k.size, fun b hb => ?_⟩, fun x hx => ?_, fun i x hb => ?_, h4, fun i f hi => (by
  obtain ⟨u, e, ht⟩ := h5 i f hi
  refine ⟨u, e, ht.frame fun b hb => ?_⟩
  obtain ⟨_, _, a3, a4⟩ := h3 i b hb
  exact (k.blk b a3 a4).1)⟩
 ·exact (k.blk b (Nat.lt_of_lt_of_le hb h1.size) (fun ho => absurd (h2 b ho) (by omega))).1.trans (h1.blk b hb)
 ·refine Classical.byContradiction fun hn => ?_
  exact (k.blk x (Nat.lt_of_lt_of_le (Nat.lt_of_not_le hn) h1.size) (fun ho => hn (h2 x ho))).2 hx
 ·obtain ⟨a1, a2, a3, a4⟩ := h3 i x hb
  exact ⟨a1, a2, Nat.lt_of_lt_of_le a3 k.size, (k.blk x a3 a4).2⟩

def CC (fs : List GField) : Prop := ∀ (μ : Nat → Prop) (w : World) (v : Value), Num.ok fs → PRel μ w v (.ro (eField.els fs)) → GlobOK w →
 Calls Tryz.prog 31 #[v] w fun e w' => ∃ v' S, e = .returned v' ∧ Tr w' v' fs S ∧ (∀ x, S x → w.heap.size ≤ x ∧ x < w'.heap.size) ∧ Ext w w'

theorem loop {w0 : World} {fs : List GField} (hN : (fs.length : Int) < 4294967296) :
  ∀ (rest done : List GField) (t : Nat → PV) (B : Nat → Nat → Prop) (a : Act) (w : World), fs = done ++ rest → (∀ f ∈ rest, Num.ok f.type.fields ∧ CC f.type.fields) →
   At 25 (G B t w0 done) (B3 (rws t 0 done) fs (done.length : Int) []) (S1 (rws t 0 done)) a w →
   rnd Tryz.prog (C [1,1,0,1,0,0]) (fun e a' w' => e = .exit 0 ∧ ∃ t' B', At 25 (G B' t' w0 fs) (B3 (rws t' 0 fs) fs (fs.length : Int) []) (S1 (rws t' 0 fs)) a' w') (rest.length + 1) a w
 | [], done, t, B, a, w, hfs, hih, hA => by
  have hc : C [1,1,0,1,0,0] = .seq (C [1,1,0,1,0,0,0]) (.seq (C [1,1,0,1,0,0,1,0]) (C [1,1,0,1,0,0,1,1])) := by kernel_rfl
  rw [List.append_nil] at hfs
  subst hfs
  have hdec : decide ((fs.length : Int) < (fs.length : Int)) = false := by simp
  unfold rnd
  refine wp_of_eq hc ?_
  refine Go.wp_seq (Go.wp_mono (hA.seg G.stab (p2 _ _ _)) ?_)
  rintro e a w ⟨rfl, hA⟩
  rw [hdec] at hA
  refine Go.wp_seq (Go.wp_mono (hA.seg G.stab (p3' _ _ _)) ?_)
  rintro e a w ⟨rfl, hA⟩
  exact ⟨rfl, t, B, hA⟩
 | f :: rest, done, t, B, a, w, hfs, hih, hA => by
  have hc : C [1,1,0,1,0,0] = .seq (C [1,1,0,1,0,0,0]) (.seq (C [1,1,0,1,0,0,1,0]) (C [1,1,0,1,0,0,1,1])) := by kernel_rfl
  have hc2 : C [1,1,0,1,0,0,1,1] = .seq (.block 1 (.seq (C [1,1,0,1,0,0,1,1,0,0,0]) (.seq (C [1,1,0,1,0,0,1,1,0,0,1,0]) (C [1,1,0,1,0,0,1,1,0,0,1,1])))) (C [1,1,0,1,0,0,1,1,1]) := by kernel_rfl
  have hlen : fs.length = done.length + (rest.length + 1) := by rw [hfs]; simp
  have hdec : decide ((done.length : Int) < (fs.length : Int)) = true := decide_eq_true (by omega)
  have ha : at? fs (done.length : Int) = some f := by rw [hfs]; exact Num.at_mid _ _ _
  unfold rnd
  refine wp_of_eq hc ?_
  refine Go.wp_seq (Go.wp_mono (hA.seg G.stab (p2 _ _ _)) ?_)
  rintro e a w ⟨rfl, hA⟩
  rw [hdec] at hA
  refine Go.wp_seq (Go.wp_mono (hA.seg G.stab (p3 _ _ _)) ?_)
  rintro e a w ⟨rfl, hA⟩
  show (C [1,1,0,1,0,0,1,1]).wp _ _ _ _
  refine wp_of_eq hc2 ?_
  refine Go.wp_seq (Go.wp_block (Go.wp_seq (Go.wp_mono (hA.seg G.stab (p4 _ _ _ _ ha)) ?_)))
  rintro e a w ⟨rfl, hA⟩
  refine Go.wp_seq ?_
  refine wp_reg (by kernel_rfl) ?_
  refine wp_cut 3 G.stab (p6 _ _ _ _) hA fun a w hA => ?_
  obtain ⟨ι, hR, hF, g1, g2, g3, g4, g5⟩ := hA
  rw [d3]
  obtain ⟨vs, hvs, hcall⟩ := wp_call (P := Tryz.prog) (ops := regOps (C [1,1,0,1,0,0,1,1,0,0,1,0])) (o := o3) (rest := l6.drop 4) (g := 31) (asv := [vl eField f.type.fields]) (by kernel_rfl) (by kernel_rfl) hF
  refine hcall ?_
  obtain ⟨x, rfl, hx⟩ := hvs.one1
  have hx : PRel (Mut ι (S2 (rws t 0 done) f)) w x (.ro (eField.els f.type.fields)) := by
   cases cv_of hx with
   | pv _ _ h0 => exact h0
  obtain ⟨hok, hcc⟩ := hih f (by simp)
  refine (hcc _ w x hok hx (Num.rel_glob hR)).mono ?_
  rintro e w1 ⟨v1, S, rfl, ht, hS, hx1⟩
  refine ⟨v1, rfl, ?_⟩
  have hR1 := hR.ext hx1
  have hk := hx1.keeps ι (S2 (rws t 0 done) f)
  have hput : ∀ av, putF 25 o3.dst av (B3 (rws t 0 done) fs (done.length : Int) [(5, .one (.pt 1 0 0 0)), (14, vl eField f.type.fields)]) = some ((15, av) :: B3 (rws t 0 done) fs (done.length : Int) [(5, .one (.pt 1 0 0 0)), (14, vl eField f.type.fields)]) := by intro av; kernel_rfl
  let q1 : PV := qOf f.type.fields v1
  have hF1 := putF_rel (hput (.one (.pv q1))) (hF.mono' hk) (AVRel.one (ι := ι) (w := w1) (st := S2 (rws t 0 done) f) v1 _ (.pv _ _ ht.qrel))
  let t1 : Nat → PV := fun j => if j = done.length then q1 else t j
  let B1 : Nat → Nat → Prop := fun j x => if j = done.length then S x else B j x
  have hB1 : ∀ j x, B1 j x → (j = done.length ∧ S x) ∨ (j ≠ done.length ∧ B j x) := fun j x h => by
   have h : if j = done.length then S x else B j x := h
   split at h
   ·exact .inl ⟨by assumption, h⟩
   ·exact .inr ⟨by assumption, h⟩
  have hrw : rws t1 0 done = rws t 0 done := rws_congr done 0 fun i hi => if_neg (by omega)
  have hrw2 : rws t 0 done ++ [rf f q1] = rws t1 0 (done ++ [f]) := by
   rw [rws_app, hrw, Nat.zero_add]
   show _ = _ ++ [rf f (t1 done.length)]
   rw [show t1 done.length = q1 from if_pos rfl]
  have hA1 : At 25 (G B1 t1 w0 (done ++ [f])) ((15, .one (.pv q1)) :: B3 (rws t 0 done) fs (done.length : Int) [(5, .one (.pt 1 0 0 0)), (14, vl eField f.type.fields)]) (S2 (rws t 0 done) f) (a.put o3.dst v1) w1 := by
   refine ⟨ι, hR1, hF1, g1.trans hx1, g2, fun i x hb => ?_, fun i j x h1 h2 => ?_, fun i g hi => ?_⟩
   ·rcases hB1 i x hb with ⟨rfl, hs⟩ | ⟨hne, hb⟩
    ·obtain ⟨a1, a2⟩ := hS x hs
     exact ⟨by simp, Nat.le_trans g1.size a1, a2, fun ho => absurd (hR.own_lt ho) (by omega)⟩
    ·obtain ⟨a1, a2, a3, a4⟩ := g3 i x hb
     exact ⟨by simp; omega, a2, Nat.lt_of_lt_of_le a3 hx1.size, a4⟩
   ·rcases hB1 i x h1 with ⟨rfl, hs⟩ | ⟨hne, hb⟩ <;> rcases hB1 j x h2 with ⟨rfl, hs'⟩ | ⟨hne', hb'⟩
    ·rfl
    ·have := (hS x hs).1; have := (g3 j x hb').2.2.1; omega
    ·have := (hS x hs').1; have := (g3 i x hb).2.2.1; omega
    ·exact g4 i j x hb hb'
   ·by_cases e : i = done.length
    ·subst e
     have : (done ++ [f])[done.length]? = some f := by simp
     rw [this] at hi
     cases hi
     rw [show t1 done.length = q1 from if_pos rfl, show B1 done.length = S from funext fun x => if_pos rfl]
     exact ⟨v1, rfl, ht⟩
    ·have hl : i < done.length := by
      have := (List.getElem?_eq_some_iff.1 hi).1
      simp at this; omega
     rw [List.getElem?_append_left hl] at hi
     rw [show t1 i = t i from if_neg e, show B1 i = B i from funext fun x => if_neg e]
     obtain ⟨u, e1, e2⟩ := g5 i g hi
     exact ⟨u, e1, e2.frame fun b hb => hx1.blk b (g3 i b hb).2.2.1⟩
  refine wpList_post ?_ (hA1.segO G.stab (p7 _ _ _ _ _ ht.q))
  rintro e a w ⟨rfl, hA⟩
  show (C [1,1,0,1,0,0,1,1,0,0,1,1]).wp _ _ _ _
  refine Go.wp_mono (hA.seg G.stab (p8 _ _ _ _ _ ht.q (by rw [rws_len]; omega))) ?_
  rintro e a w ⟨rfl, hA⟩
  show (C [1,1,0,1,0,0,1,1,1]).wp _ _ _ _
  refine Go.wp_mono (hA.seg G.stab (p9 _ _ _)) ?_
  rintro e a w ⟨rfl, hA⟩
  show rnd _ _ _ _ _ _
  rw [Num.wrap_succ (N := fs.length) (by omega) hN, hrw2] at hA
  have := loop hN rest (done ++ [f]) t1 B1 a w (by rw [hfs]; simp) (fun g hg => hih g (by simp [hg])) (by simpa using hA)
  simpa using this

theorem cc : ∀ (m : Nat) (fs : List GField), SizeOf.sizeOf fs ≤ m → CC fs
 | 0, fs, h => by cases fs <;> simp at h <;> omega
 | m + 1, fs, h => by
  intro μ w v hok hv hg
  let ι0 : IM := ⟨fun _ => none, fun _ => False⟩
  have hno : ∀ b, ¬ Mut ι0 [] b := by
   rintro b (h | ⟨id, o, h1, _⟩)
   ·exact h
   ·simp at h1
  have hR : Rel ι0 w [] := ⟨fun id o h => by simp at h, fun b hb => hb.elim, fun b _ h => h, fun id id' o o' b h => by simp at h, fun b o h => ⟨hno b, hg b o h⟩⟩
  have hA : ARel ι0 w [] [v] [vl eField fs] := ⟨rfl, fun j x y h1 h2 => by
   match j, h1, h2 with
   | 0, h1, h2 => simp at h1 h2; subst h1; subst h2; exact .one _ _ (.pv _ _ (hv.mono (Nat.le_refl _) fun b _ _ => ⟨rfl, hno b⟩))
   | j + 1, h1, h2 => simp at h1⟩
  refine rawCalls (f := 31) (fn := Tryz.f31) (c := C []) (n := 25) (by kernel_rfl) (by kernel_rfl) (by kernel_rfl) (by simp) hA fun a hF => ?_
  have hc : C [] = .seq (C [0]) (.seq (C [1,0]) (.seq (.seq (C [1,1,0,0]) (.block 0 (.loop (C [1,1,0,1,0,0])))) (.seq (C [1,1,1,0]) .ret))) := by kernel_rfl
  have hA0 : At 25 (G (fun _ _ => False) (fun _ => .ro []) w []) [(0, vl eField fs)] [] a w :=
   ⟨ι0, hR, hF, .refl _, fun x h => absurd (.inr h) (hno x), fun i x h => h.elim, fun i j x h => h.elim, fun i f h => by simp at h⟩
  refine wp_of_eq hc ?_
  refine Go.wp_seq (Go.wp_mono (hA0.seg G.stab (p0 fs)) ?_)
  rintro e a w1 ⟨rfl, hA1⟩
  refine Go.wp_seq (Go.wp_mono (hA1.seg G.stab (p0b fs)) ?_)
  rintro e a w1 ⟨rfl, hA1⟩
  refine Go.wp_seq (Go.wp_seq (Go.wp_mono (hA1.seg G.stab (p1 fs)) ?_))
  rintro e a w2 ⟨rfl, hA2⟩
  refine Go.wp_block (Num.wp_loop' (fs.length + 1) (rnd_mono ?_ (loop (w0 := w) (Num.ok_len hok) fs [] (fun _ => .ro []) (fun _ _ => False) a w2 rfl (fun f hf => ⟨Num.okL_mem hok f hf, cc m _ (by have := Num.fsize hf; omega)⟩) hA2)))
  rintro e a w3 ⟨rfl, t, B, hA3⟩
  show (Code.seq (C [1,1,1,0]) .ret).wp _ _ _ _
  refine Go.wp_seq (Go.wp_mono (hA3.seg G.stab (pe fs _ _)) ?_)
  rintro e a w4 ⟨rfl, ι4, hR4, hF4, g1, g2, g3, g4, g5⟩
  refine Go.wp_ret ⟨.inr rfl, ι4, _, _, [], _, _, (by kernel_rfl : resAll Tryz.prog [(2, .one (.sl 0 6 0 (rws t 0 fs).length))] (S1 (rws t 0 fs)) Tryz.f31.results.toList [] = some ([.one (.sl 0 6 0 (rws t 0 fs).length)], [])), trivial, hR4, hF4, fun x hx => ?_⟩
  have hx := cv_of hx
  refine ⟨x, fun y => (ι4 0 = some y ∨ ∃ i, B i y), rfl, Tr.cls rfl hR4 hx (rws_len t 0 fs).symm (fun i y hy e0 => (g3 i y hy).2.2.2 ⟨0, _, rfl, by simp [Body.alive], e0⟩) (fun i y hy => .inr ⟨i, hy⟩) g4 (fun y hy => .inl hy) g5, fun y hy => ?_, g1⟩
  rcases hy with hy | ⟨i, hy⟩
  ·have ho : Own ι4 (S1 (rws t 0 fs)) y := ⟨0, _, rfl, by simp [Body.alive], hy⟩
   exact ⟨g2 y ho, hR4.own_lt ho⟩
  ·exact ⟨(g3 i y hy).2.1, (g3 i y hy).2.2.1⟩
end Cp

namespace Cr
noncomputable abbrev C (p : List Nat) : Code := cd Tryz.f37 p
abbrev B3 (ys : List RF) (fs : List GField) (i : Int) (l : Fr) : Fr := (3, .one (.sl 0 6 0 ys.length)) :: (6, vl eField fs) :: (7, vi (fs.length : Int)) :: (8, vi i) :: l
abbrev S1 (ys : List RF) : St := [.arr 6 (eRF.els ys)]
abbrev S2 (ys : List RF) (f : GField) : St := [.arr 6 (eRF.els ys), .box [ci f.id, cst f.name, cb f.need, ci f.type.kind, ci f.type.scale, cl eField f.type.fields]]
abbrev S3 (ys : List RF) (f : GField) (t : PV) : St := [.arr 6 (eRF.els ys), .box [ci f.id, cst f.name, cb f.need, ci f.type.kind, ci f.type.scale, .pv t]]
theorem p0 (fs : List GField) : XW Tryz.prog 24 0 [] (C [0]) (endK 24 0 .normal [(0, vl eField fs)] []) [(0, vl eField fs)] [] := ofGG (an := [5]) uJ0
theorem p0b (fs : List GField) : XW Tryz.prog 24 0 [] (C [1,0]) (endK 24 0 .normal [(0, vl eField fs), (3, .sc (.slice none 0 0))] []) [(0, vl eField fs)] [] := ofGG (an := [5]) uJ0
theorem p1 (fs : List GField) : XW Tryz.prog 24 0 [] (C [1,1,0,0]) (endK 24 0 .normal (B3 [] fs 0 []) (S1 [])) [(0, vl eField fs), (3, .sc (.slice none 0 0))] [] := ofGG (an := [5]) (uN eField fs (uCvj (.li 3 6) uJ0))
theorem p2 (fs : List GField) (i : Int) (ys : List RF) : XW Tryz.prog 24 0 [] (C [1,1,0,1,0,0,0]) (endK 24 0 .normal (B3 ys fs i [(9, vb (decide (i < (fs.length : Int))))]) (S1 ys)) (B3 ys fs i []) (S1 ys) := ofGG (an := [5]) uJ0
theorem p3 (fs : List GField) (i : Int) (ys : List RF) : XW Tryz.prog 24 0 [] (C [1,1,0,1,0,0,1,0]) (endK 24 0 .normal (B3 ys fs i []) (S1 ys)) (B3 ys fs i [(9, vb true)]) (S1 ys) := ofGG (an := [5]) (uT uJ0)
theorem p3' (fs : List GField) (i : Int) (ys : List RF) : XW Tryz.prog 24 0 [] (C [1,1,0,1,0,0,1,0]) (endK 24 0 (.exit 0) (B3 ys fs i []) (S1 ys)) (B3 ys fs i [(9, vb false)]) (S1 ys) := ofGGe (an := [5]) (uF (uR (.exit 0) xE1))
theorem p4 (fs : List GField) (i : Int) (ys : List RF) (f : GField) (ha : at? fs i = some f) : XW Tryz.prog 24 0 [] (C [1,1,0,1,0,0,1,1,0,0,0]) (endK 24 0 .normal (B3 ys fs i [(5, .one (.pt 1 0 0 0))]) (S2 ys f)) (B3 ys fs i []) (S1 ys) := ofGG (an := [5]) (uM eField ha uJ0)
noncomputable abbrev l6 : List Oper := (regOps (C [1,1,0,1,0,0,1,1,0,0,1,0])).toList
theorem h3 : 3 < l6.length := of_decide_eq_true (by kernel_rfl)
noncomputable abbrev o3 : Oper := l6[3]'h3
theorem d3 : l6.drop 3 = o3 :: l6.drop 4 := List.drop_eq_getElem_cons _
theorem p6 (fs : List GField) (i : Int) (ys : List RF) (f : GField) : XO Tryz.prog 24 0 [] (regOps (C [1,1,0,1,0,0,1,1,0,0,1,0])) (l6.take 3) (endK 24 0 .normal (B3 ys fs i [(5, .one (.pt 1 0 0 0)), (14, vl eField f.type.fields)]) (S2 ys f)) (B3 ys fs i [(5, .one (.pt 1 0 0 0))]) (S2 ys f) := ofGGo (an := [5]) uJ0
theorem p7 (fs : List GField) (i : Int) (ys : List RF) (f : GField) (t : PV) (hv : isQ t) : XO Tryz.prog 24 0 [] (regOps (C [1,1,0,1,0,0,1,1,0,0,1,0])) (l6.drop 4) (endK 24 0 .normal (B3 ys fs i [(5, .one (.pt 1 0 0 0))]) (S3 ys f t)) ((15, .one (.pv t)) :: B3 ys fs i [(5, .one (.pt 1 0 0 0)), (14, vl eField f.type.fields)]) (S2 ys f) := by
 rcases hv with rfl | ⟨a, n, m, rfl⟩ <;> exact ofGGo (an := [5]) uJ0
theorem p8 (fs : List GField) (i : Int) (ys : List RF) (f : GField) (t : PV) (hv : isQ t) (hb : ys.length + 1 ≤ 4294967296) : XW Tryz.prog 24 0 [] (C [1,1,0,1,0,0,1,1,0,0,1,1]) (endK 24 0 .normal (B3 (ys ++ [rf f t]) fs i []) (S1 (ys ++ [rf f t]))) (B3 ys fs i [(5, .one (.pt 1 0 0 0))]) (S3 ys f t) := by
 rcases hv with rfl | ⟨a, n, m, rfl⟩
 ·exact ofGG (an := [5]) (uU (T := grd (ys.length + 1 ≤ 4294967296) (some ())) (by rw [grd, if_pos hb]) (uW 20 eRF [rf f (.ro [])] (uAp eRF 0 [rf f (.ro [])] uJ0)))
 ·exact ofGG (an := [5]) (uU (T := grd (ys.length + 1 ≤ 4294967296) (some ())) (by rw [grd, if_pos hb]) (uW 20 eRF [rf f (.s (.slice (some a) n m))] (uAp eRF 0 [rf f (.s (.slice (some a) n m))] uJ0)))
theorem p9 (fs : List GField) (i : Int) (ys : List RF) : XW Tryz.prog 24 0 [] (C [1,1,0,1,0,0,1,1,1]) (endK 24 0 .normal (B3 ys fs (IntKind.i64.wrap (i + 1)) []) (S1 ys)) (B3 ys fs i []) (S1 ys) := ofGG (an := [5]) uJ0
theorem pe (fs : List GField) (i : Int) (ys : List RF) : XW Tryz.prog 24 0 [] (C [1,1,1,0]) (endK 24 0 .normal [(2, .one (.sl 0 6 0 ys.length))] (S1 ys)) (B3 ys fs i []) (S1 ys) := ofGG (an := [5]) uJ0

def G (B : Nat → Nat → Prop) (t : Nat → PV) (w0 : World) (done : List GField) : GT := fun ι w st =>
 Ext w0 w ∧ (∀ x, Own ι st x → w0.heap.size ≤ x) ∧ (∀ i x, B i x → i < done.length ∧ w0.heap.size ≤ x ∧ x < w.heap.size ∧ ¬ Own ι st x) ∧ (∀ i j x, B i x → B j x → i = j) ∧ (∀ i f, done[i]? = some f → ∃ v, t i = qOf f.type.fields v ∧ Tr w v f.type.fields (B i))

theorem G.stab {B : Nat → Nat → Prop} {t : Nat → PV} {w0 : World} {done : List GField} : Stab 0 (G B t w0 done) := by
 rintro ι w st ι' w' st' hR k ⟨h1, h2, h3, h4, h5⟩
 refine ⟨⟨k.os.trans h1.os, k.tape.trans h1.tape, k.output.trans h1.output, Nat.le_trans h1.size k.size, fun b hb => ?_⟩, fun x hx => ?_, fun i x hb => ?_, h4, fun i f hi => (by
  obtain ⟨u, e, ht⟩ := h5 i f hi
  refine ⟨u, e, ht.frame fun b hb => ?_⟩
  obtain ⟨_, _, a3, a4⟩ := h3 i b hb
  exact (k.blk b a3 a4).1)⟩
 ·exact (k.blk b (Nat.lt_of_lt_of_le hb h1.size) (fun ho => absurd (h2 b ho) (by omega))).1.trans (h1.blk b hb)
 ·refine Classical.byContradiction fun hn => ?_
  exact (k.blk x (Nat.lt_of_lt_of_le (Nat.lt_of_not_le hn) h1.size) (fun ho => hn (h2 x ho))).2 hx
 ·obtain ⟨a1, a2, a3, a4⟩ := h3 i x hb
  exact ⟨a1, a2, Nat.lt_of_lt_of_le a3 k.size, (k.blk x a3 a4).2⟩

def CC (fs : List GField) : Prop := ∀ (μ : Nat → Prop) (w : World) (v : Value), Num.ok fs → PRel μ w v (.ro (eField.els fs)) → GlobOK w →
 Calls Tryz.prog 37 #[v] w fun e w' => ∃ v' S, e = .returned v' ∧ Tr w' v' fs S ∧ (∀ x, S x → w.heap.size ≤ x ∧ x < w'.heap.size) ∧ Ext w w'

theorem loop {w0 : World} {fs : List GField} (hN : (fs.length : Int) < 4294967296) :
  ∀ (rest done : List GField) (t : Nat → PV) (B : Nat → Nat → Prop) (a : Act) (w : World), fs = done ++ rest → (∀ f ∈ rest, Num.ok f.type.fields ∧ CC f.type.fields) →
   At 24 (G B t w0 done) (B3 (rws t 0 done) fs (done.length : Int) []) (S1 (rws t 0 done)) a w →
   rnd Tryz.prog (C [1,1,0,1,0,0]) (fun e a' w' => e = .exit 0 ∧ ∃ t' B', At 24 (G B' t' w0 fs) (B3 (rws t' 0 fs) fs (fs.length : Int) []) (S1 (rws t' 0 fs)) a' w') (rest.length + 1) a w
 | [], done, t, B, a, w, hfs, hih, hA => by
  have hc : C [1,1,0,1,0,0] = .seq (C [1,1,0,1,0,0,0]) (.seq (C [1,1,0,1,0,0,1,0]) (C [1,1,0,1,0,0,1,1])) := by kernel_rfl
  rw [List.append_nil] at hfs
  subst hfs
  have hdec : decide ((fs.length : Int) < (fs.length : Int)) = false := by simp
  unfold rnd
  refine wp_of_eq hc ?_
  refine Go.wp_seq (Go.wp_mono (hA.seg G.stab (p2 _ _ _)) ?_)
  rintro e a w ⟨rfl, hA⟩
  rw [hdec] at hA
  refine Go.wp_seq (Go.wp_mono (hA.seg G.stab (p3' _ _ _)) ?_)
  rintro e a w ⟨rfl, hA⟩
  exact ⟨rfl, t, B, hA⟩
 | f :: rest, done, t, B, a, w, hfs, hih, hA => by
  have hc : C [1,1,0,1,0,0] = .seq (C [1,1,0,1,0,0,0]) (.seq (C [1,1,0,1,0,0,1,0]) (C [1,1,0,1,0,0,1,1])) := by kernel_rfl
  have hc2 : C [1,1,0,1,0,0,1,1] = .seq (.block 1 (.seq (C [1,1,0,1,0,0,1,1,0,0,0]) (.seq (C [1,1,0,1,0,0,1,1,0,0,1,0]) (C [1,1,0,1,0,0,1,1,0,0,1,1])))) (C [1,1,0,1,0,0,1,1,1]) := by kernel_rfl
  have hlen : fs.length = done.length + (rest.length + 1) := by rw [hfs]; simp
  have hdec : decide ((done.length : Int) < (fs.length : Int)) = true := decide_eq_true (by omega)
  have ha : at? fs (done.length : Int) = some f := by rw [hfs]; exact Num.at_mid _ _ _
  unfold rnd
  refine wp_of_eq hc ?_
  refine Go.wp_seq (Go.wp_mono (hA.seg G.stab (p2 _ _ _)) ?_)
  rintro e a w ⟨rfl, hA⟩
  rw [hdec] at hA
  refine Go.wp_seq (Go.wp_mono (hA.seg G.stab (p3 _ _ _)) ?_)
  rintro e a w ⟨rfl, hA⟩
  show (C [1,1,0,1,0,0,1,1]).wp _ _ _ _
  refine wp_of_eq hc2 ?_
  refine Go.wp_seq (Go.wp_block (Go.wp_seq (Go.wp_mono (hA.seg G.stab (p4 _ _ _ _ ha)) ?_)))
  rintro e a w ⟨rfl, hA⟩
  refine Go.wp_seq ?_
  refine wp_reg (by kernel_rfl) ?_
  refine wp_cut 3 G.stab (p6 _ _ _ _) hA fun a w hA => ?_
  obtain ⟨ι, hR, hF, g1, g2, g3, g4, g5⟩ := hA
  rw [d3]
  obtain ⟨vs, hvs, hcall⟩ := wp_call (P := Tryz.prog) (ops := regOps (C [1,1,0,1,0,0,1,1,0,0,1,0])) (o := o3) (rest := l6.drop 4) (g := 37) (asv := [vl eField f.type.fields]) (by kernel_rfl) (by kernel_rfl) hF
  refine hcall ?_
  obtain ⟨x, rfl, hx⟩ := hvs.one1
  have hx : PRel (Mut ι (S2 (rws t 0 done) f)) w x (.ro (eField.els f.type.fields)) := by
   cases cv_of hx with
   | pv _ _ h0 => exact h0
  obtain ⟨hok, hcc⟩ := hih f (by simp)
  refine (hcc _ w x hok hx (Num.rel_glob hR)).mono ?_
  rintro e w1 ⟨v1, S, rfl, ht, hS, hx1⟩
  refine ⟨v1, rfl, ?_⟩
  have hR1 := hR.ext hx1
  have hk := hx1.keeps ι (S2 (rws t 0 done) f)
  have hput : ∀ av, putF 24 o3.dst av (B3 (rws t 0 done) fs (done.length : Int) [(5, .one (.pt 1 0 0 0)), (14, vl eField f.type.fields)]) = some ((15, av) :: B3 (rws t 0 done) fs (done.length : Int) [(5, .one (.pt 1 0 0 0)), (14, vl eField f.type.fields)]) := by intro av; kernel_rfl
  let q1 : PV := qOf f.type.fields v1
  have hF1 := putF_rel (hput (.one (.pv q1))) (hF.mono' hk) (AVRel.one (ι := ι) (w := w1) (st := S2 (rws t 0 done) f) v1 _ (.pv _ _ ht.qrel))
  let t1 : Nat → PV := fun j => if j = done.length then q1 else t j
  let B1 : Nat → Nat → Prop := fun j x => if j = done.length then S x else B j x
  have hB1 : ∀ j x, B1 j x → (j = done.length ∧ S x) ∨ (j ≠ done.length ∧ B j x) := fun j x h => by
   have h : if j = done.length then S x else B j x := h
   split at h
   ·exact .inl ⟨by assumption, h⟩
   ·exact .inr ⟨by assumption, h⟩
  have hrw : rws t1 0 done = rws t 0 done := rws_congr done 0 fun i hi => if_neg (by omega)
  have hrw2 : rws t 0 done ++ [rf f q1] = rws t1 0 (done ++ [f]) := by
   rw [rws_app, hrw, Nat.zero_add]
   show _ = _ ++ [rf f (t1 done.length)]
   rw [show t1 done.length = q1 from if_pos rfl]
  have hA1 : At 24 (G B1 t1 w0 (done ++ [f])) ((15, .one (.pv q1)) :: B3 (rws t 0 done) fs (done.length : Int) [(5, .one (.pt 1 0 0 0)), (14, vl eField f.type.fields)]) (S2 (rws t 0 done) f) (a.put o3.dst v1) w1 := by
   refine ⟨ι, hR1, hF1, g1.trans hx1, g2, fun i x hb => ?_, fun i j x h1 h2 => ?_, fun i g hi => ?_⟩
   ·rcases hB1 i x hb with ⟨rfl, hs⟩ | ⟨hne, hb⟩
    ·obtain ⟨a1, a2⟩ := hS x hs
     exact ⟨by simp, Nat.le_trans g1.size a1, a2, fun ho => absurd (hR.own_lt ho) (by omega)⟩
    ·obtain ⟨a1, a2, a3, a4⟩ := g3 i x hb
     exact ⟨by simp; omega, a2, Nat.lt_of_lt_of_le a3 hx1.size, a4⟩
   ·rcases hB1 i x h1 with ⟨rfl, hs⟩ | ⟨hne, hb⟩ <;> rcases hB1 j x h2 with ⟨rfl, hs'⟩ | ⟨hne', hb'⟩
    ·rfl
    ·have := (hS x hs).1; have := (g3 j x hb').2.2.1; omega
    ·have := (hS x hs').1; have := (g3 i x hb).2.2.1; omega
    ·exact g4 i j x hb hb'
   ·by_cases e : i = done.length
    ·subst e
     have : (done ++ [f])[done.length]? = some f := by simp
     rw [this] at hi
     cases hi
     rw [show t1 done.length = q1 from if_pos rfl, show B1 done.length = S from funext fun x => if_pos rfl]
     exact ⟨v1, rfl, ht⟩
    ·have hl : i < done.length := by
      have := (List.getElem?_eq_some_iff.1 hi).1
      simp at this; omega
     rw [List.getElem?_append_left hl] at hi
     rw [show t1 i = t i from if_neg e, show B1 i = B i from funext fun x => if_neg e]
     obtain ⟨u, e1, e2⟩ := g5 i g hi
     exact ⟨u, e1, e2.frame fun b hb => hx1.blk b (g3 i b hb).2.2.1⟩
  refine wpList_post ?_ (hA1.segO G.stab (p7 _ _ _ _ _ ht.q))
  rintro e a w ⟨rfl, hA⟩
  show (C [1,1,0,1,0,0,1,1,0,0,1,1]).wp _ _ _ _
  refine Go.wp_mono (hA.seg G.stab (p8 _ _ _ _ _ ht.q (by rw [rws_len]; omega))) ?_
  rintro e a w ⟨rfl, hA⟩
  show (C [1,1,0,1,0,0,1,1,1]).wp _ _ _ _
  refine Go.wp_mono (hA.seg G.stab (p9 _ _ _)) ?_
  rintro e a w ⟨rfl, hA⟩
  show rnd _ _ _ _ _ _
  rw [Num.wrap_succ (N := fs.length) (by omega) hN, hrw2] at hA
  have := loop hN rest (done ++ [f]) t1 B1 a w (by rw [hfs]; simp) (fun g hg => hih g (by simp [hg])) (by simpa using hA)
  simpa using this

theorem cc : ∀ (m : Nat) (fs : List GField), SizeOf.sizeOf fs ≤ m → CC fs
 | 0, fs, h => by cases fs <;> simp at h <;> omega
 | m + 1, fs, h => by
  intro μ w v hok hv hg
  let ι0 : IM := ⟨fun _ => none, fun _ => False⟩
  have hno : ∀ b, ¬ Mut ι0 [] b := by
   rintro b (h | ⟨id, o, h1, _⟩)
   ·exact h
   ·simp at h1
  have hR : Rel ι0 w [] := ⟨fun id o h => by simp at h, fun b hb => hb.elim, fun b _ h => h, fun id id' o o' b h => by simp at h, fun b o h => ⟨hno b, hg b o h⟩⟩
  have hA : ARel ι0 w [] [v] [vl eField fs] := ⟨rfl, fun j x y h1 h2 => by
   match j, h1, h2 with
   | 0, h1, h2 => simp at h1 h2; subst h1; subst h2; exact .one _ _ (.pv _ _ (hv.mono (Nat.le_refl _) fun b _ _ => ⟨rfl, hno b⟩))
   | j + 1, h1, h2 => simp at h1⟩
  refine rawCalls (f := 37) (fn := Tryz.f37) (c := C []) (n := 24) (by kernel_rfl) (by kernel_rfl) (by kernel_rfl) (by simp) hA fun a hF => ?_
  have hc : C [] = .seq (C [0]) (.seq (C [1,0]) (.seq (.seq (C [1,1,0,0]) (.block 0 (.loop (C [1,1,0,1,0,0])))) (.seq (C [1,1,1,0]) .ret))) := by kernel_rfl
  have hA0 : At 24 (G (fun _ _ => False) (fun _ => .ro []) w []) [(0, vl eField fs)] [] a w :=
   ⟨ι0, hR, hF, .refl _, fun x h => absurd (.inr h) (hno x), fun i x h => h.elim, fun i j x h => h.elim, fun i f h => by simp at h⟩
  refine wp_of_eq hc ?_
  refine Go.wp_seq (Go.wp_mono (hA0.seg G.stab (p0 fs)) ?_)
  rintro e a w1 ⟨rfl, hA1⟩
  refine Go.wp_seq (Go.wp_mono (hA1.seg G.stab (p0b fs)) ?_)
  rintro e a w1 ⟨rfl, hA1⟩
  refine Go.wp_seq (Go.wp_seq (Go.wp_mono (hA1.seg G.stab (p1 fs)) ?_))
  rintro e a w2 ⟨rfl, hA2⟩
  refine Go.wp_block (Num.wp_loop' (fs.length + 1) (rnd_mono ?_ (loop (w0 := w) (Num.ok_len hok) fs [] (fun _ => .ro []) (fun _ _ => False) a w2 rfl (fun f hf => ⟨Num.okL_mem hok f hf, cc m _ (by have := Num.fsize hf; omega)⟩) hA2)))
  rintro e a w3 ⟨rfl, t, B, hA3⟩
  show (Code.seq (C [1,1,1,0]) .ret).wp _ _ _ _
  refine Go.wp_seq (Go.wp_mono (hA3.seg G.stab (pe fs _ _)) ?_)
  rintro e a w4 ⟨rfl, ι4, hR4, hF4, g1, g2, g3, g4, g5⟩
  refine Go.wp_ret ⟨.inr rfl, ι4, _, _, [], _, _, (by kernel_rfl : resAll Tryz.prog [(2, .one (.sl 0 6 0 (rws t 0 fs).length))] (S1 (rws t 0 fs)) Tryz.f37.results.toList [] = some ([.one (.sl 0 6 0 (rws t 0 fs).length)], [])), trivial, hR4, hF4, fun x hx => ?_⟩
  have hx := cv_of hx
  refine ⟨x, fun y => (ι4 0 = some y ∨ ∃ i, B i y), rfl, Tr.cls rfl hR4 hx (rws_len t 0 fs).symm (fun i y hy e0 => (g3 i y hy).2.2.2 ⟨0, _, rfl, by simp [Body.alive], e0⟩) (fun i y hy => .inr ⟨i, hy⟩) g4 (fun y hy => .inl hy) g5, fun y hy => ?_, g1⟩
  rcases hy with hy | ⟨i, hy⟩
  ·have ho : Own ι4 (S1 (rws t 0 fs)) y := ⟨0, _, rfl, by simp [Body.alive], hy⟩
   exact ⟨g2 y ho, hR4.own_lt ho⟩
  ·exact ⟨(g3 i y hy).2.1, (g3 i y hy).2.2.1⟩
end Cr

end Go.SX
namespace Go.SX
open Go Go.Proofs
set_option linter.unusedVariables false
set_option maxRecDepth 100000

theorem obj_rf {ι ι' : IM} {w w' : World} {st st' : St} {q : Nat → PV} {fs : List GField} (hq : Qs q fs) (h : ObjRel ι w st 0 (.arr 6 (eRF.els (rws q 0 fs)))) (h0 : ι' 0 = ι 0) (hw : ∀ b, ι 0 = some b → w'.heap[b]? = w.heap[b]?) : ObjRel ι' w' st' 0 (.arr 6 (eRF.els (rws q 0 fs))) := by
 rcases h with ⟨e, he⟩ | ⟨b, c, ty, e, hb, h1, h2, h3⟩
 ·exact .inl ⟨h0.trans e, he⟩
 ·refine .inr ⟨b, c, ty, h0.trans e, (hw b e).trans hb, h1, h2, fun i e' j p a1 a2 => ?_⟩
  obtain ⟨v, hv, hr⟩ := h3 i e' j p a1 a2
  exact ⟨v, hv, obj_cells hq a1 a2 hr⟩
theorem box1 {ι : IM} {w : World} {st : St} {id : Nat} {z : Int} (h : ObjRel ι w st id (.box [ci z])) : ∃ b ty, ι id = some b ∧ w.heap[b]? = some (.cells #[.int .i64 z] ty (0, 0)) := by
 obtain ⟨b, vs, ty, e, hb, hl⟩ := h
 obtain ⟨l1, l2⟩ := hl
 match vs, l1, l2 with
 | [x], _, l2 =>
  have h0 := l2 0 x _ rfl rfl
  cases h0 with
  | pv _ _ h0 => cases h0 with
   | s _ _ => exact ⟨b, ty, e, hb⟩
theorem obj_box {ι : IM} {w : World} {st : St} {id b : Nat} {ty : TypeId} {z : Int} (h : ι id = some b) (hb : w.heap[b]? = some (.cells #[.int .i64 z] ty (0, 0))) : ObjRel ι w st id (.box [ci z]) :=
 ⟨b, [.int .i64 z], ty, h, hb, rfl, fun j v c h1 h2 => by
  match j, h1, h2 with
  | 0, h1, h2 => simp at h1 h2; subst h1; subst h2; exact .pv _ _ (.s _ rfl)
  | j + 1, h1, h2 => simp at h1⟩

namespace Nr
noncomputable abbrev C (p : List Nat) : Code := cd Tryz.f38 p
abbrev F (N : Nat) (i : Int) (l : Fr) : Fr := (0, .one (.sl 0 6 0 N)) :: (1, .one (.pt 1 0 0 0)) :: (6, vi (N : Int)) :: (7, vi i) :: l
abbrev S2 (ys : List RF) (z : Int) : St := [.arr 6 (eRF.els ys), .box [ci z]]
theorem p0 (N : Nat) (z : Int) (ys : List RF) : XW Tryz.prog 31 2 [] (C [0]) (endK 31 2 .normal (F N 0 []) (S2 ys z)) [(0, .one (.sl 0 6 0 N)), (1, .one (.pt 1 0 0 0))] (S2 ys z) := ofGG (an := []) uJ0
theorem p2 (N : Nat) (z i : Int) (ys : List RF) : XW Tryz.prog 31 2 [] (C [1,0,0,0]) (endK 31 2 .normal (F N i [(8, vb (decide (i < (N : Int))))]) (S2 ys z)) (F N i []) (S2 ys z) := ofGG (an := []) uJ0
theorem p3 (N : Nat) (z i : Int) (ys : List RF) : XW Tryz.prog 31 2 [] (C [1,0,0,1,0]) (endK 31 2 .normal (F N i []) (S2 ys z)) (F N i [(8, vb true)]) (S2 ys z) := ofGG (an := []) (uT uJ0)
theorem p3' (N : Nat) (z i : Int) (ys : List RF) : XW Tryz.prog 31 2 [] (C [1,0,0,1,0]) (endK 31 2 (.exit 0) (F N i []) (S2 ys z)) (F N i [(8, vb false)]) (S2 ys z) := ofGGe (an := []) (uF (uR (.exit 0) xE1))
theorem p4 (N : Nat) (z i : Int) (ys : List RF) : XW Tryz.prog 31 2 [] (C [1,0,0,1,1,0,0,0]) (endK 31 2 .normal (F N i [(4, vi i)]) (S2 ys z)) (F N i []) (S2 ys z) := ofGG (an := []) uJ0
theorem p5 (N : Nat) (z i : Int) (ys : List RF) (e : RF) (ha : at? ys i = some e) (hL : N = ys.length) : XW Tryz.prog 31 2 [] (C [1,0,0,1,1,0,0,1,0]) (endK 31 2 .normal (F N i [(4, vi i)]) (S2 (ys.set i.toNat ⟨z, e.name, e.need, e.type⟩) z)) (F N i [(4, vi i)]) (S2 ys z) :=
 ofGG (an := []) (uIb eRF 0 ha (uSt eRF 0 ha ⟨z, e.name, e.need, e.type⟩ uJ0) hL)
theorem p5b (N : Nat) (z i : Int) (ys : List RF) : XW Tryz.prog 31 2 [] (C [1,0,0,1,1,0,0,1,1,0]) (endK 31 2 .normal (F N i [(4, vi i)]) (S2 ys (IntKind.i64.wrap (z + 1)))) (F N i [(4, vi i)]) (S2 ys z) := ofGG (an := []) uJ0
noncomputable abbrev l6 : List Oper := (regOps (C [1,0,0,1,1,0,0,1,1,1])).toList
abbrev F6 (N : Nat) (i : Int) (t : PV) : Fr := F N i [(27, .one (.pv t)), (28, .one (.pt 1 0 0 0))]
theorem h7 : 7 < l6.length := of_decide_eq_true (by kernel_rfl)
noncomputable abbrev o7 : Oper := l6[7]'h7
theorem d7 : l6.drop 7 = o7 :: l6.drop 8 := List.drop_eq_getElem_cons _
theorem p6 (N : Nat) (z i : Int) (ys : List RF) (e : RF) (hv : isQ e.type.fields) (ha : at? ys i = some e) (hL : N = ys.length) : XO Tryz.prog 31 2 [] (regOps (C [1,0,0,1,1,0,0,1,1,1])) (l6.take 7) (endK 31 2 .normal (F6 N i e.type.fields) (S2 ys z)) (F N i [(4, vi i)]) (S2 ys z) := by
 obtain ⟨id, nm, nd, ⟨k, s, v⟩⟩ := e
 rcases hv with h | ⟨a, n, m, h⟩ <;> (have h : v = _ := h; subst h) <;> exact ofGGo (an := []) (uIb eRF 0 ha (uLd eRF ha uJ0) hL)
theorem p8 (N : Nat) (z i : Int) (ys : List RF) (t : PV) : XW Tryz.prog 31 2 [] (C [1,0,0,1,1,1]) (endK 31 2 .normal (F N (IntKind.i64.wrap (i + 1)) []) (S2 ys z)) ((29, .j) :: F6 N i t) (S2 ys z) := ofGG (an := []) uJ0

abbrev SB (S : Nat → Prop) (bn : Nat) : Nat → Prop := fun x => S x ∨ x = bn
def G (S : Nat → Prop) (bn : Nat) (B : Nat → Nat → Prop) (t : Nat → PV) (w0 : World) (v : Value) (N : Nat) (o0 : Option Nat) (cur : List GField) : GT := fun ι w st =>
 WB (SB S bn) w0 w ∧ VRel ι w st v (.sl 0 6 0 N) ∧ 1 < st.length ∧ ι 0 = o0 ∧ ι 1 = some bn ∧ (∀ x, ι.amb x ↔ ∃ i, B i x) ∧ (∀ x, Own ι st x → x < w0.heap.size → SB S bn x) ∧ (∀ i f, cur[i]? = some f → ∃ v, t i = qOf f.type.fields v ∧ Tr w v f.type.fields (B i))

theorem G.stab {S : Nat → Prop} {bn : Nat} {B : Nat → Nat → Prop} {t : Nat → PV} {w0 : World} {v : Value} {N : Nat} {o0 : Option Nat} {cur : List GField} : Stab 2 (G S bn B t w0 v N o0 cur) := by
 rintro ι w st ι' w' st' hR k ⟨h1, h2, h3, h4, h4b, h5, h6, h7⟩
 have hf : fixP 2 [] 0 := rfl
 have hf1 : fixP 2 [] 1 := rfl
 obtain ⟨m1, m2⟩ := k.map 0 hf (by omega)
 obtain ⟨n1, n2⟩ := k.map 1 hf1 h3
 refine ⟨⟨k.os.trans h1.os, k.tape.trans h1.tape, k.output.trans h1.output, Nat.le_trans h1.size k.size, fun b hb hn => ?_, fun b c ty fz hb => ?_⟩, ?_, n1, m2.trans h4, n2.trans h4b, fun x => by rw [k.amb]; exact h5 x, fun x hx hl => ?_, fun i f hi => (by
  obtain ⟨u, e, ht⟩ := h7 i f hi
  refine ⟨u, e, ht.frame fun b hb => ?_⟩
  have ha : ι.amb b := (h5 b).2 ⟨i, hb⟩
  exact (k.blk b (hR.amb b ha) (fun ho => hR.dis b ho ha)).1)⟩
 ·exact (k.blk b (Nat.lt_of_lt_of_le hb h1.size) (fun ho => hn (h6 b ho hb))).1.trans (h1.blk b hb hn)
 ·obtain ⟨c1, e1, s1⟩ := h1.shp b c ty fz hb
  obtain ⟨c2, e2, s2⟩ := k.shp b c1 ty fz e1
  exact ⟨c2, e2, s2.trans s1⟩
 ·refine h2.mono k (q := fun id => Nat.beq id 0) (fun id hq _ => ?_) rfl
  rw [Nat.eq_of_beq_eq_true hq]; exact hf
 ·refine Classical.byContradiction fun hn => ?_
  exact (k.blk x (Nat.lt_of_lt_of_le hl h1.size) (fun ho => hn (h6 x ho hl))).2 hx

def NC (fs : List GField) : Prop := ∀ (w : World) (v : Value) (S : Nat → Prop) (nx : Int) (bn : Nat) (ty : TypeId), Num.ok fs → Tr w v fs S → (∀ x, S x → x < w.heap.size ∧ glob x = none) → GlobOK w →
 w.heap[bn]? = some (.cells #[.int .i64 nx] ty (0, 0)) → ¬ S bn → glob bn = none →
 Calls Tryz.prog 38 #[v, .pointer (some ⟨bn, 0, none⟩)] w fun e w' => (∃ u, e = .returned u) ∧ Tr w' v (numL fs nx).1 S ∧ WB (SB S bn) w w' ∧ w'.heap[bn]? = some (.cells #[.int .i64 (numL fs nx).2] ty (0, 0))

theorem loop {S : Nat → Prop} {bn : Nat} {B : Nat → Nat → Prop} {t : Nat → PV} {w0 : World} {v : Value} {N : Nat} {o0 : Option Nat} (hB : ∀ i x, B i x → S x) (hd : ∀ i j x, B i x → B j x → i = j) (hS : ∀ x, S x → glob x = none) (hN : (N : Int) < 4294967296) :
  ∀ (rest done : List GField) (nx : Int) (a : Act) (w : World), done.length + rest.length = N → (∀ f ∈ rest, Num.ok f.type.fields ∧ NC f.type.fields) →
   At 31 (G S bn B t w0 v N o0 (done ++ rest)) (F N (done.length : Int) []) (S2 (rws t 0 (done ++ rest)) nx) a w →
   rnd Tryz.prog (C [1,0,0]) (fun e a' w' => e = .exit 0 ∧ At 31 (G S bn B t w0 v N o0 (done ++ (numL rest nx).1)) (F N (N : Int) []) (S2 (rws t 0 (done ++ (numL rest nx).1)) (numL rest nx).2) a' w') (rest.length + 1) a w
 | [], done, nx, a, w, hlen, hih, hA => by
  have hc : C [1,0,0] = .seq (C [1,0,0,0]) (.seq (C [1,0,0,1,0]) (C [1,0,0,1,1])) := by kernel_rfl
  have hl : (done.length : Int) = N := by simp at hlen; omega
  have hdec : decide ((done.length : Int) < (N : Int)) = false := by rw [hl]; simp
  unfold rnd
  refine wp_of_eq hc ?_
  refine Go.wp_seq (Go.wp_mono (hA.seg G.stab (p2 N nx _ _)) ?_)
  rintro e a w ⟨rfl, hA⟩
  rw [hdec] at hA
  refine Go.wp_seq (Go.wp_mono (hA.seg G.stab (p3' N nx _ _)) ?_)
  rintro e a w ⟨rfl, hA⟩
  rw [hl] at hA
  exact ⟨rfl, by simpa only [numL] using hA⟩
 | f :: rest, done, nx, a, w, hlen, hih, hA => by
  have hc : C [1,0,0] = .seq (C [1,0,0,0]) (.seq (C [1,0,0,1,0]) (C [1,0,0,1,1])) := by kernel_rfl
  have hc2 : C [1,0,0,1,1] = .seq (.block 1 (.seq (C [1,0,0,1,1,0,0,0]) (.seq (C [1,0,0,1,1,0,0,1,0]) (.seq (C [1,0,0,1,1,0,0,1,1,0]) (C [1,0,0,1,1,0,0,1,1,1]))))) (C [1,0,0,1,1,1]) := by kernel_rfl
  simp only [List.length_cons] at hlen
  have hdec : decide ((done.length : Int) < (N : Int)) = true := decide_eq_true (by omega)
  have hL : N = (rws t 0 (done ++ f :: rest)).length := by rw [rws_len]; simp; omega
  have ha : at? (rws t 0 (done ++ f :: rest)) (done.length : Int) = some (rf f (t done.length)) := by
   rw [Num.rws_mid]
   have := Num.at_mid (rws t 0 done) (rf f (t done.length)) (rws t (done.length + 1) rest)
   rwa [rws_len] at this
  unfold rnd
  refine wp_of_eq hc ?_
  refine Go.wp_seq (Go.wp_mono (hA.seg G.stab (p2 N nx _ _)) ?_)
  rintro e a w ⟨rfl, hA⟩
  rw [hdec] at hA
  refine Go.wp_seq (Go.wp_mono (hA.seg G.stab (p3 N nx _ _)) ?_)
  rintro e a w ⟨rfl, hA⟩
  show (C [1,0,0,1,1]).wp _ _ _ _
  refine wp_of_eq hc2 ?_
  refine Go.wp_seq (Go.wp_block (Go.wp_seq (Go.wp_mono (hA.seg G.stab (p4 N nx _ _)) ?_)))
  rintro e a w ⟨rfl, hA⟩
  refine Go.wp_seq (Go.wp_mono (hA.seg G.stab (p5 N nx _ _ _ ha hL)) ?_)
  rintro e a w ⟨rfl, hA⟩
  let f1 : GField := ⟨nx, f.name, f.need, f.type⟩
  have hset : (rws t 0 (done ++ f :: rest)).set (done.length : Int).toNat ⟨nx, (rf f (t done.length)).name, (rf f (t done.length)).need, (rf f (t done.length)).type⟩ = rws t 0 (done ++ f1 :: rest) := by
   rw [Num.rws_mid, Num.rws_mid]
   have : ((done.length : Int)).toNat = (rws t 0 done).length := by rw [rws_len]; simp
   rw [this]
   simp [List.set_append, f1]
  rw [hset] at hA
  have ha1 : at? (rws t 0 (done ++ f1 :: rest)) (done.length : Int) = some (rf f1 (t done.length)) := by
   rw [Num.rws_mid]
   have := Num.at_mid (rws t 0 done) (rf f1 (t done.length)) (rws t (done.length + 1) rest)
   rwa [rws_len] at this
  have hL1 : N = (rws t 0 (done ++ f1 :: rest)).length := by rw [rws_len]; simp; omega
  refine Go.wp_seq (Go.wp_mono (hA.seg G.stab (p5b N nx _ _)) ?_)
  rintro e a w ⟨rfl, hA⟩
  have hqs : Qs t (done ++ f1 :: rest) := by
   obtain ⟨ι, _, _, _, _, _, _, _, _, _, g7⟩ := hA
   intro i g hi
   have hx : ∃ g', (done ++ f :: rest)[i]? = some g' ∧ g'.type = g.type := by
    by_cases hl : i < done.length
    ·rw [List.getElem?_append_left hl] at hi ⊢
     exact ⟨g, hi, rfl⟩
    ·rw [List.getElem?_append_right (by omega)] at hi ⊢
     cases hm : i - done.length with
     | zero => rw [hm] at hi; simp at hi; subst hi; exact ⟨f, by simp, rfl⟩
     | succ m => rw [hm] at hi; exact ⟨g, by simpa using hi, rfl⟩
   obtain ⟨g', h1, h2⟩ := hx
   obtain ⟨v0, h3, h4⟩ := g7 i g' h1
   rw [h3]; exact h4.q
  have hqi : isQ (t done.length) := hqs done.length f1 (by simp)
  refine wp_reg (by kernel_rfl) ?_
  refine wp_cut 7 G.stab (p6 N _ _ _ _ hqi ha1 hL1) hA fun a w hA => ?_
  obtain ⟨ι, hR, hF, g1, g2, g3, g4, g4b, g5, g6, g7⟩ := hA
  rw [d7]
  obtain ⟨vs, hvs, hcall⟩ := wp_call (P := Tryz.prog) (ops := regOps (C [1,0,0,1,1,0,0,1,1,1])) (o := o7) (rest := l6.drop 8) (g := 38) (asv := [.one (.pv (t done.length)), .one (.pt 1 0 0 0)]) (by kernel_rfl) (by kernel_rfl) hF
  refine hcall ?_
  obtain ⟨x, y, rfl, hx, hy⟩ := hvs.two
  have hxp : PRel (Mut ι (S2 (rws t 0 (done ++ f1 :: rest)) (IntKind.i64.wrap (nx + 1)))) w x (t done.length) := by
   cases cv_of hx with
   | pv _ _ h => exact h
  have hy : y = .pointer (some ⟨bn, 0, none⟩) := by
   cases cv_of hy with
   | pt _ _ _ _ b _ hb =>
    rw [g4b] at hb
    cases hb
    rfl
  subst hy
  have hmem : (done ++ f :: rest)[done.length]? = some f := by simp
  obtain ⟨hok, hnc⟩ := hih f (by simp)
  have hBlt : ∀ x, B done.length x → x < w.heap.size ∧ glob x = none := fun x hx => ⟨hR.amb x ((g5 x).2 ⟨_, hx⟩), hS x (hB _ x hx)⟩
  obtain ⟨bn', ty, e1, hbx⟩ := box1 (hR.obj 1 _ rfl)
  rw [g4b] at e1
  cases e1
  have hobn : Own ι (S2 (rws t 0 (done ++ f1 :: rest)) (IntKind.i64.wrap (nx + 1))) bn := ⟨1, _, rfl, by simp [Body.alive], g4b⟩
  have hBbn : ∀ i, ¬ B i bn := fun i hx => hR.dis bn hobn ((g5 bn).2 ⟨i, hx⟩)
  have hgbn : glob bn = none := by
   cases hq : glob bn with
   | none => rfl
   | some l => exact absurd (.inr hobn) (hR.gl bn l hq).1
  obtain ⟨v1, hq1, ht1⟩ := g7 _ f hmem
  rw [hq1] at hxp
  refine (hnc w x (B done.length) _ bn ty hok (rel_q ht1 hxp) hBlt (Num.rel_glob hR) hbx (hBbn _) hgbn).mono ?_
  rintro e w1 ⟨⟨u, rfl⟩, ht, hw, hb1⟩
  refine ⟨u, rfl, ?_⟩
  have hkw : KW ι w (S2 (rws t 0 (done ++ f1 :: rest)) (IntKind.i64.wrap (nx + 1))) ι w1 := ⟨hw.size, fun _ => rfl, fun b hb hm => ⟨hw.blk b hb fun hx => hx.elim (fun hx => hm (.inl ((g5 b).2 ⟨_, hx⟩))) (fun hx => hm (.inr (hx ▸ hobn))), hm⟩, hw.shp⟩
  let n2 := (numL f.type.fields (IntKind.i64.wrap (nx + 1))).2
  have hmut : ∀ b, Mut ι (S2 (rws t 0 (done ++ f1 :: rest)) n2) b → Mut ι (S2 (rws t 0 (done ++ f1 :: rest)) (IntKind.i64.wrap (nx + 1))) b := by
   rintro b (h | ⟨id, o, h1, h2, h3⟩)
   ·exact .inl h
   ·match id, h1 with
    | 0, _ => exact .inr ⟨0, _, rfl, by simp [Body.alive], h3⟩
    | 1, _ => exact .inr ⟨1, _, rfl, by simp [Body.alive], h3⟩
    | id + 2, h1 => simp at h1
  have h01 : ∀ b, ι 0 = some b → b ≠ bn := fun b hb e => by
   have := hR.inj 0 1 _ _ b rfl rfl (by simp [Body.alive]) (by simp [Body.alive]) hb (e ▸ g4b)
   cases this
  have h0same : ∀ b, ι 0 = some b → w1.heap[b]? = w.heap[b]? := fun b hb => by
   have ho : Own ι (S2 (rws t 0 (done ++ f1 :: rest)) (IntKind.i64.wrap (nx + 1))) b := ⟨0, _, rfl, by simp [Body.alive], hb⟩
   exact hw.blk b (hR.own_lt ho) fun hx => hx.elim (fun hx => hR.dis b ho ((g5 b).2 ⟨_, hx⟩)) (h01 b hb)
  have hR1 : Rel ι w1 (S2 (rws t 0 (done ++ f1 :: rest)) n2) := by
   refine ⟨fun id o h => ?_, fun b hb => Nat.lt_of_lt_of_le (hR.amb b hb) hw.size, fun b hb => ?_, fun id id' o o' b h1 h2 h3 h4 h5 h6 => ?_, fun b l hb => ?_⟩
   ·match id, h with
    | 0, h => simp at h; subst h; exact obj_rf hqs (hR.obj 0 _ rfl) rfl h0same
    | 1, h => simp at h; subst h; exact obj_box g4b hb1
    | id + 2, h => simp at h
   ·rcases hmut b (.inr hb) with h | h
    ·rcases hb with ⟨id, o, h1, h2, h3⟩
     match id, h1 with
     | 0, _ => exact fun ha => hR.dis b ⟨0, _, rfl, by simp [Body.alive], h3⟩ ha
     | 1, _ => exact fun ha => hR.dis b ⟨1, _, rfl, by simp [Body.alive], h3⟩ ha
     | id + 2, h1 => simp at h1
    ·exact hR.dis b h
   ·match id, id', h1, h2 with
    | 0, 0, _, _ => rfl
    | 1, 1, _, _ => rfl
    | 0, 1, _, _ => exact absurd (g4b.symm.trans h6) (fun e => h01 b h5 (by cases e; rfl))
    | 1, 0, _, _ => exact absurd (g4b.symm.trans h5) (fun e => h01 b h6 (by cases e; rfl))
    | id + 2, _, h1, _ => simp at h1
    | 0, id + 2, _, h2 => simp at h2
    | 1, id + 2, _, h2 => simp at h2
   ·obtain ⟨h1, h2, h5⟩ := hR.gl b l hb
    have h3 : w1.heap[b]? = w.heap[b]? := hw.blk b h2 fun hx => hx.elim (fun hx => (by rw [(hBlt b hx).2] at hb; cases hb)) (fun hx => (by rw [hx, hgbn] at hb; cases hb))
    refine ⟨fun hm => h1 (hmut b hm), Nat.lt_of_lt_of_le h2 hw.size, ?_⟩
    have hc : ∀ i, w1.cell? ⟨b, i, none⟩ = w.cell? ⟨b, i, none⟩ := fun i => by simp [World.cell?, h3]
    exact ⟨fun i v hv => by rw [hc]; exact h5.1 i v hv, fun hi => by rw [hc]; exact h5.2.1 hi, fun hi => by rw [h3]; exact h5.2.2 hi⟩
  have hF1 : FRel 31 ι w1 (S2 (rws t 0 (done ++ f1 :: rest)) n2) a (F6 N (done.length : Int) (t done.length)) := by
   have := hF.kw hkw
   exact ⟨this.defers, this.size, fun s => (this.slot s).chg hmut (by simp) (fun _ => rfl)⟩
  have hput : ∀ av, putF 31 o7.dst av (F6 N (done.length : Int) (t done.length)) = some ((29, av) :: F6 N (done.length : Int) (t done.length)) := by intro av; kernel_rfl
  have hF2 := putF_rel (hput .j) hF1 (AVRel.j u)
  let f2 : GField := (numO f nx).1
  have hf2 : f2 = ⟨nx, f.name, f.need, ⟨f.type.kind, f.type.scale, (numL f.type.fields (IntKind.i64.wrap (nx + 1))).1⟩⟩ := congrArg Prod.fst (numO_eq f nx)
  have hn2 : (numO f nx).2 = n2 := congrArg Prod.snd (numO_eq f nx)
  have hrw : rws t 0 (done ++ f1 :: rest) = rws t 0 (done ++ f2 :: rest) := by rw [Num.rws_mid, Num.rws_mid, hf2]
  have hA1 : At 31 (G S bn B t w0 v N o0 (done ++ f2 :: rest)) ((29, .j) :: F6 N (done.length : Int) (t done.length)) (S2 (rws t 0 (done ++ f2 :: rest)) n2) (a.put o7.dst u) w1 := by
   rw [← hrw]
   refine ⟨ι, hR1, hF2, g1.trans (hw.up fun x hx => hx.imp (hB _ x) id), (g2.kw hkw).chg hmut (by simp) (fun _ => rfl), by simp, g4, g4b, g5, fun x hx hl => ?_, fun i g hi => ?_⟩
   ·rcases hx with ⟨id, o, h1, h2, h3⟩
    match id, h1 with
    | 0, _ => exact g6 x ⟨0, _, rfl, by simp [Body.alive], h3⟩ hl
    | 1, _ => exact g6 x ⟨1, _, rfl, by simp [Body.alive], h3⟩ hl
    | id + 2, h1 => simp at h1
   by_cases e : i = done.length
   ·subst e
    have : (done ++ f2 :: rest)[done.length]? = some f2 := by simp
    rw [this] at hi
    cases hi
    rw [hf2]
    exact ⟨x, by rw [hq1]; exact Num.q_num hxp, ht⟩
   ·have : (done ++ f2 :: rest)[i]? = (done ++ f :: rest)[i]? := by
     by_cases hi : i < done.length
     ·rw [List.getElem?_append_left hi, List.getElem?_append_left hi]
     ·rw [List.getElem?_append_right (by omega), List.getElem?_append_right (by omega)]
      obtain ⟨m, hm⟩ : ∃ m, i - done.length = m + 1 := ⟨i - done.length - 1, by omega⟩
      rw [hm]; rfl
    rw [this] at hi
    obtain ⟨u, e1, e2⟩ := g7 i g hi
    exact ⟨u, e1, e2.frame fun b hb => hw.blk b (hR.amb b ((g5 b).2 ⟨_, hb⟩)) fun hx => hx.elim (fun hx => e (hd _ _ b hb hx)) (fun hx => hBbn i (hx ▸ hb))⟩
  have hend : l6.drop 8 = [] := by kernel_rfl
  rw [hend]
  show (C [1,0,0,1,1,1]).wp _ _ _ _
  refine Go.wp_mono (hA1.seg G.stab (p8 N _ _ _ _)) ?_
  rintro e a w ⟨rfl, hA⟩
  show rnd _ _ _ _ _ _
  rw [Num.wrap_succ (by omega) hN, ← hn2] at hA
  have := loop hB hd hS hN rest (done ++ [f2]) (numO f nx).2 a w (by simp; omega) (fun g hg => hih g (by simp [hg])) (by simpa using hA)
  simpa [numL, f2] using this

theorem nz (nx : Int) : CM Tryz.prog 38 [.one (.pv (.ro [])), .one (.pt 0 0 0 0)] [.box [ci nx]] (some nx) (fun _ => .tp []) (fun r => [.box [ci r]]) := uFnM 1 31 [] Tryz.f38 fun r => (uN eRF [] (uOk 0 (uF uZM)))
theorem nc : ∀ (m : Nat) (fs : List GField), SizeOf.sizeOf fs ≤ m → NC fs
 | 0, fs, h => by cases fs <;> simp at h <;> omega
 | m + 1, fs, h => by
  intro w v S nx bn ty hok hT hS hg hbn hSb hgb
  by_cases hne : fs = []
  ·subst hne
   have hv : emptyV v := by
    cases hT with
    | nil _ _ h => exact h
    | mk b cap c ty fs t B S hne => exact absurd rfl hne
   let ι0 : IM := ⟨fun _ => some bn, fun _ => False⟩
   have hob : ∀ b, Own ι0 [.box [ci nx]] b → b = bn := by
    rintro b ⟨id, o, _, _, h3⟩
    cases h3; rfl
   have hR : Rel ι0 w [.box [ci nx]] := ⟨fun id o h => by
    match id, h with
    | 0, h => simp at h; subst h; exact obj_box rfl hbn
    | id + 1, h => simp at h, fun b hb => hb.elim, fun b _ h => h, fun id id' o o' b h1 h2 _ _ _ _ => by
    match id, id', h1, h2 with
    | 0, 0, _, _ => rfl
    | id + 1, _, h1, _ => simp at h1
    | 0, id + 1, _, h2 => simp at h2, fun b l h => ⟨fun hm => (by
     rcases hm with hm | hm
     ·exact hm
     ·rw [hob b hm, hgb] at h; cases h), hg b l h⟩⟩
   refine (nz nx nx rfl ι0 w [v, .pointer (some ⟨bn, 0, none⟩)] hR ⟨rfl, fun j x y h1 h2 => ?_⟩).mono ?_
   ·match j, h1, h2 with
    | 0, h1, h2 => simp at h1 h2; subst h1; subst h2; exact .one _ _ (.pv _ _ hv.rel)
    | 1, h1, h2 => simp at h1 h2; subst h1; subst h2; exact .one _ _ (.pt 0 0 0 0 bn (by simp) rfl)
    | j + 2, h1, h2 => simp at h1
   ·rintro e w' ⟨u, av, st', ι', rfl, ⟨rfl, rfl⟩, hR', hu, k⟩
    obtain ⟨bn', ty', e1, hbx⟩ := box1 (hR'.obj 0 _ rfl)
    rw [(k.map 0 (by simp) (by simp)).2] at e1
    cases e1
    obtain ⟨c', e2, _⟩ := k.shp bn _ ty _ hbn
    rw [hbx] at e2
    cases e2
    exact ⟨⟨u, rfl⟩, by simp only [numL]; exact .nil v S hv, ⟨k.os, k.tape, k.output, k.size, fun b hb hn => (k.blk b hb fun ho => hn (.inr (hob b ho))).1, k.shp⟩, by simpa only [numL] using hbx⟩
  obtain ⟨tv, t, B, ι, hR, hv, ha, hB, hd, h0, hr⟩ := hT.opn hne hS hg
  have hqs : Qs t fs := fun i f hf => by
   obtain ⟨h1, h2⟩ := hr i f hf
   rw [h1]; exact h2.q
  let ι2 : IM := ⟨fun id => if id = 1 then some bn else ι id, ι.amb⟩
  have i0 : ι2 0 = ι 0 := rfl
  have i1 : ι2 1 = some bn := rfl
  have hown : ∀ x, Own ι2 (S2 (rws t 0 fs) nx) x → SB S bn x := by
   rintro x ⟨id, o, h1, h2, h3⟩
   match id, h1 with
   | 0, _ => exact .inl (h0 x h3)
   | 1, _ => exact .inr (by cases h3; rfl)
   | id + 2, h1 => simp at h1
  have hdis : ∀ x, Own ι2 (S2 (rws t 0 fs) nx) x → ¬ ι.amb x := by
   rintro x ⟨id, o, h1, h2, h3⟩ hx
   match id, h1 with
   | 0, _ => exact hR.dis x ⟨0, _, rfl, by simp [Body.alive], h3⟩ hx
   | 1, _ =>
    cases h3
    obtain ⟨i, hx⟩ := (ha bn).1 hx
    exact hSb (hB i bn hx)
   | id + 2, h1 => simp at h1
  have hR2 : Rel ι2 w (S2 (rws t 0 fs) nx) := by
   refine ⟨fun id o h => ?_, hR.amb, hdis, fun id id' o o' b h1 h2 h3 h4 h5 h6 => ?_, fun b l hb => ⟨?_, hg b l hb⟩⟩
   ·match id, h with
    | 0, h => simp at h; subst h; exact obj_rf hqs (hR.obj 0 _ rfl) rfl (fun _ _ => rfl)
    | 1, h => simp at h; subst h; exact obj_box i1 hbn
    | id + 2, h => simp at h
   ·have hne : ι 0 ≠ some bn := fun e => hSb (h0 bn e)
    match id, id', h1, h2 with
    | 0, 0, _, _ => rfl
    | 1, 1, _, _ => rfl
    | 0, 1, _, _ => cases h6; exact absurd h5 hne
    | 1, 0, _, _ => cases h5; exact absurd h6 hne
    | id + 2, _, h1, _ => simp at h1
    | 0, id + 2, _, h2 => simp at h2
    | 1, id + 2, _, h2 => simp at h2
   ·rintro (h | h)
    ·obtain ⟨i, hx⟩ := (ha b).1 h
     rw [(hS b (hB i b hx)).2] at hb; cases hb
    ·rcases hown b h with h | rfl
     ·rw [(hS b h).2] at hb; cases hb
     ·rw [hgb] at hb; cases hb
  have hv2 : VRel ι2 w (S2 (rws t 0 fs) nx) v (.sl 0 6 0 fs.length) := by
   generalize hz : fs.length = N at hv ⊢
   cases hv with
   | sl id sz off len b cap hid hb hcap hc => exact .sl 0 6 0 N b cap (by simp) hb hcap hc
   | sn id sz hid hb => exact .sn 0 6 (by simp) hb
  have hA : ARel ι2 w (S2 (rws t 0 fs) nx) [v, .pointer (some ⟨bn, 0, none⟩)] [.one (.sl 0 6 0 fs.length), .one (.pt 1 0 0 0)] := ⟨rfl, fun j x y h1 h2 => by
   match j, h1, h2 with
   | 0, h1, h2 => simp at h1 h2; subst h1; subst h2; exact .one _ _ hv2
   | 1, h1, h2 => simp at h1 h2; subst h1; subst h2; exact .one _ _ (.pt 1 0 0 0 bn (by simp) i1)
   | j + 2, h1, h2 => simp at h1⟩
  refine rawCalls (f := 38) (fn := Tryz.f38) (c := C []) (n := 31) (by kernel_rfl) (by kernel_rfl) (by kernel_rfl) (by simp) hA fun a hF => ?_
  have hc : C [] = .seq (C [0]) (.block 0 (.loop (C [1,0,0]))) := by kernel_rfl
  have hA0 : At 31 (G S bn B t w v fs.length (ι 0) fs) [(0, .one (.sl 0 6 0 fs.length)), (1, .one (.pt 1 0 0 0))] (S2 (rws t 0 fs) nx) a w :=
   ⟨ι2, hR2, hF, .refl _ _, hv2, by simp, rfl, rfl, ha, fun x hx _ => hown x hx, fun i f hf => ⟨tv i, hr i f hf⟩⟩
  refine wp_of_eq hc ?_
  refine Go.wp_seq (Go.wp_mono (hA0.seg G.stab (p0 _ nx _)) ?_)
  rintro e a w1 ⟨rfl, hA1⟩
  refine Go.wp_block (Num.wp_loop' (fs.length + 1) (rnd_mono ?_ (loop hB hd (fun x hx => (hS x hx).2) (Num.ok_len hok) fs [] nx a w1 (by simp) (fun f hf => ⟨Num.okL_mem hok f hf, nc m _ (by have := Num.fsize hf; omega)⟩) (by simpa using hA1))))
  rintro e a w3 ⟨rfl, ι4, hR4, hF4, g1, g2, g3, g4, g4b, g5, g6, g7⟩
  simp only [List.nil_append] at hR4 hF4 g1 g2 g3 g4 g4b g5 g6 g7
  refine ⟨.inl rfl, ι4, _, _, [], _, _, (by kernel_rfl : resAll Tryz.prog (F fs.length (fs.length : Int) []) (S2 (rws t 0 (numL fs nx).1) (numL fs nx).2) Tryz.f38.results.toList [] = some ([], [])), trivial, hR4, hF4, fun x hx => ?_⟩
  obtain ⟨bn', ty', e1, hbx⟩ := box1 (hR4.obj 1 _ rfl)
  rw [g4b] at e1
  cases e1
  obtain ⟨c', e2, _⟩ := g1.shp bn _ ty _ hbn
  rw [hbx] at e2
  cases e2
  exact ⟨⟨x, rfl⟩, Tr.cls rfl hR4 g2 (numL_len fs nx) (fun i x hx e0 => hR4.dis x ⟨0, _, rfl, by simp [Body.alive], e0⟩ ((g5 x).2 ⟨i, hx⟩)) hB hd (fun x hx => h0 x (g4 ▸ hx)) g7, g1, hbx⟩
end Nr
end Go.SX
namespace Go.SX
open Go Go.Proofs
set_option linter.unusedVariables false
set_option maxRecDepth 100000

theorem FRel.tell {n : Nat} {ι : IM} {w : World} {st : St} {a : Act} {fr : Fr} (h : FRel n ι w st a fr) {d : Nat} {av : AV} (hv : AVRel ι w st (a.tmps.getD d undef) av) : FRel n ι w st a ((d, av) :: fr) := by
 refine ⟨h.defers, h.size, fun t => ?_⟩
 simp only [lk]
 cases hb : Nat.beq d t with
 | true =>
  have := Nat.eq_of_beq_eq_true hb
  subst this
  exact hv
 | false => exact h.slot t

theorem own_setb {ι : IM} {st : St} {id0 : Nat} {o o' : Body} (h0 : st[id0]? = some o) (ha : o.alive) (ha' : o'.alive) (b : Nat) : Own ι (st.set id0 o') b ↔ Own ι st b := by
 have hl : id0 < st.length := (List.getElem?_eq_some_iff.1 h0).1
 constructor
 ·rintro ⟨id, x, h1, h2, h3⟩
  by_cases e : id0 = id
  ·subst e; exact ⟨id0, o, h0, ha, h3⟩
  ·rw [List.getElem?_set_ne e] at h1; exact ⟨id, x, h1, h2, h3⟩
 ·rintro ⟨id, x, h1, h2, h3⟩
  by_cases e : id0 = id
  ·subst e; exact ⟨id0, o', by rw [List.getElem?_set_self hl], ha', h3⟩
  ·exact ⟨id, x, by rw [List.getElem?_set_ne e]; exact h1, h2, h3⟩

theorem Rel.kwbox {ι ι' : IM} {w w' : World} {st : St} (r : Rel ι w st) (k : KW ι w st ι' w') {id0 bn : Nat} {z z' : Int} {ty : TypeId} (h0 : st[id0]? = some (.box [ci z])) (hb0 : ι id0 = some bn) (hbn : w'.heap[bn]? = some (.cells #[.int .i64 z'] ty (0, 0)))
  (ho : ∀ b, Own ι st b → b ≠ bn → w'.heap[b]? = w.heap[b]?) (ha : ∀ b, ι'.amb b → b < w'.heap.size ∧ ¬ Own ι st b) (hg : ∀ (b : Nat) (l : List Value), glob b = some l → w'.heap[b]? = w.heap[b]? ∧ ¬ ι'.amb b) : Rel ι' w' (st.set id0 (.box [ci z'])) := by
 have al : ∀ z : Int, (Body.box [ci z]).alive := fun z => by simp [Body.alive]
 have hl : id0 < st.length := (List.getElem?_eq_some_iff.1 h0).1
 have own : ∀ b, Own ι' (st.set id0 (.box [ci z'])) b ↔ Own ι st b := fun b => (own_setb h0 (al z) (al z') b).trans ⟨fun ⟨id, o, h1, h2, h3⟩ => ⟨id, o, h1, h2, (k.m id) ▸ h3⟩, fun ⟨id, o, h1, h2, h3⟩ => ⟨id, o, h1, h2, (k.m id).trans h3⟩⟩
 have mt : ∀ b, Mut ι' (st.set id0 (.box [ci z'])) b → Mut ι' st b := fun b hm => hm.imp id fun h => (own_setb h0 (al z) (al z') b).1 h
 have hobn : Own ι st bn := ⟨id0, _, h0, al z, hb0⟩
 have old : ∀ id o, (st.set id0 (.box [ci z']))[id]? = some o → id0 ≠ id → st[id]? = some o := fun id o h e => by rwa [List.getElem?_set_ne e] at h
 refine ⟨fun id o h => ?_, fun b hb => (ha b hb).1, fun b hb hb' => (ha b hb').2 ((own b).1 hb), fun id id' o o' b h1 h2 h3 h4 h5 h6 => ?_, fun b l h => ?_⟩
 ·by_cases e : id0 = id
  ·subst e
   rw [List.getElem?_set_self hl] at h
   cases h
   exact obj_box ((k.m id0).trans hb0) hbn
  ·have h := old id o h e
   have hor := r.obj id o h
   have hk : ∀ b, o.alive → ι id = some b → w'.heap[b]? = w.heap[b]? := fun b h1 h2 => ho b ⟨id, o, h, h1, h2⟩ fun eb => e (r.inj id0 id _ o bn h0 h (al z) h1 hb0 (eb ▸ h2))
   refine ObjRel.chg (ι := ι') (st := st) mt (by simp) (fun _ => rfl) ?_
   cases o with
   | dead => trivial
   | box cells =>
    obtain ⟨b, vs, ty, e, hb, hl⟩ := hor
    exact ⟨b, vs, ty, (k.m id).trans e, (hk b (by simp [Body.alive]) e).trans hb, hl.1, fun j v c h1 h2 => (hl.2 j v c h1 h2).kw k⟩
   | rel Rm ps =>
    obtain ⟨b, ob, vs0, e, hb, hr0, hl0⟩ := hor
    exact ⟨b, ob, vs0, (k.m id).trans e, (hk b (by simp [Body.alive]) e).trans hb, hr0, hl0.map fun _ _ h0 => h0.mono k.size k.blk⟩
   | arr sz els =>
    rcases hor with ⟨e, he⟩ | ⟨b, c, ty, e, hb, h1, h2, h3⟩
    ·exact .inl ⟨(k.m id).trans e, he⟩
    ·refine .inr ⟨b, c, ty, (k.m id).trans e, (hk b (by simp [Body.alive]) e).trans hb, h1, h2, fun i e' j cv a1 a2 => ?_⟩
     obtain ⟨v, hv, hr⟩ := h3 i e' j cv a1 a2
     exact ⟨v, hv, hr.mono k.size k.blk⟩
 ·have g : ∀ (id : Nat) (o : Body), (st.set id0 (.box [ci z']))[id]? = some o → o.alive → ∃ o2 : Body, st[id]? = some o2 ∧ o2.alive := fun id o h h' => by
   by_cases e : id0 = id
   ·subst e; exact ⟨_, h0, al z⟩
   ·exact ⟨o, old id o h e, h'⟩
  obtain ⟨x, q1, q2⟩ := g id o h1 h3
  obtain ⟨y, q3, q4⟩ := g id' o' h2 h4
  exact r.inj id id' x y b q1 q3 q2 q4 ((k.m id) ▸ h5) ((k.m id') ▸ h6)
 ·obtain ⟨h1, h2, h5⟩ := r.gl b l h
  obtain ⟨h3, h4⟩ := hg b l h
  refine ⟨fun hm => hm.elim h4 (fun ho' => h1 (.inr ((own b).1 ho'))), Nat.lt_of_lt_of_le h2 k.size, ?_⟩
  have hc : ∀ i, w'.cell? ⟨b, i, none⟩ = w.cell? ⟨b, i, none⟩ := fun i => by simp [World.cell?, h3]
  exact ⟨fun i v hv => by rw [hc]; exact h5.1 i v hv, fun hi => by rw [hc]; exact h5.2.1 hi, fun hi => by rw [h3]; exact h5.2.2 hi⟩

theorem Keeps.stab {m : Nat} {ι0 : IM} {w0 : World} {st0 : St} : Stab m (fun ι w st => Keeps (fixP m []) ι0 w0 st0 ι w st) := fun _ k h => h.trans k

theorem tree_in {ι : IM} {w w' : World} {st : St} {S : Nat → Prop} (hR : Rel ι w st) (hx : Ext w w') (hS : ∀ x, S x → w.heap.size ≤ x ∧ x < w'.heap.size) :
  KW ι w st ⟨ι.m, fun b => ι.amb b ∨ S b⟩ w' ∧ Rel ⟨ι.m, fun b => ι.amb b ∨ S b⟩ w' st := by
 have k : KW ι w st ⟨ι.m, fun b => ι.amb b ∨ S b⟩ w' := ⟨hx.size, fun _ => rfl, fun b hb hm => ⟨hx.blk b hb, fun h => h.elim (fun h => h.elim (fun h => hm (.inl h)) (fun h => by have := (hS b h).1; omega)) (fun h => hm (.inr h))⟩, (hx.keeps ι st).shp⟩
 refine ⟨k, hR.kw k (fun b hb => hx.blk b (hR.own_lt hb)) (fun b hb => ?_) (fun b l hb => ⟨hx.blk b (hR.gl b l hb).2.1, fun h => ?_⟩)⟩
 ·rcases hb with h | h
  ·exact ⟨Nat.lt_of_lt_of_le (hR.amb b h) hx.size, fun ho => hR.dis b ho h⟩
  ·exact ⟨(hS b h).2, fun ho => by have := hR.own_lt ho; have := (hS b h).1; omega⟩
 ·rcases h with h | h
  ·exact (hR.gl b l hb).1 (.inl h)
  ·have := (hR.gl b l hb).2.1; have := (hS b h).1; omega

namespace Pr
noncomputable abbrev C (p : List Nat) : Code := cd Tryz.f8 p
abbrev nl : CV := .pv (.s (.slice none 0 0))
abbrev S2 : St := [.box [nl, nl, ci 0, ci 0, ci 0, ci 0, nl, nl, nl]]
abbrev B (p : List (List PV)) (l : Fr) : Fr := (3, .one (.pv (.rp [[.ro p]] 0 0))) :: (4, .one (.pt 0 0 0 0)) :: l
noncomputable abbrev l17 : List Oper := (regOps (C [1,1,0])).toList
noncomputable abbrev l19 : List Oper := (regOps (C [1,1,1,0])).toList
theorem h17 : 1 < l17.length := of_decide_eq_true (by kernel_rfl)
noncomputable abbrev o17 : Oper := l17[1]'h17
theorem d17 : l17.drop 1 = o17 :: l17.drop 2 := List.drop_eq_getElem_cons _
theorem h19 : 1 < l19.length := of_decide_eq_true (by kernel_rfl)
noncomputable abbrev o19 : Oper := l19[1]'h19
theorem d19 : l19.drop 1 = o19 :: l19.drop 2 := List.drop_eq_getElem_cons _
theorem q1 (fs : List GField) (p : List (List PV)) : XO Tryz.prog 40 1 [] (regOps (C [1,1,0])) (l17.take 1) (endK 40 1 .normal (B p [(17, vl eField fs)]) (S2)) (B p [(0, vl eField fs)]) (S2) := ofGGo (an := []) uJ0
theorem q2 (v : PV) (hv : isQ v) (fs : List GField) (p : List (List PV)) : XO Tryz.prog 40 1 [] (regOps (C [1,1,0])) (l17.drop 2) (endK 40 1 .normal (B p [(7, .one (.pv v))]) (S2)) ((18, .one (.pv v)) :: B p [(17, vl eField fs)]) (S2) := by
 rcases hv with rfl | ⟨a, n, m, rfl⟩ <;> exact ofGGo (an := []) uJ0
theorem q3 (v : PV) (hv : isQ v) (p : List (List PV)) : XO Tryz.prog 40 1 [] (regOps (C [1,1,1,0])) (l19.take 1) (endK 40 1 .normal (B p [(7, .one (.pv v)), (19, .one (.pv v))]) (S2)) (B p [(7, .one (.pv v))]) (S2) := by
 rcases hv with rfl | ⟨a, n, m, rfl⟩ <;> exact ofGGo (an := []) uJ0
theorem q4 (v : PV) (n : Int) (gs : List GField) (p : List (List PV)) : XO Tryz.prog 40 1 [] (regOps (C [1,1,1,0])) (l19.drop 2) (endK 40 1 .normal (B p [(7, vl eField gs), (8, vi n)]) (S2)) ((7, vl eField gs) :: (20, vi n) :: B p [(7, .one (.pv v)), (19, .one (.pv v))]) (S2) := ofGGo (an := []) uJ0

theorem pair {Q : QT} {fs : List GField} (hok : Num.ok fs) {p : List (List PV)} (h : XW Tryz.prog 40 0 [] (C [1,1,1,1]) Q (B p [(7, vl eField (numL fs 1).1), (8, vi (numL fs 1).2)]) (S2)) : XW Tryz.prog 40 0 [] (C [1,1]) Q (B p [(0, vl eField fs)]) (S2) := by
 intro ι w a hR hF
 have hc : C [1,1] = .seq (C [1,1,0]) (.seq (C [1,1,1,0]) (C [1,1,1,1])) := by kernel_rfl
 refine wp_of_eq hc ?_
 refine Go.wp_seq (wp_reg (by kernel_rfl) ?_)
 have hA : At 40 (fun ι' w' st' => Keeps (fixP 1 []) ι w (S2) ι' w' st') (B p [(0, vl eField fs)]) (S2) a w := ⟨ι, hR, hF, .refl⟩
 refine wp_cut 1 Keeps.stab (q1 fs p) hA fun a1 w1 hA1 => ?_
 obtain ⟨ι1, hR1, hF1, k1⟩ := hA1
 rw [d17]
 obtain ⟨vs, hvs, hcall⟩ := wp_call (P := Tryz.prog) (ops := regOps (C [1,1,0])) (o := o17) (rest := l17.drop 2) (g := 31) (asv := [vl eField fs]) (by kernel_rfl) (by kernel_rfl) hF1
 refine hcall ?_
 obtain ⟨x, rfl, hx⟩ := hvs.one1
 have hx : PRel (Mut ι1 (S2)) w1 x (.ro (eField.els fs)) := by
  cases cv_of hx with
  | pv _ _ h0 => exact h0
 refine (Cp.cc _ fs (Nat.le_refl _) _ w1 x hok hx (Num.rel_glob hR1)).mono ?_
 rintro e w2 ⟨v1, S, rfl, ht, hS, hx2⟩
 refine ⟨v1, rfl, ?_⟩
 obtain ⟨kw2, hR2⟩ := tree_in hR1 hx2 hS
 have hput : ∀ av, putF 40 o17.dst av (B p [(17, vl eField fs)]) = some ((18, av) :: B p [(17, vl eField fs)]) := by intro av; kernel_rfl
 have hq := ht.q
 have hF2 := putF_rel (hput (.one (.pv (qOf fs v1)))) (hF1.kw kw2) (AVRel.one v1 _ (.pv _ _ ht.qrel))
 have hA2 : At 40 (fun ι' w' st' => Keeps (fixP 1 []) ⟨ι1.m, fun b => ι1.amb b ∨ S b⟩ w2 (S2) ι' w' st') ((18, .one (.pv (qOf fs v1))) :: B p [(17, vl eField fs)]) (S2) (a1.put o17.dst v1) w2 := ⟨_, hR2, hF2, .refl⟩
 refine wpList_post ?_ (hA2.segO Keeps.stab (q2 _ hq fs p))
 rintro e a3 w3 ⟨rfl, hA3⟩
 show (Code.seq (C [1,1,1,0]) (C [1,1,1,1])).wp _ _ _ _
 refine Go.wp_seq (wp_reg (by kernel_rfl) ?_)
 refine wp_cut 1 Keeps.stab (q3 _ hq p) hA3 fun a3 w3 hA3 => ?_
 obtain ⟨ι3, hR3, hF3, k3⟩ := hA3
 rw [d19]
 obtain ⟨vs, hvs, hcall⟩ := wp_call (P := Tryz.prog) (ops := regOps (C [1,1,1,0])) (o := o19) (rest := l19.drop 2) (g := 32) (asv := [.one (.pv (qOf fs v1)), vi 1]) (by kernel_rfl) (by kernel_rfl) hF3
 refine hcall ?_
 obtain ⟨x, y, rfl, hx, hy⟩ := hvs.two
 have hxp : PRel (Mut ι3 (S2)) w3 x (qOf fs v1) := by
  cases cv_of hx with
  | pv _ _ h => exact h
 have hy := scalar_of hy
 subst hy
 have amb3 : ∀ b, ι3.amb b ↔ (ι1.amb b ∨ S b) := fun b => by rw [k3.amb]
 have hS3 : ∀ b, S b → b < w3.heap.size ∧ ¬ Own ι3 (S2) b := fun b hb => ⟨hR3.amb b ((amb3 b).2 (.inr hb)), fun ho => hR3.dis b ho ((amb3 b).2 (.inr hb))⟩
 have ht3 : Tr w3 x fs S := rel_q (ht.frame fun b hb => (k3.blk b (hS b hb).2 (fun ho => hR2.dis b ho (.inr hb))).1) hxp
 have hgS : ∀ b, S b → glob b = none := fun b hb => by
  cases hq : glob b with
  | none => rfl
  | some l => exact absurd (.inl ((amb3 b).2 (.inr hb))) (hR3.gl b l hq).1
 refine (Num.nc _ fs (Nat.le_refl _) w3 x S 1 hok ht3 (fun b hb => ⟨(hS3 b hb).1, hgS b hb⟩) (Num.rel_glob hR3)).mono ?_
 rintro e w4 ⟨rfl, ht4, hw4⟩
 refine ⟨_, rfl, ?_⟩
 have kw4 : KW ι3 w3 (S2) ⟨ι3.m, ι1.amb⟩ w4 := ⟨hw4.size, fun _ => rfl, fun b hb hm => ⟨hw4.blk b hb fun hs => hm (.inl ((amb3 b).2 (.inr hs))), fun h => h.elim (fun h => hm (.inl ((amb3 b).2 (.inl h)))) (fun h => hm (.inr h))⟩, hw4.shp⟩
 have hR4 : Rel ⟨ι3.m, ι1.amb⟩ w4 (S2) := hR3.kw kw4 (fun b hb => hw4.blk b (hR3.own_lt hb) fun hs => (hS3 b hs).2 hb) (fun b hb => ⟨Nat.lt_of_lt_of_le (hR3.amb b ((amb3 b).2 (.inl hb))) hw4.size, fun ho => hR3.dis b ho ((amb3 b).2 (.inl hb))⟩)
  (fun b l hb => ⟨hw4.blk b (hR3.gl b l hb).2.1 fun hs => (by rw [hgS b hs] at hb; cases hb), fun h => (hR3.gl b l hb).1 (.inl ((amb3 b).2 (.inl h)))⟩)
 have hput : ∀ av, putF 40 o19.dst av (B p [(7, .one (.pv (qOf fs v1))), (19, .one (.pv (qOf fs v1)))]) = some ((20, av) :: B p [(7, .one (.pv (qOf fs v1))), (19, .one (.pv (qOf fs v1)))]) := by intro av; kernel_rfl
 have hF4 := putF_rel (hput (vi (numL fs 1).2)) (hF3.kw kw4) (AVRel.one (.int .i64 (numL fs 1).2) _ (.pv _ _ (.s _ rfl)))
 have h7 := pure_of (p := qOf fs v1) (cv_of (hF4.slot 7))
 have hF5 := hF4.tell (d := 7) (av := vl eField (numL fs 1).1) (by
  rw [Num.q_num (n := 1) hxp] at h7
  exact .one _ _ (.pv _ _ ((rel_q ht4 h7).pure fun b hb => ⟨Nat.lt_of_lt_of_le (hS3 b hb).1 hw4.size, fun h => h.elim (fun h => by have := hR1.amb b h; have := (hS b hb).1; omega) (fun h => (hS3 b hb).2 h)⟩)))
 have kk : Keeps (fixP 1 []) ι w (S2) ⟨ι3.m, ι1.amb⟩ w4 (S2) := by
  have kx := hx2.keeps ι1 (S2)
  refine ⟨hw4.os.trans (k3.os.trans (hx2.os.trans k1.os)), hw4.tape.trans (k3.tape.trans (hx2.tape.trans k1.tape)), hw4.output.trans (k3.output.trans (hx2.output.trans k1.output)), Nat.le_trans k1.size (Nat.le_trans hx2.size (Nat.le_trans k3.size hw4.size)), k1.amb, fun b hb hn => ?_, fun id hf hid => ?_, fun b c ty fz hb => ?_⟩
  ·obtain ⟨e1, n1⟩ := k1.blk b hb hn
   have hb1 : b < w1.heap.size := Nat.lt_of_lt_of_le hb k1.size
   have e2 := hx2.blk b hb1
   obtain ⟨e3, n3⟩ := k3.blk b (Nat.lt_of_lt_of_le hb1 hx2.size) n1
   have e4 := hw4.blk b (Nat.lt_of_lt_of_le hb1 (Nat.le_trans hx2.size k3.size)) fun hs => by have := (hS b hs).1; omega
   exact ⟨e4.trans (e3.trans (e2.trans e1)), n3⟩
  ·obtain ⟨a1, a2⟩ := k1.map id hf hid
   obtain ⟨b1, b2⟩ := k3.map id hf a1
   exact ⟨b1, b2.trans a2⟩
  ·obtain ⟨c1, e1, s1⟩ := k1.shp b c ty fz hb
   obtain ⟨c2, e2, s2⟩ := kx.shp b c1 ty fz e1
   obtain ⟨c3, e3, s3⟩ := k3.shp b c2 ty fz e2
   obtain ⟨c4, e4, s4⟩ := hw4.shp b c3 ty fz e3
   exact ⟨c4, e4, by omega⟩
 have hA5 : At 40 (fun ι' w' st' => Keeps (fixP 1 []) ι w (S2) ι' w' st') ((7, vl eField (numL fs 1).1) :: (20, vi (numL fs 1).2) :: B p [(7, .one (.pv (qOf fs v1))), (19, .one (.pv (qOf fs v1)))]) (S2) (a3.put o19.dst (.int .i64 (numL fs 1).2)) w4 := ⟨_, hR4, hF5, kk⟩
 refine wpList_post ?_ (hA5.segO Keeps.stab (q4 _ _ _ p))
 rintro e a6 w6 ⟨rfl, ι6, hR6, hF6, k6⟩
 show (C [1,1,1,1]).wp _ _ _ _
 exact Go.wp_mono (h ι6 w6 a6 hR6 hF6) fun e a w h => h.trans (k6.weaken fun id hf => by cases (show false = true from hf))
end Pr

namespace Rr
noncomputable abbrev C (p : List Nat) : Code := cd Tryz.f9 p
abbrev nl : CV := .pv (.s (.slice none 0 0))
abbrev S2 : St := [.box [nl, nl, ci 0, ci 0, ci 0, ci 0, nl, nl, nl]]
abbrev S3 (n : Int) : St := [.box [nl, nl, ci 0, ci 0, ci 0, ci 0, nl, nl, nl], .box [ci n]]
abbrev B (p : List (List PV)) (l : Fr) : Fr := (3, .one (.pv (.rp [[.ro p]] 0 0))) :: (4, .one (.pt 0 0 0 0)) :: l
noncomputable abbrev l17 : List Oper := (regOps (C [1,1,0])).toList
noncomputable abbrev l19 : List Oper := (regOps (C [1,1,1,1,0])).toList
theorem h17 : 1 < l17.length := of_decide_eq_true (by kernel_rfl)
noncomputable abbrev o17 : Oper := l17[1]'h17
theorem d17 : l17.drop 1 = o17 :: l17.drop 2 := List.drop_eq_getElem_cons _
theorem h19 : 1 < l19.length := of_decide_eq_true (by kernel_rfl)
noncomputable abbrev o19 : Oper := l19[1]'h19
theorem d19 : l19.drop 1 = o19 :: l19.drop 2 := List.drop_eq_getElem_cons _
theorem q1 (fs : List GField) (p : List (List PV)) : XO Tryz.prog 36 1 [] (regOps (C [1,1,0])) (l17.take 1) (endK 36 1 .normal (B p [(17, vl eField fs)]) (S2)) (B p [(0, vl eField fs)]) (S2) := ofGGo (an := [8]) uJ0
theorem q2 (v : PV) (hv : isQ v) (fs : List GField) (p : List (List PV)) : XO Tryz.prog 36 1 [] (regOps (C [1,1,0])) (l17.drop 2) (endK 36 1 .normal (B p [(7, .one (.pv v))]) (S2)) ((18, .one (.pv v)) :: B p [(17, vl eField fs)]) (S2) := by
 rcases hv with rfl | ⟨a, n, m, rfl⟩ <;> exact ofGGo (an := [8]) uJ0
theorem q2b (v : PV) (hv : isQ v) (p : List (List PV)) : XW Tryz.prog 36 1 [] (C [1,1,1,0]) (endK 36 1 .normal (B p [(7, .one (.pv v)), (8, .one (.pt 1 0 0 0))]) (S3 1)) (B p [(7, .one (.pv v))]) (S2) := by
 rcases hv with rfl | ⟨a, n, m, rfl⟩ <;> exact ofGG (an := [8]) uJ0
theorem q3 (v : PV) (hv : isQ v) (p : List (List PV)) : XO Tryz.prog 36 1 [] (regOps (C [1,1,1,1,0])) (l19.take 1) (endK 36 1 .normal (B p [(7, .one (.pv v)), (8, .one (.pt 1 0 0 0)), (19, .one (.pv v))]) (S3 1)) (B p [(7, .one (.pv v)), (8, .one (.pt 1 0 0 0))]) (S3 1) := by
 rcases hv with rfl | ⟨a, n, m, rfl⟩ <;> exact ofGGo (an := [8]) uJ0

theorem pair {Q : QT} {fs : List GField} (hok : Num.ok fs) {p : List (List PV)} (h : XW Tryz.prog 36 0 [] (C [1,1,1,1,1]) Q (B p [(7, vl eField (numL fs 1).1), (8, .one (.pt 1 0 0 0))]) (S3 (numL fs 1).2)) : XW Tryz.prog 36 0 [] (C [1,1]) Q (B p [(0, vl eField fs)]) (S2) := by
 intro ι w a hR hF
 have hc : C [1,1] = .seq (C [1,1,0]) (.seq (C [1,1,1,0]) (.seq (C [1,1,1,1,0]) (C [1,1,1,1,1]))) := by kernel_rfl
 refine wp_of_eq hc ?_
 refine Go.wp_seq (wp_reg (by kernel_rfl) ?_)
 have hA : At 36 (fun ι' w' st' => Keeps (fixP 1 []) ι w (S2) ι' w' st') (B p [(0, vl eField fs)]) (S2) a w := ⟨ι, hR, hF, .refl⟩
 refine wp_cut 1 Keeps.stab (q1 fs p) hA fun a1 w1 hA1 => ?_
 obtain ⟨ι1, hR1, hF1, k1⟩ := hA1
 rw [d17]
 obtain ⟨vs, hvs, hcall⟩ := wp_call (P := Tryz.prog) (ops := regOps (C [1,1,0])) (o := o17) (rest := l17.drop 2) (g := 37) (asv := [vl eField fs]) (by kernel_rfl) (by kernel_rfl) hF1
 refine hcall ?_
 obtain ⟨x, rfl, hx⟩ := hvs.one1
 have hx : PRel (Mut ι1 (S2)) w1 x (.ro (eField.els fs)) := by
  cases cv_of hx with
  | pv _ _ h0 => exact h0
 refine (Cr.cc _ fs (Nat.le_refl _) _ w1 x hok hx (Num.rel_glob hR1)).mono ?_
 rintro e w2 ⟨v1, S, rfl, ht, hS, hx2⟩
 refine ⟨v1, rfl, ?_⟩
 obtain ⟨kw2, hR2⟩ := tree_in hR1 hx2 hS
 have hput : ∀ av, putF 36 o17.dst av (B p [(17, vl eField fs)]) = some ((18, av) :: B p [(17, vl eField fs)]) := by intro av; kernel_rfl
 have hq := ht.q
 have hF2 := putF_rel (hput (.one (.pv (qOf fs v1)))) (hF1.kw kw2) (AVRel.one v1 _ (.pv _ _ ht.qrel))
 have hA2 : At 36 (fun ι' w' st' => Keeps (fixP 1 []) ⟨ι1.m, fun b => ι1.amb b ∨ S b⟩ w2 (S2) ι' w' st') ((18, .one (.pv (qOf fs v1))) :: B p [(17, vl eField fs)]) (S2) (a1.put o17.dst v1) w2 := ⟨_, hR2, hF2, .refl⟩
 refine wpList_post ?_ (hA2.segO Keeps.stab (q2 _ hq fs p))
 rintro e a3 w3 ⟨rfl, hA3⟩
 show (Code.seq (C [1,1,1,0]) (.seq (C [1,1,1,1,0]) (C [1,1,1,1,1]))).wp _ _ _ _
 refine Go.wp_seq (Go.wp_mono (hA3.seg Keeps.stab (q2b _ hq p)) ?_)
 rintro e a3 w3 ⟨rfl, hA3⟩
 show (Code.seq (C [1,1,1,1,0]) (C [1,1,1,1,1])).wp _ _ _ _
 refine Go.wp_seq (wp_reg (by kernel_rfl) ?_)
 refine wp_cut 1 Keeps.stab (q3 _ hq p) hA3 fun a3 w3 hA3 => ?_
 obtain ⟨ι3, hR3, hF3, k3⟩ := hA3
 rw [d19]
 obtain ⟨vs, hvs, hcall⟩ := wp_call (P := Tryz.prog) (ops := regOps (C [1,1,1,1,0])) (o := o19) (rest := l19.drop 2) (g := 38) (asv := [.one (.pv (qOf fs v1)), .one (.pt 1 0 0 0)]) (by kernel_rfl) (by kernel_rfl) hF3
 refine hcall ?_
 obtain ⟨bn, ty, e1, hbx⟩ := box1 (hR3.obj 1 _ rfl)
 obtain ⟨x, y, rfl, hx, hy⟩ := hvs.two
 have hxp : PRel (Mut ι3 (S3 1)) w3 x (qOf fs v1) := by
  cases cv_of hx with
  | pv _ _ h => exact h
 have hy : y = .pointer (some ⟨bn, 0, none⟩) := by
  cases cv_of hy with
  | pt _ _ _ _ b _ hb =>
   rw [e1] at hb
   cases hb
   rfl
 subst hy
 have amb3 : ∀ b, ι3.amb b ↔ (ι1.amb b ∨ S b) := fun b => by rw [k3.amb]
 have hS3 : ∀ b, S b → b < w3.heap.size ∧ ¬ Own ι3 (S3 1) b := fun b hb => ⟨hR3.amb b ((amb3 b).2 (.inr hb)), fun ho => hR3.dis b ho ((amb3 b).2 (.inr hb))⟩
 have ht3 : Tr w3 x fs S := rel_q (ht.frame fun b hb => (k3.blk b (hS b hb).2 (fun ho => hR2.dis b ho (.inr hb))).1) hxp
 have hgS : ∀ b, S b → glob b = none := fun b hb => by
  cases hq : glob b with
  | none => rfl
  | some l => exact absurd (.inl ((amb3 b).2 (.inr hb))) (hR3.gl b l hq).1
 have hobn : Own ι3 (S3 1) bn := ⟨1, _, rfl, by simp [Body.alive], e1⟩
 have hgbn : glob bn = none := by
  cases hq : glob bn with
  | none => rfl
  | some l => exact absurd (.inr hobn) (hR3.gl bn l hq).1
 refine (Nr.nc _ fs (Nat.le_refl _) w3 x S 1 bn ty hok ht3 (fun b hb => ⟨(hS3 b hb).1, hgS b hb⟩) (Num.rel_glob hR3) hbx (fun hs => (hS3 bn hs).2 hobn) hgbn).mono ?_
 rintro e w4 ⟨⟨u, rfl⟩, ht4, hw4, hb4⟩
 refine ⟨u, rfl, ?_⟩
 have kw4 : KW ι3 w3 (S3 1) ⟨ι3.m, ι1.amb⟩ w4 := ⟨hw4.size, fun _ => rfl, fun b hb hm => ⟨hw4.blk b hb fun hs => hs.elim (fun hs => hm (.inl ((amb3 b).2 (.inr hs)))) (fun hs => hm (.inr (hs ▸ hobn))), fun h => h.elim (fun h => hm (.inl ((amb3 b).2 (.inl h)))) (fun h => hm (.inr h))⟩, hw4.shp⟩
 have hR4 : Rel ⟨ι3.m, ι1.amb⟩ w4 (S3 (numL fs 1).2) := hR3.kwbox (id0 := 1) kw4 rfl e1 hb4 (fun b hb hne => hw4.blk b (hR3.own_lt hb) fun hs => hs.elim (fun hs => (hS3 b hs).2 hb) hne) (fun b hb => ⟨Nat.lt_of_lt_of_le (hR3.amb b ((amb3 b).2 (.inl hb))) hw4.size, fun ho => hR3.dis b ho ((amb3 b).2 (.inl hb))⟩)
  (fun b l hb => ⟨hw4.blk b (hR3.gl b l hb).2.1 fun hs => hs.elim (fun hs => (by rw [hgS b hs] at hb; cases hb)) (fun hs => (by rw [hs, hgbn] at hb; cases hb)), fun h => (hR3.gl b l hb).1 (.inl ((amb3 b).2 (.inl h)))⟩)
 have hmut : ∀ b, Mut ⟨ι3.m, ι1.amb⟩ (S3 (numL fs 1).2) b → Mut ⟨ι3.m, ι1.amb⟩ (S3 1) b := fun b hm => hm.imp id fun h => (own_setb (ι := ⟨ι3.m, ι1.amb⟩) (st := S3 1) (id0 := 1) (o' := .box [ci (numL fs 1).2]) rfl (by simp [Body.alive]) (by simp [Body.alive]) b).1 h
 have hF3' : FRel 36 ⟨ι3.m, ι1.amb⟩ w4 (S3 (numL fs 1).2) a3 (B p [(7, .one (.pv (qOf fs v1))), (8, .one (.pt 1 0 0 0)), (19, .one (.pv (qOf fs v1)))]) := by
  have := hF3.kw kw4
  exact ⟨this.defers, this.size, fun s => (this.slot s).chg hmut (by simp) (fun _ => rfl)⟩
 have hput : ∀ av, putF 36 o19.dst av (B p [(7, .one (.pv (qOf fs v1))), (8, .one (.pt 1 0 0 0)), (19, .one (.pv (qOf fs v1)))]) = some ((20, av) :: B p [(7, .one (.pv (qOf fs v1))), (8, .one (.pt 1 0 0 0)), (19, .one (.pv (qOf fs v1)))]) := by intro av; kernel_rfl
 have hF4 := putF_rel (hput .j) hF3' (AVRel.j u)
 have h7 := pure_of (p := qOf fs v1) (cv_of (hF4.slot 7))
 have hF5 := hF4.tell (d := 7) (av := vl eField (numL fs 1).1) (by
  rw [Num.q_num (n := 1) hxp] at h7
  refine .one _ _ (.pv _ _ ((rel_q ht4 h7).pure fun b hb => ⟨Nat.lt_of_lt_of_le (hS3 b hb).1 hw4.size, fun h => ?_⟩))
  rcases hmut b h with h | h
  ·have := hR1.amb b h; have := (hS b hb).1; omega
  ·exact (hS3 b hb).2 h)
 have kk : Keeps (fixP 0 []) ι w (S2) ⟨ι3.m, ι1.amb⟩ w4 (S3 (numL fs 1).2) := by
  have kx := hx2.keeps ι1 (S2)
  refine ⟨hw4.os.trans (k3.os.trans (hx2.os.trans k1.os)), hw4.tape.trans (k3.tape.trans (hx2.tape.trans k1.tape)), hw4.output.trans (k3.output.trans (hx2.output.trans k1.output)), Nat.le_trans k1.size (Nat.le_trans hx2.size (Nat.le_trans k3.size hw4.size)), k1.amb, fun b hb hn => ?_, fun id hf hid => (by cases (show false = true from hf)), fun b c ty fz hb => ?_⟩
  ·obtain ⟨e1, n1⟩ := k1.blk b hb hn
   have hb1 : b < w1.heap.size := Nat.lt_of_lt_of_le hb k1.size
   have e2 := hx2.blk b hb1
   obtain ⟨e3, n3⟩ := k3.blk b (Nat.lt_of_lt_of_le hb1 hx2.size) n1
   have e4 := hw4.blk b (Nat.lt_of_lt_of_le hb1 (Nat.le_trans hx2.size k3.size)) fun hs => hs.elim (fun hs => by have := (hS b hs).1; omega) (fun hs => n3 (hs ▸ hobn))
   exact ⟨e4.trans (e3.trans (e2.trans e1)), fun ho => n3 ((own_setb (ι := ⟨ι3.m, ι1.amb⟩) (st := S3 1) (id0 := 1) (o' := .box [ci (numL fs 1).2]) rfl (by simp [Body.alive]) (by simp [Body.alive]) b).1 ho)⟩
  ·obtain ⟨c1, e1, s1⟩ := k1.shp b c ty fz hb
   obtain ⟨c2, e2, s2⟩ := kx.shp b c1 ty fz e1
   obtain ⟨c3, e3, s3⟩ := k3.shp b c2 ty fz e2
   obtain ⟨c4, e4, s4⟩ := hw4.shp b c3 ty fz e3
   exact ⟨c4, e4, by omega⟩
 have hend : l19.drop 2 = [] := by kernel_rfl
 rw [hend]
 have hF6 : FRel 36 ⟨ι3.m, ι1.amb⟩ w4 (S3 (numL fs 1).2) (a3.put o19.dst u) (B p [(7, vl eField (numL fs 1).1), (8, .one (.pt 1 0 0 0))]) := ⟨hF5.defers, hF5.size, fun s => by
  have := hF5.slot s
  by_cases e3 : s = 3
  ·subst e3; exact this
  by_cases e4 : s = 4
  ·subst e4; exact this
  by_cases e7 : s = 7
  ·subst e7; exact this
  by_cases e8 : s = 8
  ·subst e8; exact this
  have : lk (B p [(7, vl eField (numL fs 1).1), (8, .one (.pt 1 0 0 0))]) s = .j := by
   simp only [lk]
   rw [beq_false (Ne.symm e3), beq_false (Ne.symm e4), beq_false (Ne.symm e7), beq_false (Ne.symm e8)]
   rfl
  rw [this]
  exact .j _⟩
 show (C [1,1,1,1,1]).wp _ _ _ _
 exact Go.wp_mono (h _ w4 _ hR4 hF6) fun e a w h => h.trans kk
end Rr

def table_newList (p1 : List GField) : Option (List GField) := ift (Num.okB p1) (some (numL p1 1).1) none
def table_newNext (p1 : List GField) : Option Int := some (numL p1 1).2

theorem newList_some {β : Type} {fs : List GField} {f : List GField → Int → Option β} {r : β} (h : (bnd (table_newList fs) fun a => bnd (table_newNext fs) fun b => f a b) = some r) : Num.ok fs ∧ f (numL fs 1).1 (numL fs 1).2 = some r := by
 unfold table_newList table_newNext at h
 cases ho : Num.okB fs with
 | false => rw [ho] at h; cases h
 | true => rw [ho] at h; exact ⟨ho, h⟩

theorem uPair8 {β : Type} {r : β} {Q : QT} {an : List Nat} {fs : List GField} {p : List (List PV)} {f : List GField → Int → Option β}
  (k : GG Tryz.prog 40 0 [] an r Q (f (numL fs 1).1 (numL fs 1).2) ⟨[.c (cd Tryz.f8 [1,1,1,1])], Pr.B p [(7, vl eField (numL fs 1).1), (8, vi (numL fs 1).2)], Pr.S2, []⟩) :
  GG Tryz.prog 40 0 [] an r Q (bnd (table_newList fs) fun a => bnd (table_newNext fs) fun b => f a b) ⟨[.c (cd Tryz.f8 [1,1])], Pr.B p [(0, vl eField fs)], Pr.S2, []⟩ := ⟨fun h => by
 obtain ⟨h1, h2⟩ := newList_some h
 exact Pr.pair (Q := Q) h1 (k.go h2)⟩
theorem uPair9 {β : Type} {r : β} {Q : QT} {an : List Nat} {fs : List GField} {p : List (List PV)} {f : List GField → Int → Option β}
  (k : GG Tryz.prog 36 0 [] an r Q (f (numL fs 1).1 (numL fs 1).2) ⟨[.c (cd Tryz.f9 [1,1,1,1,1])], Rr.B p [(7, vl eField (numL fs 1).1), (8, .one (.pt 1 0 0 0))], Rr.S3 (numL fs 1).2, []⟩) :
  GG Tryz.prog 36 0 [] an r Q (bnd (table_newList fs) fun a => bnd (table_newNext fs) fun b => f a b) ⟨[.c (cd Tryz.f9 [1,1])], Rr.B p [(0, vl eField fs)], Rr.S2, []⟩ := ⟨fun h => by
 obtain ⟨h1, h2⟩ := newList_some h
 exact Rr.pair (Q := Q) h1 (k.go h2)⟩
end Go.SX
namespace Go.SX
open Go Go.Proofs
set_option linter.unusedVariables false
set_option maxRecDepth 100000

theorem run_eqNil {P : Program} {o : Oper} {t t' : TypeId} {x y : Operand} {a : Act} {w : World} {ad : Addr} {len cap : Nat} {e : TypeId} (hop : o.op = .binOp .eql t x y t') (e1 : a.eval x = .slice (some ad) len cap) (e2 : a.eval y = .slice none 0 0) (hu : P.underlying t = some (.slice e)) :
  (execOp a.eval o).run P w = .ok (.value (.bool false)) w := by
 simp [execOp, hop, e1, e2, eqGuard, binOp, run_equal_slice_nil w t e (some ad) len cap hu]

def isSlT (P : Program) (t : TypeId) : Bool := match P.underlying t with
 | some (.slice _) => true
 | _ => false
theorem slT {P : Program} {t : TypeId} (h : isSlT P t = true) : ∃ e, P.underlying t = some (.slice e) := by
 unfold isSlT at h
 split at h
 ·rename_i e he; exact ⟨e, he⟩
 ·cases h

namespace Cl
noncomputable abbrev C (p : List Nat) : Code := cd Tryz.f35 p
noncomputable abbrev l : List Oper := (regOps (C [1,0,0])).toList
theorem h1 : 1 < l.length := of_decide_eq_true (by kernel_rfl)
noncomputable abbrev o1 : Oper := l[1]'h1
theorem d1 : l.drop 1 = o1 :: l.drop 2 := List.drop_eq_getElem_cons _
theorem d2 : l.drop 2 = [] := by kernel_rfl
theorem p0 (a : Addr) (m : Nat) : XW Tryz.prog 8 0 [] (C [0]) (endK 8 0 .normal [(0, .one (.pv (.s (.slice (some a) 0 m))))] []) [(0, .one (.pv (.s (.slice (some a) 0 m))))] [] := ofGG (an := [5]) uJ0
theorem p1 (a : Addr) (m : Nat) : XO Tryz.prog 8 0 [] (regOps (C [1,0,0])) (l.take 1) (endK 8 0 .normal [(0, .one (.pv (.s (.slice (some a) 0 m)))), (3, .one (.pv (.s (.slice (some a) 0 m))))] []) [(0, .one (.pv (.s (.slice (some a) 0 m))))] [] := ofGGo (an := [5]) uJ0
theorem p2 : XW Tryz.prog 8 0 [] (C [1,0,1]) (endK 8 0 .normal [(0, vl eSpecField [])] []) [(0, vl eSpecField []), (4, vb false)] [] := ofGG (an := [5]) (uF uJ0)
theorem p3 : XW Tryz.prog 8 0 [] (C [1,1,0]) (endK 8 0 .normal [(2, vl eSpecField [])] []) [(0, vl eSpecField [])] [] :=
 ofGG (an := [5]) (uU (T := grd (([] : List GSpecField).length + ([] : List GSpecField).length ≤ 4294967296) (some ())) (by rw [grd, if_pos (by simp)]) (uAp eSpecField 0 [] (uKlj eSpecField (([] : List GSpecField) ++ []) 0 [2] uJ0)))

theorem nilC : CT Tryz.prog 35 [.sc (.slice none 0 0)] (some ([] : List GSpecField)) (vl eSpecField) := uFn 8 [5] Tryz.f35 fun r => (uT (uR .ret xF))
theorem consC (p1 : List GSpecField) : CT Tryz.prog 35 [vl eSpecField p1] (grd (p1 ≠ []) <| grd (([] : List GSpecField).length + p1.length ≤ 4294967296) <| some (([] : List GSpecField) ++ p1)) (vl eSpecField) :=
 uFn 8 [5] Tryz.f35 fun r => (uNe eSpecField (uF (uAp eSpecField 0 p1 (uKl eSpecField (([] : List GSpecField) ++ p1) 0 [2] (uR .ret xF)))))

theorem emptyC : PC Tryz.prog 35 [vl eSpecField []] (vl eSpecField []) := by
 intro ι w vs hR hA
 obtain ⟨x, rfl, hx⟩ := hA.one1
 have he : emptyV x := rel_emptyV (pure_of (p := .ro []) (cv_of hx))
 rcases he with rfl | ⟨a, m, rfl⟩
 ·refine (nilC [] rfl ι w _ hR ⟨rfl, fun j y z h1 h2 => ?_⟩)
  match j, h1, h2 with
  | 0, h1, h2 => simp at h1 h2; subst h1; subst h2; exact .one _ _ (.pv _ _ (.s _ rfl))
  | j + 1, h1, h2 => simp at h1
 ·have hA2 : ARel ι w [] [.slice (some a) 0 m] [.one (.pv (.s (.slice (some a) 0 m)))] := ⟨rfl, fun j y z h1 h2 => by
   match j, h1, h2 with
   | 0, h1, h2 => simp at h1 h2; subst h1; subst h2; exact .one _ _ (.pv _ _ (.s _ rfl))
   | j + 1, h1, h2 => simp at h1⟩
  refine rawCalls (f := 35) (fn := Tryz.f35) (c := C []) (n := 8) (by kernel_rfl) (by kernel_rfl) (by kernel_rfl) (by simp) hA2 fun a1 hF => ?_
  have hc : C [] = .seq (C [0]) (.seq (.seq (C [1,0,0]) (C [1,0,1])) (.seq (C [1,1,0]) .ret)) := by kernel_rfl
  refine wp_of_eq hc ?_
  have hA0 : At 8 (fun ι' w' st' => Keeps (fixP 0 []) ι w [] ι' w' st') [(0, .one (.pv (.s (.slice (some a) 0 m))))] [] a1 w := ⟨ι, hR, hF, .refl⟩
  refine Go.wp_seq (Go.wp_mono (hA0.seg Keeps.stab (p0 a m)) ?_)
  rintro e a2 w2 ⟨rfl, hA2⟩
  refine Go.wp_seq (Go.wp_seq (wp_reg (by kernel_rfl) ?_))
  refine wp_cut 1 Keeps.stab (p1 a m) hA2 fun a2 w2 hA2 => ?_
  obtain ⟨ι2, hR2, hF2, k2⟩ := hA2
  rw [d1]
  have hw := guard_sound (ops := regOps (C [1,0,0])) (o := o1) (g := true) (by kernel_rfl) hF2
  refine wpList_step fun K hK => ?_
  rw [if_pos hw]
  have hop : o1.op = .binOp .eql 34 (.tmp 3) (.const (.slice none 0 0)) 34 := by kernel_rfl
  have hdst : o1.dst = some 4 := by kernel_rfl
  have e1 : a2.eval (.tmp 3) = .slice (some a) 0 m := scalar_of (rv_rel hF2 (.tmp 3))
  have e2 : a2.eval (.const (.slice none 0 0)) = .slice none 0 0 := rfl
  obtain ⟨e, hu⟩ := slT (P := Tryz.prog) (t := 34) (by kernel_rfl)
  have hrun : (execOp a2.eval o1).run Tryz.prog w2 = .ok (.value (.bool false)) w2 := run_eqNil hop e1 e2 hu
  simp only [Oper.wp, hrun, Oper.upon]
  refine hK _ _ ?_
  rw [d2]
  have hput : putF 8 o1.dst (vb false) [(0, .one (.pv (.s (.slice (some a) 0 m)))), (3, .one (.pv (.s (.slice (some a) 0 m))))] = some [(4, vb false), (0, .one (.pv (.s (.slice (some a) 0 m)))), (3, .one (.pv (.s (.slice (some a) 0 m))))] := by kernel_rfl
  have hF3 := putF_rel hput hF2 (AVRel.one (ι := ι2) (w := w2) (st := []) (.bool false) (.pv (.s (.bool false))) (.pv _ _ (.s _ rfl)))
  have h0 := scalar_of (hF3.slot 0)
  have hF4 := hF3.tell (d := 0) (av := vl eSpecField []) (by
   rw [h0]
   exact .one _ _ (.pv _ _ (emptyV.rel (.inr ⟨a, m, rfl⟩))))
  have hF5 : FRel 8 ι2 w2 [] (a2.put o1.dst (.bool false)) [(0, vl eSpecField []), (4, vb false)] := ⟨hF4.defers, hF4.size, fun s => by
   have := hF4.slot s
   by_cases e0 : s = 0
   ·subst e0; exact this
   by_cases e4 : s = 4
   ·subst e4; exact this
   have hl : lk [(0, vl eSpecField []), (4, vb false)] s = .j := by
    simp only [lk]
    rw [beq_false (Ne.symm e0), beq_false (Ne.symm e4)]
    rfl
   rw [hl]
   exact .j _⟩
  show (C [1,0,1]).wp _ _ _ _
  have hA3 : At 8 (fun ι' w' st' => Keeps (fixP 0 []) ι w [] ι' w' st') [(0, vl eSpecField []), (4, vb false)] [] (a2.put o1.dst (.bool false)) w2 := ⟨ι2, hR2, hF5, k2⟩
  refine Go.wp_mono (hA3.seg Keeps.stab p2) ?_
  rintro e a3 w3 ⟨rfl, hA4⟩
  show (Code.seq (C [1,1,0]) .ret).wp _ _ _ _
  refine Go.wp_seq (Go.wp_mono (hA4.seg Keeps.stab p3) ?_)
  rintro e a4 w4 ⟨rfl, ι4, hR4, hF6, k4⟩
  refine Go.wp_ret ⟨.inr rfl, ι4, _, _, [], _, _, (by kernel_rfl : resAll Tryz.prog [(2, vl eSpecField [])] [] Tryz.f35.results.toList [] = some ([vl eSpecField []], [])), trivial, hR4, hF6, fun x hx => ?_⟩
  exact ⟨x, _, [], ι4, rfl, ⟨rfl, rfl⟩, hR4, hx, k4.os, k4.tape, k4.output, k4.size, k4.amb, k4.blk, fun id _ h => by simp at h, k4.shp⟩
end Cl

def slices_CloneSF (p1 : List GSpecField) : Option (List GSpecField) := grd (p1.length ≤ 4294967296) (some p1)
theorem c_slices_CloneSF (p1 : List GSpecField) : CT Tryz.prog 35 [vl eSpecField p1] (slices_CloneSF p1) (vl eSpecField) := by
 intro r h
 unfold slices_CloneSF at h
 obtain ⟨hl, h⟩ := grd_some h
 cases h
 by_cases hne : p1 = []
 ·subst hne; exact Cl.emptyC
 ·exact Cl.consC p1 p1 (by rw [grd, if_pos hne, grd, if_pos (by simpa using hl)]; rfl)
end Go.SX
