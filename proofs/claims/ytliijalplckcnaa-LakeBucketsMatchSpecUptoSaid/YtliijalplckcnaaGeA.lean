/- Contracts of the library at this program: strings.IndexByte, bytes.Clone, maps.Keys, slices.Sorted, by the contracts of the shelf. Printed by a program: what the functions compute, and the proofs of their contracts. -/
import Derived.Test.YtliijalplckcnaaProg
import Derived.Shelf.Small.Strs
import Derived.Shelf.Bytes.SlClone
import Derived.Shelf.SlIter.Nil
import Derived.Shelf.SortM.Plain
import Derived.Shelf.SortM.SortNone
import Derived.Test.YtliijalplckcnaaChecked
import Derived.Test.YtliijalplckcnaaSxD
set_option linter.unusedVariables false
set_option linter.unusedSimpArgs false
set_option linter.unnecessarySimpa false
namespace Go.Proofs.Ytliijalplckcnaa
open Go Go.SX Go.Shelf Go.Lib Go.Proofs Go.RowKit Go.Maps Go.Sort
set_option linter.unusedVariables false
set_option linter.unusedSimpArgs false
def rkeys27 : Ren where
 f := fun n => if n = 7 then 27 else if n = 10 then 32 else n
 t := fun n => if n = 23 then 42 else if n = 26 then 9 else if n = 3 then 27 else if n = 28 then 61 else if n = 0 then 0 else if n = 27 then 60 else if n = 33 then 45 else if n = 4 then 4 else n
 g := fun n => n

def rsorted26 : Ren where
 f := fun n => if n = 6 then 26 else if n = 8 then 30 else if n = 9 then 31 else if n = 11 then 36 else if n = 13 then 38 else if n = 12 then 37 else if n = 23 then 53 else if n = 24 then 54 else if n = 14 then 44 else if n = 15 then 45 else if n = 16 then 46 else if n = 17 then 47 else if n = 18 then 48 else if n = 19 then 49 else if n = 20 then 50 else if n = 21 then 51 else if n = 22 then 52 else if n = 25 then 57 else if n = 26 then 58 else if n = 27 then 59 else if n = 28 then 60 else if n = 29 then 61 else if n = 30 then 62 else if n = 31 then 64 else n
 t := fun n => if n = 26 then 9 else if n = 28 then 61 else if n = 24 then 31 else if n = 0 then 0 else if n = 3 then 3 else if n = 37 then 70 else if n = 48 then 85 else if n = 50 then 87 else if n = 4 then 4 else if n = 40 then 77 else if n = 39 then 76 else if n = 45 then 82 else if n = 5 then 5 else if n = 9 then 9 else if n = 51 then 89 else if n = 55 then 93 else if n = 57 then 95 else if n = 58 then 96 else if n = 33 then 45 else n
 g := fun n => n

def rsort31 : Ren where
 f := fun n => if n = 6 then 31 else if n = 8 then 38 else if n = 9 then 37 else if n = 19 then 53 else if n = 20 then 54 else if n = 21 then 44 else if n = 22 then 45 else if n = 23 then 46 else if n = 24 then 47 else if n = 25 then 48 else if n = 26 then 49 else if n = 27 then 50 else if n = 28 then 51 else if n = 29 then 52 else if n = 36 then 57 else if n = 31 then 58 else if n = 32 then 59 else if n = 37 then 60 else if n = 38 then 61 else if n = 39 then 62 else if n = 41 then 64 else n
 t := fun n => if n = 27 then 31 else if n = 29 then 9 else if n = 3 then 3 else if n = 32 then 70 else if n = 26 then 31 else if n = 0 then 0 else if n = 44 then 85 else if n = 46 then 87 else if n = 4 then 4 else if n = 36 then 77 else if n = 35 then 76 else if n = 41 then 82 else if n = 5 then 5 else if n = 9 then 9 else if n = 53 then 89 else if n = 57 then 93 else if n = 63 then 95 else if n = 64 then 96 else n
 g := fun n => n

def rclone4 : Ren where
 f := fun n => if n = 4 then 20 else n
 t := fun n => if n = 22 then 27 else if n = 4 then 4 else if n = 5 then 5 else n
 g := fun n => n

def rib137 : Ren where
 f := fun n => if n = 137 then 40 else if n = 217 then 56 else if n = 266 then 63 else n
 t := fun n => if n = 9 then 9 else if n = 5 then 5 else if n = 3 then 3 else n
 g := fun n => n

def nmAt (P : Program) (f : FuncId) : String := ((P.funcs[f]?).map (·.name)).getD default
theorem bearsAt {P : Program} {f : FuncId} {B : Func} (h1 : (nmAt P f == "runtime.NumGoroutine") = false) (h2 : P.funcs[f]? = some { B with name := nmAt P f }) : Bears P f B := ⟨_, h1, h2⟩

set_option maxRecDepth 100000 in
theorem lib137 : Lays.n137 Try.prog rib137 := by constructor <;> intros <;> kernel_rfl
set_option maxRecDepth 100000 in
theorem lclone : SlLaysK.n4 Try.prog rclone4 := by constructor <;> intros <;> kernel_rfl
set_option maxRecDepth 100000 in
theorem lkeys : SlLaysZ.n7 Try.prog rkeys27 := by constructor <;> intros <;> first | kernel_rfl | exact bearsAt (by kernel_rfl) (by kernel_rfl)
set_option maxRecDepth 100000 in
theorem lsorted : SlLaysZ.n6 Try.prog rsorted26 := by constructor <;> intros <;> first | kernel_rfl | exact bearsAt (by kernel_rfl) (by kernel_rfl)
set_option maxRecDepth 100000 in
theorem lsort : SlLaysM.n6 Try.prog rsort31 := by constructor <;> intros <;> first | kernel_rfl | exact bearsAt (by kernel_rfl) (by kernel_rfl)

def strings_IndexByte (p1 : ByteArray) (p2 : Int) : Option Int := some (Lib.indexByte p1.data.toList p2.toNat.toUInt8)
theorem c_strings_IndexByte (p1 : ByteArray) (p2 : Int) : CT Try.prog 40 [vs p1, vk .u8 p2] (strings_IndexByte p1 p2) vi := by
 intro r h
 obtain rfl := Option.some.inj h
 exact PC.below (us := [.string p1, .int .u8 p2]) rfl fun w _ => (Any.strings_IndexByte lib137 p1 p2 w).mono (by rintro e w' ⟨rfl, rfl⟩; exact ⟨rfl, .refl _ _⟩)

theorem arg1 {ι : IM} {w : World} {st : St} {vs : List Value} {a : AV} (h : ARel ι w st vs [a]) : ∃ x, vs = [x] ∧ AVRel ι w st x a := by
 obtain ⟨hl, hv⟩ := h
 match vs, hl with
 | [x], _ => exact ⟨x, rfl, hv 0 x a rfl rfl⟩

def bytes_Clone (p1 : List Int) : Option (List Int) := grd (p1.length ≤ 140737488355328) <| some p1

theorem u8_els (p : List Int) (i : Nat) : ((eK .u8).els p)[i]? = (p[i]?).map fun x => [.s (.int .u8 x)] := by
 show (p.map fun x => [PV.s (.int .u8 x)])[i]? = _
 rw [List.getElem?_map]

theorem c_bytes_Clone (p1 : List Int) : CT Try.prog 20 [vl (eK .u8) p1] (bytes_Clone p1) (vl (eK .u8)) := by
 intro r h
 unfold bytes_Clone at h
 obtain ⟨hg, h⟩ := grd_some h
 obtain rfl := Option.some.inj h
 intro ι w vs hR hA
 obtain ⟨x, rfl, hx⟩ := arg1 hA
 have hlen : ((eK .u8).els p1).length = p1.length := (eK .u8).len p1
 have hx' : PRel (Mut ι []) w x (.ro ((eK .u8).els p1)) := by
  have := cv_of hx
  generalize hcv : CV.pv (PV.ro ((eK .u8).els p1)) = cv at this
  cases this with
  | pv _ _ hp => cases hcv; exact hp
  | _ => cases hcv
 generalize hels : (eK .u8).els p1 = els at hx' hlen
 generalize hpv : PV.ro els = pv at hx'
 cases hx' with
 | nl =>
  cases hpv
  refine (Any.bytes_Clone_nil lclone 0 0 w).mono ?_
  rintro e w' ⟨rfl, rfl⟩
  exact ⟨_, _, _, ι, rfl, ⟨rfl, rfl⟩, hR, .one _ _ (.pv _ _ (by
   show PRel _ _ _ (.ro ((eK .u8).els p1))
   rw [hels]; exact .nl)), Keeps.refl⟩
 | ro a cap sz _ vf hcap hsz hb hc hv =>
  cases hpv
  have hsz1 : ∀ i, i < p1.length → sz = 1 := fun i hi => by
   have h1 := hsz (els[i]'(by omega)) (List.getElem_mem _)
   have h2 := u8_els p1 i
   rw [hels, List.getElem?_eq_getElem (show i < els.length by omega), List.getElem?_eq_getElem hi] at h2
   simp only [Option.map_some, Option.some.injEq] at h2
   rw [h2] at h1
   simpa using h1.symm
  have hcell : ∀ i, i < p1.length → w.cell? (a.add i) = some (.int .u8 (p1.getD i 0)) := fun i hi => by
   have h2 := u8_els p1 i
   rw [hels, List.getElem?_eq_getElem hi] at h2
   have h3 := hc i _ 0 _ h2 rfl
   have h4 := hv i _ 0 _ h2 rfl
   rw [hsz1 i hi] at h3
   have h5 : vf i 0 = .int .u8 p1[i] := by
    generalize vf i 0 = z at h4
    cases h4 with
    | s v h => rfl
   rw [h5] at h3
   simpa [List.getD, hi] using h3
  rw [hlen]
  refine (Any.bytes_Clone_at lclone a p1.length cap p1 w rfl hg hcell).mono ?_
  rintro e w' ⟨v', rfl, hown, hne, hbel⟩
  have hxt : Ext w w' := ⟨hbel.os, hbel.tape, hbel.output, hbel.size, fun b hlt => hbel.block b hlt⟩
  refine ⟨v', _, [], ι, rfl, ⟨rfl, rfl⟩, hR.ext hxt, .one _ _ (.pv _ _ (ro_row hR hbel.size hown ((eK .u8).len p1) fun i x hi => ?_)), (hxt.keeps ι []).weaken (fun _ _ => trivial)⟩
  rw [u8_els, Option.map_eq_some_iff] at hi
  obtain ⟨y, hy, rfl⟩ := hi
  exact ⟨_, .int .u8 y, rfl, by rw [List.getElem?_map, hy]; rfl, fun μ => .s _ rfl⟩
 | _ => cases hpv

/-! ### the keys of a map, sorted -/
theorem c_maps_Keys (E : List Int → PV) (m : List (ByteArray × List Int)) : CX Try.prog 27 [.one (.mp 0)] [mB E m] [] (some ()) (fun _ => .one (.fn 32 [.pt 1 0 0 0])) (fun _ => [mB E m, .box [.mp 0]]) := by
 intro r h
 intro ι w vs hR hA
 obtain ⟨x, rfl, hx⟩ := arg1 hA
 have hx := cv_of hx
 generalize hcv : CV.mp 0 = cv at hx
 cases hx with
 | mp id b hid hb =>
  cases hcv
  refine (callsIn_wide.1 (AnyZ.keys_in lkeys Fence.wide 5 trivial rfl (some b) w)).mono ?_
  rintro e w' ⟨rfl, rfl⟩
  have hxt : Ext w (w.alloc (.cells #[.map (some b)] (rkeys27.t 23))) := Ext.alloc w _
  have hhp : (w.alloc (.cells #[.map (some b)] (rkeys27.t 23))).heap[w.heap.size]? = some (.cells #[.map (some b)] (rkeys27.t 23)) := by
   show (w.heap.push _)[w.heap.size]? = _
   simp
  have hadd := hR.add hxt (body := .box [.mp 0]) (b := some w.heap.size) (fun x e => by cases e; exact Nat.le_refl _) ⟨w.heap.size, [.map (some b)], rkeys27.t 23, by simp [IM.add], hhp, rfl, fun j v c h1 h2 => by
   match j with
   | 0 =>
    simp at h1 h2
    subst h1; subst h2
    exact .mp 0 b (by simp) (by simp [IM.add, hb])
   | j + 1 => simp at h1⟩
  have hk := keeps_add (ι := ι) (st := [mB E m]) hxt (.box [.mp 0]) (some w.heap.size) (fun x e => by cases e; exact Nat.le_refl _)
  refine ⟨_, _, _, _, rfl, ⟨rfl, rfl⟩, hadd, .one _ _ (.fn 32 [.pt 1 0 0 0] [.pointer (some ⟨w.heap.size, 0, none⟩)] rfl fun j c v h1 h2 => ?_), hk.weaken (fun _ _ => trivial)⟩
  match j with
  | 0 =>
   simp at h1 h2
   subst h1; subst h2
   exact .pt 1 0 0 0 w.heap.size (by simp) (by simp [IM.add])
  | j + 1 => simp at h1
 | _ => cases hcv

theorem sortsAt (m : Nat) : AnyZ.SortsIn Try.prog rsorted26 Fence.wide m :=
 ⟨fun blk off cap ss W hH hblk hsz => callsIn_wide.2 (AnyM.slices_Sort_string lsort blk off cap ss W hH hblk hsz),
  fun p cap W => callsIn_wide.2 (AnyM.slices_Sort_string_none lsort p cap W)⟩

def sorted_keys (m : List (ByteArray × List Int)) : Option (List ByteArray) := grd (m.length ≤ 8796093022208) <| grd (∀ x ∈ m, x.1.size ≤ maxLen) <| some (((m.map fun x => x.1.data.toList).mergeSort leB).map fun l => ByteArray.mk l.toArray)

theorem eS_els (p : List ByteArray) (i : Nat) : (eS.els p)[i]? = (p[i]?).map fun x => [.s (.string x)] := by
 show (p.map fun x => [PV.s (.string x)])[i]? = _
 rw [List.getElem?_map]

theorem c_sorted_keys (E : List Int → PV) (m : List (ByteArray × List Int)) : CM Try.prog 26 [.one (.fn 32 [.pt 1 0 0 0])] [mB E m, .box [.mp 0]] (sorted_keys m) (vl eS) (fun _ => [mB E m, .box [.mp 0]]) := by
 intro r h
 unfold sorted_keys at h
 obtain ⟨hg1, h⟩ := grd_some h
 obtain ⟨hg2, h⟩ := grd_some h
 obtain rfl := Option.some.inj h
 intro ι w vs hR hA
 obtain ⟨x, rfl, hx⟩ := arg1 hA
 have hx := cv_of hx
 obtain ⟨bm, om, vsm, e1, e2, ⟨ms, clock, rfl, hst, hkeys, hvals⟩, _⟩ := hR.obj 0 (mB E m) rfl
 obtain ⟨bb, vb, ty, e3, e4, hvb⟩ := hR.obj 1 (.box [.mp 0]) rfl
 have hmv : vb = [.map (some bm)] := by
  obtain ⟨hl, hv⟩ := hvb
  match vb, hl with
  | [u], _ =>
   have h0 := hv 0 u _ rfl rfl
   generalize hcv : CV.mp 0 = cv at h0
   cases h0 with
   | mp id b hid hb => cases hcv; rw [e1] at hb; cases hb; rfl
   | _ => cases hcv
 subst hmv
 have hfx : x = .func (.func 32) #[] #[.pointer (some ⟨bb, 0, none⟩)] := by
  generalize hcv : CV.fn 32 [.pt 1 0 0 0] = cv at hx
  cases hx with
  | fn f caps vs hl hv =>
   cases hcv
   match vs, hl with
   | [u], _ =>
    have h0 := hv 0 _ u rfl rfl
    generalize hcv : CV.pt 1 0 0 0 = cv at h0
    cases h0 with
    | pt id sz i off b hid hb => cases hcv; rw [e3] at hb; cases hb; rfl
    | _ => cases hcv
  | _ => cases hcv
 subst hfx
 have hkey : ∀ x ∈ ms.toList, ∃ s : ByteArray, x.key = .string s ∧ s.size ≤ maxLen := fun x hx => by
  have : x.key ∈ (m.map (·.1)).map Value.string := by rw [← hkeys]; exact List.mem_map_of_mem hx
  obtain ⟨s, hs, e⟩ := List.mem_map.1 this
  obtain ⟨y, hy, rfl⟩ := List.mem_map.1 hs
  exact ⟨_, e.symm, hg2 y hy⟩
 have hu9 : Try.prog.underlying 9 = some .string := by kernel_rfl
 have hko : ∀ s : ByteArray, s.size ≤ maxLen → keyOf Try.prog 9 (.string s) = some (.string s.data.toList) := fun s hs => by simp [keyOf, hu9, mapKey, hs]
 have hms : ms.size = m.length := by
  have := congrArg List.length hkeys
  simpa using this
 let R : Value → Option (DataW Unit × List MemPlace) := fun _ => some (.nil, [])
 have hrd : ∀ x ∈ ms.toList, ∀ s : ByteArray, x.key = .string s → s.size ≤ maxLen → WideElems.rd Try.prog 9 R x = some (.string s.data.toList, .nil) := fun x hx s e hs => by
  simp [WideElems.rd, e, hko s hs, R]
 have hfit : WideElems.Fit Try.prog 9 R ms clock := ⟨by rw [hms]; unfold maxLen; omega, hst, fun x hx => by
  obtain ⟨s, e, hs⟩ := hkey x hx
  exact ⟨_, hrd x hx s e hs⟩⟩
 have hown := World.ownsMap_of_fit (w := w) (R := R) e2 hfit (fun _ _ _ h => h)
 generalize hD : (DataW.map ((ms.toList.map (WideElems.rg Try.prog 9 R)).foldr DataW.insert []) : DataW Unit) = D at hown
 have hsz : Maps.size D = m.length := by
  rw [← hD, ← hms]
  exact length_read ms
 have hperm : (strKeys D).Perm (m.map fun x => x.1.data.toList) := by
  rw [← hD]
  show (((ms.toList.map (WideElems.rg Try.prog 9 R)).foldr DataW.insert []).map fun p => strOf p.1).Perm _
  refine ((Go.WideShapes.sorted_perm _).map _).trans ?_
  rw [List.map_map]
  have : ms.toList.map ((fun p : Lit × DataW Unit => strOf p.1) ∘ WideElems.rg Try.prog 9 R) = m.map fun x => x.1.data.toList := by
   have h1 : ms.toList.map ((fun p : Lit × DataW Unit => strOf p.1) ∘ WideElems.rg Try.prog 9 R) = (ms.toList.map (·.key)).map (fun v => match v with | .string s => s.data.toList | _ => []) := by
    rw [List.map_map]
    refine List.map_congr_left fun x hx => ?_
    obtain ⟨s, e, hs⟩ := hkey x hx
    simp only [Function.comp, WideElems.rg_of (hrd x hx s e hs), e]
    rfl
   rw [h1, hkeys]
   simp [List.map_map, Function.comp]
  rw [this]
 have hlt : bb < w.heap.size := lt_of_some e4
 have hseq : SeqGives Fence.wide 2 Try.prog 32 #[.pointer (some ⟨bb, 0, none⟩)] encStr (fun ss => ss.Perm (strKeys D)) (Maps.size D) w :=
  AnyZ.keys_gives (ρ := rkeys27) { lkeys with } Fence.wide _ trivial rfl (by omega) bb bm _ D w hlt (by simp [World.cell?, e4]) hown
 have hcall := callsIn_wide.1 (AnyZ.sorted_in lsorted Fence.wide 5 trivial trivial trivial trivial rfl (by omega) (sortsAt _) (enters_of Try.func31 (by kernel_rfl) rfl) 32 #[.pointer (some ⟨bb, 0, none⟩)] trivial (enters_of Try.func32 (by kernel_rfl) rfl) _ _ (by rw [hsz]; unfold maxLen; omega) (by rw [hsz]; omega) w hseq)
 refine hcall.mono ?_
 rintro e w' ⟨v, ss, rfl, hS, hrow, _, hbel⟩
 have hsort : ss.mergeSort leB = (m.map fun x => x.1.data.toList).mergeSort leB := mergeSort_of_perm (hS.trans hperm)
 have hxt : Ext w w' := ⟨hbel.os, hbel.tape, hbel.output, hbel.size, fun b hlt => hbel.block b hlt⟩
 refine ⟨v, _, _, ι, rfl, ⟨rfl, rfl⟩, hR.ext hxt, .one _ _ (.pv _ _ (ro_row hR hbel.size hrow ?_ fun i x hi => ?_)), (hxt.keeps ι _).weaken (fun _ _ => trivial)⟩
 ·rw [eS.len, List.length_map, List.length_mergeSort, List.length_map]
  have := (hS.trans hperm).length_eq
  simpa using this.symm
 ·rw [eS_els, List.getElem?_map, Option.map_map, Option.map_eq_some_iff] at hi
  obtain ⟨y, hy, rfl⟩ := hi
  refine ⟨_, encStr y, rfl, ?_, fun μ => .s _ rfl⟩
  have : ss.mergeSort (fun x y => decide (x ≤ y)) = (m.map fun x => x.1.data.toList).mergeSort leB := hsort
  rw [this, List.getElem?_map, hy]; rfl
end Go.Proofs.Ytliijalplckcnaa
namespace Go.Proofs.Ytliijalplckcnaa
open Go.SX Go
set_option linter.unusedVariables false
set_option linter.unusedSimpArgs false
set_option maxRecDepth 100000
set_option maxHeartbeats 8000000

def lake_NewBucket : Option Unit :=
    some ()


theorem c_lake_NewBucket : CX Try.prog 4 [] [] [] (lake_NewBucket) (fun r => .one (.pt 1 0 0 0)) (fun r => [mB (fun b : List Int => PV.ro ((eK .u8).els b)) [], .box [.mp 0, cst ByteArray.empty]]) :=
  uFnX 0 2 4 [3] Try.f4 fun r => (uEm (fun b : List Int => PV.ro ((eK .u8).els b)) (uR .ret xFM))

def unicode_utf8_ValidRune_j2 (x2 : Bool) : Option Bool :=
    ift x2
      (some true)
      (some false)

def unicode_utf8_ValidRune_j1 (p1 : Int) (x1 : Bool) : Option Bool :=
    ift x1
      (some true)
      (ift (decide ((57343 : Int) < p1))
         (unicode_utf8_ValidRune_j2 (decide (p1 ≤ (1114111 : Int))))
         (unicode_utf8_ValidRune_j2 false))

def unicode_utf8_ValidRune (p1 : Int) : Option Bool :=
    ift (decide ((0 : Int) ≤ p1))
      (unicode_utf8_ValidRune_j1 p1 (decide (p1 < (55296 : Int))))
      (unicode_utf8_ValidRune_j1 p1 false)


theorem c_unicode_utf8_ValidRune (p1 : Int) : CT Try.prog 41 [vk .i32 p1] (unicode_utf8_ValidRune p1) vb :=
  uFn 17 [] Try.f41 fun r => (uQ (kS Try.f41 [1,0,0,0] 3) fun K3 hK3 => have hJ1 : ∀ (x1 : Bool), unicode_utf8_ValidRune_j1 p1 x1 = some r → K3.p [(0, vk .i32 p1), (3, vb x1)] [] := fun x1 h => hK3 h (uC (uR .ret xF) (uQ (kS Try.f41 [1,0,0,1,1,0] 3) fun K7 hK7 => have hJ2 : ∀ (x2 : Bool), unicode_utf8_ValidRune_j2 x2 = some r → K7.p [(10, vb x2)] [] := fun x2 h => hK7 h (uC (uR .ret xF) (uR .ret xF)); (uC (uJ (hJ2 (decide (p1 ≤ (1114111 : Int))))) (uJ (hJ2 false))))); (uC (uJ (hJ1 (decide (p1 < (55296 : Int))))) (uJ (hJ1 false))))

def strings_IndexRune_j2 : Option Int :=
    some (-1 : Int)

def strings_IndexRune_l1 (p1 : ByteArray) : Nat → Nat → Option Int
  | 0, _ => none
  | k1 + 1, z1 =>
    ift (decide (z1 < p1.size))
      (ift (Int.ofNat (Utf8.decode p1 z1).1 == (65533 : Int))
         (some (Int.ofNat z1))
         ((strings_IndexRune_l1 p1 k1) (z1 + (Utf8.decode p1 z1).2)))
      (strings_IndexRune_j2)

def strings_IndexRune_j4 (p2 : Int) (x2 : Int) : Option Int :=
    bnd (some (IntKind.i64.wrap (x2 - (IntKind.i64.wrap (((Utf8.encode p2).size : Int) - (1 : Int)))))) fun y9 =>
    some y9

def strings_IndexRune_l3 (p1 : ByteArray) (p2 : Int) (x2 : Int) : Nat → Int → Option Int
  | 0, _ => none
  | k3 + 1, x3 =>
    ift (decide (x3 < ((Utf8.encode p2).size : Int)))
      (grd (0 ≤ (IntKind.i64.wrap (x2 - x3)) ∧ (IntKind.i64.wrap (x2 - x3)) < (p1.size : Int)) <|
       bnd (some ((p1.data.toList.getD (IntKind.i64.wrap (x2 - x3)).toNat 0).toNat : Int)) fun y7 =>
       bnd (some (IntKind.i64.wrap ((IntKind.i64.wrap (((Utf8.encode p2).size : Int) - (1 : Int))) - x3))) fun y8 =>
       grd (0 ≤ y8 ∧ y8 < ((Utf8.encode p2).size : Int)) <|
       ift (y7 != (((Utf8.encode p2).data.toList.getD y8.toNat 0).toNat : Int))
         (none)
         ((strings_IndexRune_l3 p1 p2 x2 k3) (IntKind.i64.wrap (x3 + (1 : Int)))))
      (strings_IndexRune_j4 p2 x2)

def strings_IndexRune_j3 (p1 : ByteArray) (p2 : Int) (x2 : Int) : Option Int :=
    strings_IndexRune_l3 p1 p2 x2 BIG (1 : Int)

def strings_IndexRune_j5 : Option Int :=
    some (-1 : Int)

def strings_IndexRune_l2 (p1 : ByteArray) (p2 : Int) : Nat → Option Int
  | 0 => none
  | k2 + 1 =>
    bnd (some (decide ((IntKind.i64.wrap (((Utf8.encode p2).size : Int) - (1 : Int))) < (p1.size : Int)))) fun y1 =>
    ift y1
      (grd (0 ≤ (IntKind.i64.wrap (((Utf8.encode p2).size : Int) - (1 : Int))) ∧ (IntKind.i64.wrap (((Utf8.encode p2).size : Int) - (1 : Int))) < (p1.size : Int)) <|
       bnd (some ((p1.data.toList.getD (IntKind.i64.wrap (((Utf8.encode p2).size : Int) - (1 : Int))).toNat 0).toNat : Int)) fun y2 =>
       grd (0 ≤ (IntKind.i64.wrap (((Utf8.encode p2).size : Int) - (1 : Int))) ∧ (IntKind.i64.wrap (((Utf8.encode p2).size : Int) - (1 : Int))) < ((Utf8.encode p2).size : Int)) <|
       bnd (some (((Utf8.encode p2).data.toList.getD (IntKind.i64.wrap (((Utf8.encode p2).size : Int) - (1 : Int))).toNat 0).toNat : Int)) fun y3 =>
       ift (y2 != y3)
         (bnd (some (IntKind.i64.wrap ((IntKind.i64.wrap (((Utf8.encode p2).size : Int) - (1 : Int))) + (1 : Int)))) fun y4 =>
          grd (0 ≤ y4 ∧ y4 ≤ (p1.size : Int) ∧ (p1.size : Int) ≤ (p1.size : Int)) <|
          grd (0 ≤ (IntKind.i64.wrap (((Utf8.encode p2).size : Int) - (1 : Int))) ∧ (IntKind.i64.wrap (((Utf8.encode p2).size : Int) - (1 : Int))) < ((Utf8.encode p2).size : Int)) <|
          bnd (some (((Utf8.encode p2).data.toList.getD (IntKind.i64.wrap (((Utf8.encode p2).size : Int) - (1 : Int))).toNat 0).toNat : Int)) fun y5 =>
          bnd (strings_IndexByte (p1.extract y4.toNat (p1.size : Int).toNat) y5) fun r3 =>
          ift (decide (r3 < (0 : Int)))
            (some (-1 : Int))
            (bnd (some (IntKind.i64.wrap ((IntKind.i64.wrap (((Utf8.encode p2).size : Int) - (1 : Int))) + (IntKind.i64.wrap (r3 + (1 : Int)))))) fun y6 =>
             strings_IndexRune_j3 p1 p2 y6))
         (strings_IndexRune_j3 p1 p2 (IntKind.i64.wrap (((Utf8.encode p2).size : Int) - (1 : Int)))))
      (strings_IndexRune_j5)

def strings_IndexRune_j1 (p1 : ByteArray) (p2 : Int) (x1 : Bool) : Option Int :=
    ift x1
      (bnd (strings_IndexByte p1 (IntKind.u8.wrap p2)) fun r1 =>
       some r1)
      (ift (p2 == (65533 : Int))
         (strings_IndexRune_l1 p1 BIG 0)
         (bnd (unicode_utf8_ValidRune p2) fun r2 =>
          ift (!r2)
            (some (-1 : Int))
            (strings_IndexRune_l2 p1 p2 BIG)))

def strings_IndexRune (p1 : ByteArray) (p2 : Int) : Option Int :=
    ift (decide ((0 : Int) ≤ p2))
      (strings_IndexRune_j1 p1 p2 (decide (p2 < (128 : Int))))
      (strings_IndexRune_j1 p1 p2 false)


theorem c_strings_IndexRune (p1 : ByteArray) (p2 : Int) : CT Try.prog 35 [vs p1, vk .i32 p2] (strings_IndexRune p1 p2) vi :=
  uFn 187 [] Try.f35 fun r => (uQ (kS Try.f35 [1,0,0] 2) fun K2 hK2 => have hJ1 : ∀ (x1 : Bool), strings_IndexRune_j1 p1 p2 x1 = some r → K2.p [(0, vs p1), (1, vk .i32 p2), (160, vb x1)] [] := fun x1 h => hK2 h (uC (uP (c_strings_IndexByte _ _) fun r1 _ => (uR .ret xF)) (uC (uQ (kS Try.f35 [1,0,1,1,1,0,0] 2) fun K9 hK9 => have hJ2 : ∀ (_ : Unit), strings_IndexRune_j2 = some r → K9.p [] [] := fun _ h => hK9 h (uR .ret xF); (uRg p1 (uO (cd Try.f35 [1,0,1,1,1,0,0,1,0,0]) (kS Try.f35 [1,0,1,1,1,0,0,1,0] 1) fun R1 b1 => have hL1 : ∀ (k1 : Nat) (z1 : Nat), strings_IndexRune_l1 p1 k1 z1 = some r → (R1 k1).p [(175, .one (.pt 0 0 0 0))] [.raw (.stringIter p1 z1)] := by intro k1; induction k1 with | zero => intro z1 h; exact uE0 (strings_IndexRune_l1.eq_1 ..) h | succ k1 ih1 => intro z1 h; exact b1 h (uU (strings_IndexRune_l1.eq_2 ..) (uNx 0 (fun b12 => (uT (uC (uR .ret (xN (xN xF))) (uJ (ih1 (z1 + (Utf8.decode p1 z1).2)))))) (fun b12 => (uF (uR (.exit 9) (xM (uJ (hJ2 ()))))))))
 uE (hL1 BIG 0)))) (uP (c_unicode_utf8_ValidRune _) fun r2 _ => (uC (uR .ret xF) (uQ (kS Try.f35 [1,0,1,1,1,1,1,1,0,1,1,1,1,0] 3) fun K28 hK28 => have hJ5 : ∀ (_ : Unit), strings_IndexRune_j5 = some r → K28.p [] [] := fun _ h => hK28 h (uR .ret xF); (uO (cd Try.f35 [1,0,1,1,1,1,1,1,0,1,1,1,1,0,0,0]) (kS Try.f35 [1,0,1,1,1,1,1,1,0,1,1,1,1,0,0] 1) fun R2 b2 => have hL2 : ∀ (k2 : Nat) (_ : Unit), strings_IndexRune_l2 p1 p2 k2 = some r → (R2 k2).p [(0, vs p1), (7, vs (Utf8.encode p2)), (8, vi (IntKind.i64.wrap (((Utf8.encode p2).size : Int) - (1 : Int)))), (9, vi (IntKind.i64.wrap (((Utf8.encode p2).size : Int) - (1 : Int))))] [] := by intro k2; induction k2 with | zero => intro _ h; exact uE0 (strings_IndexRune_l2.eq_1 ..) h | succ k2 ih2 => intro _ h; exact b2 h (uU (strings_IndexRune_l2.eq_2 ..) (uY 26 vb fun y1 => (uC (uQ (kS Try.f35 [1,0,1,1,1,1,1,1,0,1,1,1,1,0,0,0,1,0,0,0] 3) fun K33 hK33 => have hJ3 : ∀ (x2 : Int), strings_IndexRune_j3 p1 p2 x2 = some r → K33.p [(0, vs p1), (7, vs (Utf8.encode p2)), (8, vi (IntKind.i64.wrap (((Utf8.encode p2).size : Int) - (1 : Int)))), (9, vi x2)] [] := fun x2 h => hK33 h (uQ (kS Try.f35 [1,0,1,1,1,1,1,1,0,1,1,1,1,0,0,0,1,0,0,1,0] 3) fun K51 hK51 => have hJ4 : ∀ (_ : Unit), strings_IndexRune_j4 p2 x2 = some r → K51.p [(8, vi (IntKind.i64.wrap (((Utf8.encode p2).size : Int) - (1 : Int)))), (9, vi x2)] [] := fun _ h => hK51 h (uY 67 vi fun y9 => (uR .ret (xN (xN xF)))); (uO (cd Try.f35 [1,0,1,1,1,1,1,1,0,1,1,1,1,0,0,0,1,0,0,1,0,1,0,0]) (kS Try.f35 [1,0,1,1,1,1,1,1,0,1,1,1,1,0,0,0,1,0,0,1,0,1,0] 1) fun R3 b3 => have hL3 : ∀ (k3 : Nat) (x3 : Int), strings_IndexRune_l3 p1 p2 x2 k3 x3 = some r → (R3 k3).p [(0, vs p1), (7, vs (Utf8.encode p2)), (8, vi (IntKind.i64.wrap (((Utf8.encode p2).size : Int) - (1 : Int)))), (9, vi x2), (12, vi x3)] [] := by intro k3; induction k3 with | zero => intro x3 h; exact uE0 (strings_IndexRune_l3.eq_1 ..) h | succ k3 ih3 => intro x3 h; exact b3 h (uU (strings_IndexRune_l3.eq_2 ..) (uC (uDr 10 (uYg 58 (vk .u8) fun y7 => (uY 62 vi fun y8 => (uG (uC uNo (uJ (ih3 (IntKind.i64.wrap (x3 + (1 : Int)))))))))) (uR (.exit 3) (xM (uJ (hJ4 ()))))))
 uE (hL3 BIG (1 : Int)))); (uDr 6 (uYg 29 (vk .u8) fun y2 => (uYg 32 (vk .u8) fun y3 => (uC (uDr 7 (uY 36 vi fun y4 => (uG (uYg 40 (vk .u8) fun y5 => (uP (c_strings_IndexByte _ _) fun r3 _ => (uC (uR .ret (xN (xN (xN xF)))) (uY 47 vi fun y6 => (uJ (hJ3 y6))))))))) (uJ (hJ3 (IntKind.i64.wrap (((Utf8.encode p2).size : Int) - (1 : Int)))))))))) (uR (.exit 1) (xM (uJ (hJ5 ())))))))
 uE (hL2 BIG ()))))))); (uC (uJ (hJ1 (decide (p2 < (128 : Int))))) (uJ (hJ1 false))))

def table_objectName_1_j1 (x1 : Bool) : Option Bool :=
    some x1

def table_objectName_1 (p1 : Int) : Option Bool :=
    ift (decide (p1 < (97 : Int)))
      (ift (decide (p1 < (48 : Int)))
         (bnd (strings_IndexRune (ByteArray.mk #[95, 45, 46, 47]) p1) fun r1 =>
          table_objectName_1_j1 (decide (r1 < (0 : Int))))
         (ift (decide ((57 : Int) < p1))
            (bnd (strings_IndexRune (ByteArray.mk #[95, 45, 46, 47]) p1) fun r2 =>
             table_objectName_1_j1 (decide (r2 < (0 : Int))))
            (table_objectName_1_j1 false)))
      (ift (decide ((122 : Int) < p1))
         (ift (decide (p1 < (48 : Int)))
            (bnd (strings_IndexRune (ByteArray.mk #[95, 45, 46, 47]) p1) fun r3 =>
             table_objectName_1_j1 (decide (r3 < (0 : Int))))
            (ift (decide ((57 : Int) < p1))
               (bnd (strings_IndexRune (ByteArray.mk #[95, 45, 46, 47]) p1) fun r4 =>
                table_objectName_1_j1 (decide (r4 < (0 : Int))))
               (table_objectName_1_j1 false)))
         (table_objectName_1_j1 false))


theorem c_table_objectName_1 (p1 : Int) : CT Try.prog 34 [vk .i32 p1] (table_objectName_1 p1) vb :=
  uFn 22 [] Try.f34 fun r => (uQ (kS Try.f34 [1,0] 1) fun K2 hK2 => have hJ1 : ∀ (x1 : Bool), table_objectName_1_j1 x1 = some r → K2.p [(2, vb x1)] [] := fun x1 h => hK2 h (uR .ret xF); (uC (uC (uP (c_strings_IndexRune _ _) fun r1 _ => (uJ (hJ1 (decide (r1 < (0 : Int)))))) (uC (uP (c_strings_IndexRune _ _) fun r2 _ => (uJ (hJ1 (decide (r2 < (0 : Int)))))) (uJ (hJ1 false)))) (uC (uC (uP (c_strings_IndexRune _ _) fun r3 _ => (uJ (hJ1 (decide (r3 < (0 : Int)))))) (uC (uP (c_strings_IndexRune _ _) fun r4 _ => (uJ (hJ1 (decide (r4 < (0 : Int)))))) (uJ (hJ1 false)))) (uJ (hJ1 false)))))

def strings_indexFunc_of_table_objectName_1_j1 : Option Int :=
    some (-1 : Int)

def strings_indexFunc_of_table_objectName_1_l1 (p1 : ByteArray) (p2 : Bool) : Nat → Nat → Option Int
  | 0, _ => none
  | k1 + 1, z1 =>
    ift (decide (z1 < p1.size))
      (bnd (table_objectName_1 (Int.ofNat (Utf8.decode p1 z1).1)) fun r1 =>
       ift (r1 == p2)
         (some (Int.ofNat z1))
         ((strings_indexFunc_of_table_objectName_1_l1 p1 p2 k1) (z1 + (Utf8.decode p1 z1).2)))
      (strings_indexFunc_of_table_objectName_1_j1)

def strings_indexFunc_of_table_objectName_1 (p1 : ByteArray) (p2 : Bool) : Option Int :=
    strings_indexFunc_of_table_objectName_1_l1 p1 p2 BIG 0


theorem c_strings_indexFunc_of_table_objectName_1 (p1 : ByteArray) (p2 : Bool) : CT Try.prog 55 [vs p1, .one (.pv (.fn 34 [])), vb p2] (strings_indexFunc_of_table_objectName_1 p1 p2) vi :=
  uFn 21 [] Try.f55 fun r => (uQ (kS Try.f55 [1,0] 1) fun K2 hK2 => have hJ1 : ∀ (_ : Unit), strings_indexFunc_of_table_objectName_1_j1 = some r → K2.p [] [] := fun _ h => hK2 h (uR .ret xF); (uRg p1 (uO (cd Try.f55 [1,0,1,0,0]) (kS Try.f55 [1,0,1,0] 1) fun R1 b1 => have hL1 : ∀ (k1 : Nat) (z1 : Nat), strings_indexFunc_of_table_objectName_1_l1 p1 p2 k1 z1 = some r → (R1 k1).p [(1, .one (.pv (.fn 34 []))), (2, vb p2), (10, .one (.pt 0 0 0 0))] [.raw (.stringIter p1 z1)] := by intro k1; induction k1 with | zero => intro z1 h; exact uE0 (strings_indexFunc_of_table_objectName_1_l1.eq_1 ..) h | succ k1 ih1 => intro z1 h; exact b1 h (uU (strings_indexFunc_of_table_objectName_1_l1.eq_2 ..) (uNx 0 (fun b5 => (uT (uP (c_table_objectName_1 _) fun r1 _ => (uC (uR .ret (xN (xN xF))) (uJ (ih1 (z1 + (Utf8.decode p1 z1).2))))))) (fun b5 => (uF (uR (.exit 0) (xM (uJ (hJ1 ()))))))))
 uE (hL1 BIG 0))))

def strings_IndexFunc_of_table_objectName_1 (p1 : ByteArray) : Option Int :=
    bnd (strings_indexFunc_of_table_objectName_1 p1 true) fun r1 =>
    some r1


theorem c_strings_IndexFunc_of_table_objectName_1 (p1 : ByteArray) : CT Try.prog 39 [vs p1, .one (.pv (.fn 34 []))] (strings_IndexFunc_of_table_objectName_1 p1) vi :=
  uFn 8 [] Try.f39 fun r => (uP (c_strings_indexFunc_of_table_objectName_1 _ _) fun r1 _ => (uR .ret xF))

def strings_ContainsFunc_of_table_objectName_1 (p1 : ByteArray) : Option Bool :=
    bnd (strings_IndexFunc_of_table_objectName_1 p1) fun r1 =>
    some (decide ((0 : Int) ≤ r1))


theorem c_strings_ContainsFunc_of_table_objectName_1 (p1 : ByteArray) : CT Try.prog 33 [vs p1, .one (.pv (.fn 34 []))] (strings_ContainsFunc_of_table_objectName_1 p1) vb :=
  uFn 9 [] Try.f33 fun r => (uP (c_strings_IndexFunc_of_table_objectName_1 _) fun r1 _ => (uR .ret xF))

def table_objectName_j1 (p1 : ByteArray) (x1 : Bool) : Option Bool :=
    ift x1
      (some false)
      (bnd (strings_ContainsFunc_of_table_objectName_1 p1) fun r1 =>
       some (!r1))

def table_objectName (p1 : ByteArray) : Option Bool :=
    ift (decide ((p1.size : Int) < (1 : Int)))
      (table_objectName_j1 p1 true)
      (table_objectName_j1 p1 (decide ((64 : Int) < (p1.size : Int))))


theorem c_table_objectName (p1 : ByteArray) : CT Try.prog 28 [vs p1] (table_objectName p1) vb :=
  uFn 14 [] Try.f28 fun r => (uQ (kS Try.f28 [1,0,0] 2) fun K3 hK3 => have hJ1 : ∀ (x1 : Bool), table_objectName_j1 p1 x1 = some r → K3.p [(0, vs p1), (10, vb x1)] [] := fun x1 h => hK3 h (uC (uR .ret xF) (uP (c_strings_ContainsFunc_of_table_objectName_1 _) fun r1 _ => (uR .ret xF))); (uC (uJ (hJ1 true)) (uJ (hJ1 (decide ((64 : Int) < (p1.size : Int)))))))

def table_ValidObject (p1 : ByteArray) : Option Bool :=
    bnd (table_objectName p1) fun r1 =>
    some r1


theorem c_table_ValidObject (p1 : ByteArray) : CT Try.prog 19 [vs p1] (table_ValidObject p1) vb :=
  uFn 5 [] Try.f19 fun r => (uP (c_table_objectName _) fun r1 _ => (uR .ret xF))

def lake_Bucket_Put (p1 : ByteArray) (p2 : (List Int)) (p3 : ByteArray) (p4 : (List (ByteArray × List Int))) : Option (Int × ByteArray × (List (ByteArray × List Int))) :=
    bnd (table_ValidObject p1) fun r1 =>
    ift (!r1)
      (some ((4 : Int), p3, p4))
      (bnd (some ((mget kStr p4 p1).getD [])) fun x1 =>
       ift ((mget kStr p4 p1).isSome)
         (some ((5 : Int), p3, p4))
         (bnd (bytes_Clone p2) fun r2 =>
          grd ((mget kStr p4 p1).isNone = true) <|
          some ((0 : Int), p3, (p4 ++ [(p1, r2)]))))


theorem c_lake_Bucket_Put (p1 : ByteArray) (p2 : (List Int)) (p3 : ByteArray) (p4 : (List (ByteArray × List Int))) : CM Try.prog 5 [.one (.pt 0 0 0 0), vs p1, vl (eK .u8) p2] [.box [.mp 1, cst p3], mB (fun b : List Int => PV.ro ((eK .u8).els b)) p4] (lake_Bucket_Put p1 p2 p3 p4) (fun r => vi r.1) (fun r => [.box [.mp 1, cst r.2.1], mB (fun b : List Int => PV.ro ((eK .u8).els b)) r.2.2]) :=
  uFnM 2 29 [] Try.f5 fun r => (uP (c_table_ValidObject _) fun r1 _ => (uC (uR .ret xFM) (uEl (fun b : List Int => PV.ro ((eK .u8).els b)) 1 [] 9 27 fun x1 _ => (uC (uR .ret xFM) (uDr 7 (uP (c_bytes_Clone _) fun r2 _ => (uEg (fun b : List Int => PV.ro ((eK .u8).els b)) 1 (m := p4) (k0 := p1) (u := r2) 9 (uR .ret xFM))))))))

def lake_Bucket_Remove (p1 : ByteArray) (p2 : ByteArray) (p3 : (List (ByteArray × List Int))) : Option (Int × ByteArray × (List (ByteArray × List Int))) :=
    bnd (some ((mget kStr p3 p1).getD [])) fun x1 =>
    ift (!((mget kStr p3 p1).isSome))
      (some ((9 : Int), p2, p3))
      (some ((0 : Int), p2, (mdl p3 p1)))


theorem c_lake_Bucket_Remove (p1 : ByteArray) (p2 : ByteArray) (p3 : (List (ByteArray × List Int))) : CM Try.prog 6 [.one (.pt 0 0 0 0), vs p1] [.box [.mp 1, cst p2], mB (fun b : List Int => PV.ro ((eK .u8).els b)) p3] (lake_Bucket_Remove p1 p2 p3) (fun r => vi r.1) (fun r => [.box [.mp 1, cst r.2.1], mB (fun b : List Int => PV.ro ((eK .u8).els b)) r.2.2]) :=
  uFnM 2 23 [] Try.f6 fun r => (uEl (fun b : List Int => PV.ro ((eK .u8).els b)) 1 [] 9 27 fun x1 _ => (uC (uR .ret xFM) (uEd (fun b : List Int => PV.ro ((eK .u8).els b)) 1 (m := p3) (k0 := p1) 9 (uR .ret xFM))))

def ref4_NewBucket : Option Unit :=
    some ()


theorem c_ref4_NewBucket : CX Try.prog 7 [] [] [] (ref4_NewBucket) (fun r => .one (.pt 0 0 0 0)) (fun r => [.box [.pv (.s (.slice none 0 0)), cst ByteArray.empty]]) :=
  uFnX 0 1 3 [2] Try.f7 fun r => (uR .ret xFM)

def ref3_object_j2 (rec1 : Int → Option Bool) (x2 : Int) (x3 : Bool) : Option Bool :=
    ift x3
      (some false)
      (rec1 (IntKind.i64.wrap (x2 + (1 : Int))))

def ref3_object_j3 : Option Bool :=
    some true

def ref3_object_l1 (p1 : ByteArray) : Nat → Int → Option Bool
  | 0, _ => none
  | k1 + 1, x2 =>
    ift (decide (x2 < (p1.size : Int)))
      (grd (0 ≤ x2 ∧ x2 < (p1.size : Int)) <|
       bnd (some (decide ((97 : Int) ≤ ((p1.data.toList.getD x2.toNat 0).toNat : Int)))) fun y1 =>
       ift y1
         (bnd (some (decide (((p1.data.toList.getD x2.toNat 0).toNat : Int) ≤ (122 : Int)))) fun y2 =>
          ift y2
            (ref3_object_j2 (ref3_object_l1 p1 k1) x2 false)
            (bnd (some (decide ((48 : Int) ≤ ((p1.data.toList.getD x2.toNat 0).toNat : Int)))) fun y3 =>
             ift y3
               (bnd (some (decide (((p1.data.toList.getD x2.toNat 0).toNat : Int) ≤ (57 : Int)))) fun y4 =>
                ift y4
                  (ref3_object_j2 (ref3_object_l1 p1 k1) x2 false)
                  (ift (((p1.data.toList.getD x2.toNat 0).toNat : Int) == (95 : Int))
                     (ref3_object_j2 (ref3_object_l1 p1 k1) x2 false)
                     (ift (((p1.data.toList.getD x2.toNat 0).toNat : Int) == (46 : Int))
                        (ref3_object_j2 (ref3_object_l1 p1 k1) x2 false)
                        (ift (((p1.data.toList.getD x2.toNat 0).toNat : Int) == (45 : Int))
                           (ref3_object_j2 (ref3_object_l1 p1 k1) x2 false)
                           (ref3_object_j2 (ref3_object_l1 p1 k1) x2 (!(((p1.data.toList.getD x2.toNat 0).toNat : Int) == (47 : Int))))))))
               (ift (((p1.data.toList.getD x2.toNat 0).toNat : Int) == (95 : Int))
                  (ref3_object_j2 (ref3_object_l1 p1 k1) x2 false)
                  (ift (((p1.data.toList.getD x2.toNat 0).toNat : Int) == (46 : Int))
                     (ref3_object_j2 (ref3_object_l1 p1 k1) x2 false)
                     (ift (((p1.data.toList.getD x2.toNat 0).toNat : Int) == (45 : Int))
                        (ref3_object_j2 (ref3_object_l1 p1 k1) x2 false)
                        (ref3_object_j2 (ref3_object_l1 p1 k1) x2 (!(((p1.data.toList.getD x2.toNat 0).toNat : Int) == (47 : Int)))))))))
         (bnd (some (decide ((48 : Int) ≤ ((p1.data.toList.getD x2.toNat 0).toNat : Int)))) fun y5 =>
          ift y5
            (bnd (some (decide (((p1.data.toList.getD x2.toNat 0).toNat : Int) ≤ (57 : Int)))) fun y6 =>
             ift y6
               (ref3_object_j2 (ref3_object_l1 p1 k1) x2 false)
               (ift (((p1.data.toList.getD x2.toNat 0).toNat : Int) == (95 : Int))
                  (ref3_object_j2 (ref3_object_l1 p1 k1) x2 false)
                  (ift (((p1.data.toList.getD x2.toNat 0).toNat : Int) == (46 : Int))
                     (ref3_object_j2 (ref3_object_l1 p1 k1) x2 false)
                     (ift (((p1.data.toList.getD x2.toNat 0).toNat : Int) == (45 : Int))
                        (ref3_object_j2 (ref3_object_l1 p1 k1) x2 false)
                        (ref3_object_j2 (ref3_object_l1 p1 k1) x2 (!(((p1.data.toList.getD x2.toNat 0).toNat : Int) == (47 : Int))))))))
            (ift (((p1.data.toList.getD x2.toNat 0).toNat : Int) == (95 : Int))
               (ref3_object_j2 (ref3_object_l1 p1 k1) x2 false)
               (ift (((p1.data.toList.getD x2.toNat 0).toNat : Int) == (46 : Int))
                  (ref3_object_j2 (ref3_object_l1 p1 k1) x2 false)
                  (ift (((p1.data.toList.getD x2.toNat 0).toNat : Int) == (45 : Int))
                     (ref3_object_j2 (ref3_object_l1 p1 k1) x2 false)
                     (ref3_object_j2 (ref3_object_l1 p1 k1) x2 (!(((p1.data.toList.getD x2.toNat 0).toNat : Int) == (47 : Int)))))))))
      (ref3_object_j3)

def ref3_object_j1 (p1 : ByteArray) (x1 : Bool) : Option Bool :=
    ift x1
      (some false)
      (ref3_object_l1 p1 BIG (0 : Int))

def ref3_object (p1 : ByteArray) : Option Bool :=
    ift (decide ((p1.size : Int) < (1 : Int)))
      (ref3_object_j1 p1 true)
      (ref3_object_j1 p1 (decide ((64 : Int) < (p1.size : Int))))


theorem c_ref3_object (p1 : ByteArray) : CT Try.prog 29 [vs p1] (ref3_object p1) vb :=
  uFn 53 [] Try.f29 fun r => (uQ (kS Try.f29 [1,0,0] 2) fun K3 hK3 => have hJ1 : ∀ (x1 : Bool), ref3_object_j1 p1 x1 = some r → K3.p [(0, vs p1), (12, vb x1)] [] := fun x1 h => hK3 h (uC (uR .ret xF) (uQ (kS Try.f29 [1,1,0] 1) fun K7 hK7 => have hJ3 : ∀ (_ : Unit), ref3_object_j3 = some r → K7.p [] [] := fun _ h => hK7 h (uR .ret xF); (uO (cd Try.f29 [1,1,0,1,0,0]) (kS Try.f29 [1,1,0,1,0] 1) fun R1 b1 => have hL1 : ∀ (k1 : Nat) (x2 : Int), ref3_object_l1 p1 k1 x2 = some r → (R1 k1).p [(0, vs p1), (3, vi x2)] [] := by intro k1; induction k1 with | zero => intro x2 h; exact uE0 (ref3_object_l1.eq_1 ..) h | succ k1 ih1 => intro x2 h; exact b1 h (uU (ref3_object_l1.eq_2 ..) (uC (uG (uQu 23 (kS Try.f29 [1,1,0,1,0,0,1,0,0,1,0] 3) fun K15 hK15 => have hJ2 : ∀ (x3 : Bool), ref3_object_j2 (ref3_object_l1 p1 k1) x2 x3 = some r → K15.p [(0, vs p1), (3, vi x2), (52, vb x3)] [] := fun x3 h => hK15 h (uC (uR .ret (xN (xN xF))) (uJ (ih1 (IntKind.i64.wrap (x2 + (1 : Int)))))); (uY 23 vb fun y1 => (uC (uY 26 vb fun y2 => (uC (uJ (hJ2 false)) (uY 30 vb fun y3 => (uC (uY 33 vb fun y4 => (uC (uJ (hJ2 false)) (uC (uJ (hJ2 false)) (uC (uJ (hJ2 false)) (uC (uJ (hJ2 false)) (uJ (hJ2 (!(((p1.data.toList.getD x2.toNat 0).toNat : Int) == (47 : Int)))))))))) (uC (uJ (hJ2 false)) (uC (uJ (hJ2 false)) (uC (uJ (hJ2 false)) (uJ (hJ2 (!(((p1.data.toList.getD x2.toNat 0).toNat : Int) == (47 : Int)))))))))))) (uY 30 vb fun y5 => (uC (uY 33 vb fun y6 => (uC (uJ (hJ2 false)) (uC (uJ (hJ2 false)) (uC (uJ (hJ2 false)) (uC (uJ (hJ2 false)) (uJ (hJ2 (!(((p1.data.toList.getD x2.toNat 0).toNat : Int) == (47 : Int)))))))))) (uC (uJ (hJ2 false)) (uC (uJ (hJ2 false)) (uC (uJ (hJ2 false)) (uJ (hJ2 (!(((p1.data.toList.getD x2.toNat 0).toNat : Int) == (47 : Int)))))))))))))) (uR (.exit 0) (xM (uJ (hJ3 ()))))))
 uE (hL1 BIG (0 : Int))))); (uC (uJ (hJ1 true)) (uJ (hJ1 (decide ((64 : Int) < (p1.size : Int)))))))

def ref3_Object (p1 : ByteArray) : Option Bool :=
    bnd (ref3_object p1) fun r1 =>
    some r1


theorem c_ref3_Object (p1 : ByteArray) : CT Try.prog 21 [vs p1] (ref3_Object p1) vb :=
  uFn 5 [] Try.f21 fun r => (uP (c_ref3_object _) fun r1 _ => (uR .ret xF))

def ref4_Bucket_find_j1 : Option Int :=
    some (-1 : Int)

def ref4_Bucket_find_l1 (p1 : ByteArray) (p3 : (List GObject)) : Nat → Int → Option Int
  | 0, _ => none
  | k1 + 1, x1 =>
    ift (decide (x1 < ((p3.length : Nat) : Int)))
      (bnd (at? p3 x1) fun e1 =>
       ift (e1.name.toList == p1.toList)
         (some x1)
         ((ref4_Bucket_find_l1 p1 p3 k1) (IntKind.i64.wrap (x1 + (1 : Int)))))
      (ref4_Bucket_find_j1)

def ref4_Bucket_find (p1 : ByteArray) (p2 : ByteArray) (p3 : (List GObject)) : Option Int :=
    ref4_Bucket_find_l1 p1 p3 BIG (0 : Int)

abbrev qa120 (p2 : ByteArray) (p3 : (List GObject)) : St := [.box [.sl 1 7 0 p3.length, cst p2], .arr 7 (eObject.els p3)]

theorem c_ref4_Bucket_find (p1 : ByteArray) (p2 : ByteArray) (p3 : (List GObject)) : CM Try.prog 22 [.one (.pt 0 0 0 0), vs p1] (qa120 p2 p3) (ref4_Bucket_find p1 p2 p3) vi (fun r => (qa120 p2 p3)) :=
  uFnM 2 26 [] Try.f22 fun r => (uQ (kS Try.f22 [1,0] 1) fun K2 hK2 => have hJ1 : ∀ (_ : Unit), ref4_Bucket_find_j1 = some r → K2.p [] (qa120 p2 p3) := fun _ h => hK2 h (uR .ret xFM); (uO (cd Try.f22 [1,0,1,0,0]) (kS Try.f22 [1,0,1,0] 1) fun R1 b1 => have hL1 : ∀ (k1 : Nat) (x1 : Int), ref4_Bucket_find_l1 p1 p3 k1 x1 = some r → (R1 k1).p [(0, .one (.pt 0 0 0 0)), (1, vs p1), (10, vi ((p3.length : Nat) : Int)), (11, vi x1)] (qa120 p2 p3) := by intro k1; induction k1 with | zero => intro x1 h; exact uE0 (ref4_Bucket_find_l1.eq_1 ..) h | succ k1 ih1 => intro x1 h; exact b1 h (uU (ref4_Bucket_find_l1.eq_2 ..) (uC (uIa eObject 1 fun e1 a10 => (uLd eObject a10 (uC (uR .ret (xN (xN xFM))) (uJ (ih1 (IntKind.i64.wrap (x1 + (1 : Int)))))))) (uR (.exit 0) (xM (uJ (hJ1 ()))))))
 uE (hL1 BIG (0 : Int))))

def ref4_Bucket_put_j1 (rec1 : List GObject → Int → Option (Unit × GRBucket)) (p2 : GRBucket) (l1 : List GObject) (x1 : Int) (x2 : Bool) : Option (Unit × GRBucket) :=
    ift x2
      (bnd (at? l1 (IntKind.i64.wrap (x1 - (1 : Int)))) fun e3 =>
       bnd (at? l1 x1) fun e4 =>
       bnd (at? (l1.set x1.toNat e3) (IntKind.i64.wrap (x1 - (1 : Int)))) fun e5 =>
       rec1 ((l1.set x1.toNat e3).set (IntKind.i64.wrap (x1 - (1 : Int))).toNat e4) (IntKind.i64.wrap (x1 - (1 : Int))))
      (some ((), (GRBucket.mk l1 p2.root)))

def ref4_Bucket_put_l1 (p2 : GRBucket) : Nat → List GObject → Int → Option (Unit × GRBucket)
  | 0, _, _ => none
  | k1 + 1, l1, x1 =>
    ift (decide ((0 : Int) < x1))
      (bnd (at? l1 x1) fun e1 =>
       bnd (at? l1 (IntKind.i64.wrap (x1 - (1 : Int)))) fun e2 =>
       ref4_Bucket_put_j1 (ref4_Bucket_put_l1 p2 k1) p2 l1 x1 (Op.bytesLess e1.name.toList e2.name.toList))
      (ref4_Bucket_put_j1 (ref4_Bucket_put_l1 p2 k1) p2 l1 x1 false)

def ref4_Bucket_put (p1 : GObject) (p2 : GRBucket) : Option (Unit × GRBucket) :=
    grd (p2.objects.length + 1 ≤ 4294967296) <|
    bnd (some (IntKind.i64.wrap ((((p2.objects ++ [p1]).length : Nat) : Int) - (1 : Int)))) fun y1 =>
    ref4_Bucket_put_l1 p2 BIG (p2.objects ++ [p1]) y1


theorem c_ref4_Bucket_put (p1 : GObject) (p2 : GRBucket) : CX Try.prog 23 [.one (.pt 0 0 0 0), .ag [cst p1.name, ci p1.kind, cl (eK .u8) p1.data, cl eField p1.fields, cl (eL eValue) p1.rows, cl eEntry p1.tables, ci p1.changes]] [.box [.sl 1 7 0 p2.objects.length, cst p2.root], .arr 7 (eObject.els p2.objects)] [1] (ref4_Bucket_put p1 p2) (fun r => .tp []) (fun r => [.box [.sl 1 7 0 r.2.objects.length, cst r.2.root], .arr 7 (eObject.els r.2.objects)]) :=
  uFnX 2 2 73 [12] Try.f23 fun r => (uGr 8 1 [2,3] (uApN eObject 1 [p1] (uCvu 20 (.sw 1 2) (uY 20 vi fun y1 => (uO (cd Try.f23 [1,1,1,0,0]) (kS Try.f23 [1,1,1,0] 1) fun R1 b1 => have hL1 : ∀ (k1 : Nat) (l1 : List GObject) (x1 : Int), ref4_Bucket_put_l1 p2 k1 l1 x1 = some r → (R1 k1).p [(0, .one (.pt 0 0 0 0)), (4, vi x1)] [.box [.sl 1 7 0 l1.length, cst p2.root], .arr 7 (eObject.els l1), .dead] := by intro k1; induction k1 with | zero => intro l1 x1 h; exact uE0 (ref4_Bucket_put_l1.eq_1 ..) h | succ k1 ih1 => intro l1 x1 h; exact b1 h (uU (ref4_Bucket_put_l1.eq_2 ..) (uQ (kS Try.f23 [1,1,1,0,0,0,0] 2) fun K7 hK7 => have hJ1 : ∀ (x2 : Bool), ref4_Bucket_put_j1 (ref4_Bucket_put_l1 p2 k1) p2 l1 x1 x2 = some r → K7.p [(0, .one (.pt 0 0 0 0)), (4, vi x1), (42, vb x2)] [.box [.sl 1 7 0 l1.length, cst p2.root], .arr 7 (eObject.els l1), .dead] := fun x2 h => hK7 h (uC (uGr 28 0 [3] (uIa eObject 1 fun e3 a13 => (uLd eObject a13 (uIa eObject 1 fun e4 a14 => (uLd eObject a14 (uIb eObject 1 a14 (uSt eObject 1 a14 e3 (uIa (L := l1.length) (hL := by simp) eObject 1 fun e5 a15 => (uSt eObject 1 a15 e4 (uLn 1 (show l1.length = ((l1.set x1.toNat e3).set (IntKind.i64.wrap (x1 - (1 : Int))).toNat e4).length by simp) (uJ (ih1 ((l1.set x1.toNat e3).set (IntKind.i64.wrap (x1 - (1 : Int))).toNat e4) (IntKind.i64.wrap (x1 - (1 : Int))))))))))))))) (uR (.exit 0) (xM uZM))); (uDr 20 (uC (uIa eObject 1 fun e1 a9 => (uLd eObject a9 (uIa eObject 1 fun e2 a10 => (uLd eObject a10 (uJ (hJ1 (Op.bytesLess e1.name.toList e2.name.toList))))))) (uJ (hJ1 false))))))
 uE (hL1 BIG (p2.objects ++ [p1]) y1))))))

def ref4_Bucket_Put (p1 : ByteArray) (p2 : (List Int)) (p3 : GRBucket) : Option (Int × GRBucket) :=
    bnd (ref3_Object p1) fun r1 =>
    ift (!r1)
      (some ((4 : Int), p3))
      (bnd (ref4_Bucket_find p1 p3.root p3.objects) fun r2 =>
       ift (decide ((0 : Int) ≤ r2))
         (some ((5 : Int), p3))
         (grd (([] : List Int).length + p2.length ≤ 4294967296) <|
          bnd (ref4_Bucket_put (GObject.mk p1 (0 : Int) (([] : List Int) ++ p2) [] [] [] (0 : Int)) p3) fun r3 =>
          some ((0 : Int), r3.2)))


theorem c_ref4_Bucket_Put (p1 : ByteArray) (p2 : (List Int)) (p3 : GRBucket) : CX Try.prog 8 [.one (.pt 0 0 0 0), vs p1, vl (eK .u8) p2] [.box [.sl 1 7 0 p3.objects.length, cst p3.root], .arr 7 (eObject.els p3.objects)] [1] (ref4_Bucket_Put p1 p2 p3) (fun r => vi r.1) (fun r => [.box [.sl 1 7 0 r.2.objects.length, cst r.2.root], .arr 7 (eObject.els r.2.objects)]) :=
  uFnX 2 2 21 [16] Try.f8 fun r => (uP (c_ref3_Object _) fun r1 _ => (uC (uR .ret xFM) (uMc true [0,1] (c_ref4_Bucket_find _ _ _) fun r2 _ => (uC (uR .ret xFM) (uAp (eK .u8) 2 p2 (uKl (eK .u8) (([] : List Int) ++ p2) 2 [19] (uMx true [0,1] (c_ref4_Bucket_put _ _) fun r3 _ => (uR .ret xFM))))))))

def slices_Clip_byte_byte (p1 : (List Int)) : Option (List Int) :=
    grd (0 ≤ (0 : Int) ∧ (0 : Int) ≤ (p1.length : Int) ∧ (p1.length : Int) ≤ (p1.length : Int) ∧ (p1.length : Int) ≤ (p1.length : Int)) <|
    some ((p1.drop (0 : Int).toNat).take ((p1.length : Int).toNat - (0 : Int).toNat))


theorem c_slices_Clip_byte_byte (p1 : (List Int)) : CT Try.prog 24 [vl (eK .u8) p1] (slices_Clip_byte_byte p1) (fun r => vl (eK .u8) r) :=
  uFn 9 [] Try.f24 fun r => (uN (eK .u8) p1 (uN (eK .u8) p1 (uXm (eK .u8) (uR .ret xF))))

def lake_Bucket_Get (p1 : ByteArray) (p2 : ByteArray) (p3 : (List (ByteArray × List Int))) : Option ((List Int) × Int) :=
    bnd (some ((mget kStr p3 p1).getD [])) fun x1 =>
    ift (!((mget kStr p3 p1).isSome))
      (some ([], (9 : Int)))
      (bnd (bytes_Clone x1) fun r1 =>
       bnd (slices_Clip_byte_byte r1) fun r2 =>
       some (r2, (0 : Int)))


theorem c_lake_Bucket_Get (p1 : ByteArray) (p2 : ByteArray) (p3 : (List (ByteArray × List Int))) : CM Try.prog 9 [.one (.pt 0 0 0 0), vs p1] [.box [.mp 1, cst p2], mB (fun b : List Int => PV.ro ((eK .u8).els b)) p3] (lake_Bucket_Get p1 p2 p3) (fun r => .tp [vl (eK .u8) r.1, vi r.2]) (fun r => [.box [.mp 1, cst p2], mB (fun b : List Int => PV.ro ((eK .u8).els b)) p3]) :=
  uFnM 2 22 [] Try.f9 fun r => (uEl (fun b : List Int => PV.ro ((eK .u8).els b)) 1 [] 9 27 fun x1 _ => (uC (uR .ret xFM) (uP (c_bytes_Clone _) fun r1 _ => (uP (c_slices_Clip_byte_byte _) fun r2 _ => (uR .ret xFM)))))

def ref4_Bucket_List_j1 (l2 : List ByteArray) : Option (List ByteArray) :=
    some l2

def ref4_Bucket_List_l1 (p2 : (List GObject)) : Nat → List ByteArray → Int → Option (List ByteArray)
  | 0, _, _ => none
  | k1 + 1, l1, x1 =>
    ift (decide (x1 < ((p2.length : Nat) : Int)))
      (bnd (at? p2 x1) fun e1 =>
       grd (l1.length + 1 ≤ 4294967296) <|
       (ref4_Bucket_List_l1 p2 k1) (l1 ++ [e1.name]) (IntKind.i64.wrap (x1 + (1 : Int))))
      (ref4_Bucket_List_j1 l1)

def ref4_Bucket_List (p1 : ByteArray) (p2 : (List GObject)) : Option (List ByteArray) :=
    ref4_Bucket_List_l1 p2 BIG [] (0 : Int)


theorem c_ref4_Bucket_List (p1 : ByteArray) (p2 : (List GObject)) : CM Try.prog 11 [.one (.pt 0 0 0 0)] [.box [.sl 1 7 0 p2.length, cst p1], .arr 7 (eObject.els p2)] (ref4_Bucket_List p1 p2) (vl eS) (fun r => [.box [.sl 1 7 0 p2.length, cst p1], .arr 7 (eObject.els p2)]) :=
  uFnM 2 22 [5] Try.f11 fun r => (uQ (kS Try.f11 [1,1,0] 1) fun K3 hK3 => have hJ1 : ∀ (l2 : List ByteArray), ref4_Bucket_List_j1 l2 = some r → K3.p [(3, .one (.sl 2 1 0 l2.length))] [.box [.sl 1 7 0 p2.length, cst p1], .arr 7 (eObject.els p2), .arr 1 (eS.els l2)] := fun l2 h => hK3 h (uKl eS l2 2 [2] (uR .ret xFM)); (uCv (.li 3 1) (uO (cd Try.f11 [1,1,0,1,0,0]) (kS Try.f11 [1,1,0,1,0] 1) fun R1 b1 => have hL1 : ∀ (k1 : Nat) (l1 : List ByteArray) (x1 : Int), ref4_Bucket_List_l1 p2 k1 l1 x1 = some r → (R1 k1).p [(3, .one (.sl 2 1 0 l1.length)), (9, .one (.sl 1 7 0 p2.length)), (10, vi ((p2.length : Nat) : Int)), (11, vi x1)] [.box [.sl 1 7 0 p2.length, cst p1], .arr 7 (eObject.els p2), .arr 1 (eS.els l1)] := by intro k1; induction k1 with | zero => intro l1 x1 h; exact uE0 (ref4_Bucket_List_l1.eq_1 ..) h | succ k1 ih1 => intro l1 x1 h; exact b1 h (uU (ref4_Bucket_List_l1.eq_2 ..) (uC (uIa eObject 1 fun e1 a10 => (uLd eObject a10 (uAp eS 2 [e1.name] (uJ (ih1 (l1 ++ [e1.name]) (IntKind.i64.wrap (x1 + (1 : Int)))))))) (uR (.exit 0) (xM (uJ (hJ1 l1))))))
 uE (hL1 BIG [] (0 : Int)))))

def law4_listed_j1 : Option Bool :=
    some false

def law4_listed_l1 (p1 : (List ByteArray)) (p2 : ByteArray) : Nat → Int → Option Bool
  | 0, _ => none
  | k1 + 1, x1 =>
    ift (decide (x1 < (p1.length : Int)))
      (bnd (at? p1 x1) fun e1 =>
       ift (e1.toList == p2.toList)
         (some true)
         ((law4_listed_l1 p1 p2 k1) (IntKind.i64.wrap (x1 + (1 : Int)))))
      (law4_listed_j1)

def law4_listed (p1 : (List ByteArray)) (p2 : ByteArray) : Option Bool :=
    law4_listed_l1 p1 p2 BIG (0 : Int)


theorem c_law4_listed (p1 : (List ByteArray)) (p2 : ByteArray) : CT Try.prog 10 [vl eS p1, vs p2] (law4_listed p1 p2) vb :=
  uFn 17 [] Try.f10 fun r => (uQ (kS Try.f10 [1,0] 1) fun K2 hK2 => have hJ1 : ∀ (_ : Unit), law4_listed_j1 = some r → K2.p [] [] := fun _ h => hK2 h (uR .ret xF); (uN eS p1 (uO (cd Try.f10 [1,0,1,0,0]) (kS Try.f10 [1,0,1,0] 1) fun R1 b1 => have hL1 : ∀ (k1 : Nat) (x1 : Int), law4_listed_l1 p1 p2 k1 x1 = some r → (R1 k1).p [(1, vs p2), (7, vl eS p1), (8, vi (p1.length : Int)), (9, vi x1)] [] := by intro k1; induction k1 with | zero => intro x1 h; exact uE0 (law4_listed_l1.eq_1 ..) h | succ k1 ih1 => intro x1 h; exact b1 h (uU (law4_listed_l1.eq_2 ..) (uC (uL eS fun e1 a9 => (uC (uR .ret (xN (xN xF))) (uJ (ih1 (IntKind.i64.wrap (x1 + (1 : Int))))))) (uR (.exit 0) (xM (uJ (hJ1 ()))))))
 uE (hL1 BIG (0 : Int)))))

def ref4_Bucket_Remove (p1 : ByteArray) (p2 : GRBucket) : Option (Int × GRBucket) :=
    bnd (ref4_Bucket_find p1 p2.root p2.objects) fun r1 =>
    ift (decide (r1 < (0 : Int)))
      (some ((9 : Int), p2))
      (grd (0 ≤ (0 : Int) ∧ (0 : Int) ≤ r1 ∧ r1 ≤ (p2.objects.length : Int)) <|
       grd (([] : List GObject).length + ((p2.objects.drop (0 : Int).toNat).take (r1.toNat - (0 : Int).toNat)).length ≤ 4294967296) <|
       grd (0 ≤ (IntKind.i64.wrap (r1 + (1 : Int))) ∧ (IntKind.i64.wrap (r1 + (1 : Int))) ≤ (p2.objects.length : Int)) <|
       grd ((([] : List GObject) ++ ((p2.objects.drop (0 : Int).toNat).take (r1.toNat - (0 : Int).toNat))).length + (p2.objects.drop (IntKind.i64.wrap (r1 + (1 : Int))).toNat).length ≤ 4294967296) <|
       some ((0 : Int), (GRBucket.mk ((([] : List GObject) ++ ((p2.objects.drop (0 : Int).toNat).take (r1.toNat - (0 : Int).toNat))) ++ (p2.objects.drop (IntKind.i64.wrap (r1 + (1 : Int))).toNat)) p2.root)))


theorem c_ref4_Bucket_Remove (p1 : ByteArray) (p2 : GRBucket) : CX Try.prog 12 [.one (.pt 0 0 0 0), vs p1] [.box [.sl 1 7 0 p2.objects.length, cst p2.root], .arr 7 (eObject.els p2.objects)] [1] (ref4_Bucket_Remove p1 p2) (fun r => vi r.1) (fun r => [.box [.sl 1 7 0 r.2.objects.length, cst r.2.root], .arr 7 (eObject.els r.2.objects)]) :=
  uFnX 2 2 30 [12] Try.f12 fun r => (uMc true [0,1] (c_ref4_Bucket_find _ _ _) fun r1 _ => (uC (uR .ret xFM) (uKl eObject p2.objects 1 [] (uCv (.dd 1) (uGr 17 1 [3,4] (uWm 12 eObject [] (uX eObject (uAp eObject 3 ((p2.objects.drop (0 : Int).toNat).take (r1.toNat - (0 : Int).toNat)) (uXh eObject (uAp eObject 3 (p2.objects.drop (IntKind.i64.wrap (r1 + (1 : Int))).toNat) (uCv (.sw 1 3) (uR .ret xFM))))))))))))

def lake_Bucket_Swap (p1 : ByteArray) (p2 : ByteArray) (p3 : ByteArray) (p4 : (List (ByteArray × List Int))) : Option (Int × ByteArray × (List (ByteArray × List Int))) :=
    bnd (some ((mget kStr p4 p2).getD [])) fun x1 =>
    ift (!((mget kStr p4 p2).isSome))
      (some ((9 : Int), p3, p4))
      (ift (!(p3.toList == p1.toList))
         (some ((10 : Int), p3, p4))
         (some ((0 : Int), p2, p4)))


theorem c_lake_Bucket_Swap (p1 : ByteArray) (p2 : ByteArray) (p3 : ByteArray) (p4 : (List (ByteArray × List Int))) : CM Try.prog 13 [.one (.pt 0 0 0 0), vs p1, vs p2] [.box [.mp 1, cst p3], mB (fun b : List Int => PV.ro ((eK .u8).els b)) p4] (lake_Bucket_Swap p1 p2 p3 p4) (fun r => vi r.1) (fun r => [.box [.mp 1, cst r.2.1], mB (fun b : List Int => PV.ro ((eK .u8).els b)) r.2.2]) :=
  uFnM 2 30 [] Try.f13 fun r => (uEl (fun b : List Int => PV.ro ((eK .u8).els b)) 1 [] 9 27 fun x1 _ => (uC (uR .ret xFM) (uC (uR .ret xFM) (uR .ret xFM))))

def ref4_Bucket_Swap (p1 : ByteArray) (p2 : ByteArray) (p3 : GRBucket) : Option (Int × GRBucket) :=
    bnd (ref4_Bucket_find p2 p3.root p3.objects) fun r1 =>
    ift (decide (r1 < (0 : Int)))
      (some ((9 : Int), p3))
      (ift (!(p3.root.toList == p1.toList))
         (some ((10 : Int), p3))
         (some ((0 : Int), (GRBucket.mk p3.objects p2))))


theorem c_ref4_Bucket_Swap (p1 : ByteArray) (p2 : ByteArray) (p3 : GRBucket) : CX Try.prog 14 [.one (.pt 0 0 0 0), vs p1, vs p2] [.box [.sl 1 7 0 p3.objects.length, cst p3.root], .arr 7 (eObject.els p3.objects)] [1] (ref4_Bucket_Swap p1 p2 p3) (fun r => vi r.1) (fun r => [.box [.sl 1 7 0 r.2.objects.length, cst r.2.root], .arr 7 (eObject.els r.2.objects)]) :=
  uFnX 2 2 21 [] Try.f14 fun r => (uMc true [0,1] (c_ref4_Bucket_find _ _ _) fun r1 _ => (uC (uR .ret xFM) (uC (uR .ret xFM) (uR .ret xFM))))

def slices_Clip_string_string (p1 : (List ByteArray)) : Option (List ByteArray) :=
    grd (0 ≤ (0 : Int) ∧ (0 : Int) ≤ (p1.length : Int) ∧ (p1.length : Int) ≤ (p1.length : Int) ∧ (p1.length : Int) ≤ (p1.length : Int)) <|
    some ((p1.drop (0 : Int).toNat).take ((p1.length : Int).toNat - (0 : Int).toNat))


theorem c_slices_Clip_string_string (p1 : (List ByteArray)) : CT Try.prog 25 [vl eS p1] (slices_Clip_string_string p1) (vl eS) :=
  uFn 9 [] Try.f25 fun r => (uN eS p1 (uN eS p1 (uXm eS (uR .ret xF))))

def lake_Bucket_List (p1 : ByteArray) (p2 : (List (ByteArray × List Int))) : Option (List ByteArray) :=
    bnd (some ()) fun r1 =>
    bnd (sorted_keys p2) fun r2 =>
    bnd (slices_Clip_string_string r2) fun r3 =>
    some r3


theorem c_lake_Bucket_List (p1 : ByteArray) (p2 : (List (ByteArray × List Int))) : CM Try.prog 16 [.one (.pt 0 0 0 0)] [.box [.mp 1, cst p1], mB (fun b : List Int => PV.ro ((eK .u8).els b)) p2] (lake_Bucket_List p1 p2) (vl eS) (fun r => [.box [.mp 1, cst p1], mB (fun b : List Int => PV.ro ((eK .u8).els b)) p2]) :=
  uFnM 2 10 [] Try.f16 fun r => (uMx false [1] (c_maps_Keys (fun b : List Int => PV.ro ((eK .u8).els b)) p2) fun r1 _ => (uMc false [1,2] (c_sorted_keys (fun b : List Int => PV.ro ((eK .u8).els b)) p2) fun r2 _ => (uP (c_slices_Clip_string_string _) fun r3 _ => (uR .ret xFM))))

def law4_texts_j1 : Option Bool :=
    some true

def law4_texts_l1 (p1 : (List ByteArray)) (p2 : (List ByteArray)) : Nat → Int → Option Bool
  | 0, _ => none
  | k1 + 1, x1 =>
    ift (decide (x1 < (p1.length : Int)))
      (bnd (at? p1 x1) fun e1 =>
       bnd (at? p2 x1) fun e2 =>
       ift (!(e1.toList == e2.toList))
         (some false)
         ((law4_texts_l1 p1 p2 k1) (IntKind.i64.wrap (x1 + (1 : Int)))))
      (law4_texts_j1)

def law4_texts (p1 : (List ByteArray)) (p2 : (List ByteArray)) : Option Bool :=
    ift ((p1.length : Int) != (p2.length : Int))
      (some false)
      (law4_texts_l1 p1 p2 BIG (0 : Int))


theorem c_law4_texts (p1 : (List ByteArray)) (p2 : (List ByteArray)) : CT Try.prog 15 [vl eS p1, vl eS p2] (law4_texts p1 p2) vb :=
  uFn 26 [] Try.f15 fun r => (uN eS p1 (uN eS p2 (uC (uR .ret xF) (uQ (kS Try.f15 [1,1,0] 1) fun K6 hK6 => have hJ1 : ∀ (_ : Unit), law4_texts_j1 = some r → K6.p [] [] := fun _ h => hK6 h (uR .ret xF); (uN eS p1 (uO (cd Try.f15 [1,1,0,1,0,0]) (kS Try.f15 [1,1,0,1,0] 1) fun R1 b1 => have hL1 : ∀ (k1 : Nat) (x1 : Int), law4_texts_l1 p1 p2 k1 x1 = some r → (R1 k1).p [(0, vl eS p1), (1, vl eS p2), (12, vi (p1.length : Int)), (13, vi x1)] [] := by intro k1; induction k1 with | zero => intro x1 h; exact uE0 (law4_texts_l1.eq_1 ..) h | succ k1 ih1 => intro x1 h; exact b1 h (uU (law4_texts_l1.eq_2 ..) (uC (uDr 8 (uL eS fun e1 a14 => (uL eS fun e2 a15 => (uC (uR .ret (xN (xN xF))) (uJ (ih1 (IntKind.i64.wrap (x1 + (1 : Int))))))))) (uR (.exit 0) (xM (uJ (hJ1 ()))))))
 uE (hL1 BIG (0 : Int))))))))

def lake_Bucket_Root (p1 : ByteArray) (p2 : (List (ByteArray × List Int))) : Option ByteArray :=
    some p1


theorem c_lake_Bucket_Root (p1 : ByteArray) (p2 : (List (ByteArray × List Int))) : CM Try.prog 17 [.one (.pt 0 0 0 0)] [.box [.mp 1, cst p1], mB (fun b : List Int => PV.ro ((eK .u8).els b)) p2] (lake_Bucket_Root p1 p2) vs (fun r => [.box [.mp 1, cst p1], mB (fun b : List Int => PV.ro ((eK .u8).els b)) p2]) :=
  uFnM 2 7 [] Try.f17 fun r => (uR .ret xFM)

def ref4_Bucket_Root (p1 : ByteArray) (p2 : (List GObject)) : Option ByteArray :=
    some p1


theorem c_ref4_Bucket_Root (p1 : ByteArray) (p2 : (List GObject)) : CM Try.prog 18 [.one (.pt 0 0 0 0)] [.box [.sl 1 7 0 p2.length, cst p1], .arr 7 (eObject.els p2)] (ref4_Bucket_Root p1 p2) vs (fun r => [.box [.sl 1 7 0 p2.length, cst p1], .arr 7 (eObject.els p2)]) :=
  uFnM 2 7 [] Try.f18 fun r => (uR .ret xFM)

def law4_LakeBucketsMatchSpec_j7 (rec1 : List ByteArray → List ByteArray → List GObject → (List (ByteArray × List Int)) → ByteArray → ByteArray → Int → Option Bool) (x2 : Int) (l4 : List ByteArray) (l5 : List ByteArray) (l6 : List GObject) (z6 : (List (ByteArray × List Int))) (z7 : ByteArray) (z8 : ByteArray) (x8 : Bool) : Option Bool :=
    ift x8
      (some false)
      (rec1 l4 l5 l6 z6 z7 z8 (IntKind.i64.wrap (x2 + (1 : Int))))

def law4_LakeBucketsMatchSpec_j6 (rec1 : List ByteArray → List ByteArray → List GObject → (List (ByteArray × List Int)) → ByteArray → ByteArray → Int → Option Bool) (x2 : Int) (l4 : List ByteArray) (l5 : List ByteArray) (l6 : List GObject) (z6 : (List (ByteArray × List Int))) (z7 : ByteArray) (z8 : ByteArray) : Option Bool :=
    bnd (lake_Bucket_List z7 z6) fun r15 =>
    bnd (ref4_Bucket_List z8 l6) fun r16 =>
    bnd (law4_texts r15 r16) fun r17 =>
    ift (!r17)
      (law4_LakeBucketsMatchSpec_j7 rec1 x2 l4 l5 l6 z6 z7 z8 true)
      (bnd (lake_Bucket_Root z7 z6) fun r18 =>
       bnd (ref4_Bucket_Root z8 l6) fun r19 =>
       law4_LakeBucketsMatchSpec_j7 rec1 x2 l4 l5 l6 z6 z7 z8 (!(r18.toList == r19.toList)))

def law4_LakeBucketsMatchSpec_j5 (rec1 : List ByteArray → List ByteArray → List GObject → (List (ByteArray × List Int)) → ByteArray → ByteArray → Int → Option Bool) (l1 : List ByteArray) (l2 : List ByteArray) (l3 : List GObject) (z3 : (List (ByteArray × List Int))) (z4 : ByteArray) (z5 : ByteArray) (x2 : Int) (x7 : Bool) : Option Bool :=
    ift x7
      (some false)
      (law4_LakeBucketsMatchSpec_j6 rec1 x2 l1 l2 l3 z3 z4 z5)

def law4_LakeBucketsMatchSpec_j4 (rec1 : List ByteArray → List ByteArray → List GObject → (List (ByteArray × List Int)) → ByteArray → ByteArray → Int → Option Bool) (l1 : List ByteArray) (l2 : List ByteArray) (l3 : List GObject) (z3 : (List (ByteArray × List Int))) (z4 : ByteArray) (z5 : ByteArray) (x2 : Int) (r8 : ((List Int) × Int)) (x6 : Bool) : Option Bool :=
    ift x6
      (some false)
      (ift (r8.2 != (0 : Int))
         (law4_LakeBucketsMatchSpec_j5 rec1 l1 l2 l3 z3 z4 z5 x2 (r8.2 != (9 : Int)))
         (law4_LakeBucketsMatchSpec_j5 rec1 l1 l2 l3 z3 z4 z5 x2 false))

def law4_LakeBucketsMatchSpec_j3 (rec1 : List ByteArray → List ByteArray → List GObject → (List (ByteArray × List Int)) → ByteArray → ByteArray → Int → Option Bool) (l1 : List ByteArray) (l2 : List ByteArray) (l3 : List GObject) (z3 : (List (ByteArray × List Int))) (z4 : ByteArray) (z5 : ByteArray) (x2 : Int) (e1 : GBucketOp) (r8 : ((List Int) × Int)) (x5 : Int) : Option Bool :=
    bnd (ref4_Bucket_List z5 l3) fun r9 =>
    bnd (law4_listed r9 e1.name) fun r10 =>
    ift (!((r8.2 == (0 : Int)) == r10))
      (law4_LakeBucketsMatchSpec_j4 rec1 l1 l2 l3 z3 z4 z5 x2 r8 true)
      (ift (r8.2 == (0 : Int))
         (bnd (at? l2 x5) fun e3 =>
          law4_LakeBucketsMatchSpec_j4 rec1 l1 l2 l3 z3 z4 z5 x2 r8 (!((strOfNums r8.1).toList == e3.toList)))
         (law4_LakeBucketsMatchSpec_j4 rec1 l1 l2 l3 z3 z4 z5 x2 r8 false))

def law4_LakeBucketsMatchSpec_j2 (rec1 : List ByteArray → List ByteArray → List GObject → (List (ByteArray × List Int)) → ByteArray → ByteArray → Int → Option Bool) (rec2 : Int → Option Bool) (l1 : List ByteArray) (l2 : List ByteArray) (l3 : List GObject) (z3 : (List (ByteArray × List Int))) (z4 : ByteArray) (z5 : ByteArray) (x2 : Int) (e1 : GBucketOp) (r8 : ((List Int) × Int)) (x3 : Int) (x4 : Bool) : Option Bool :=
    ift x4
      (rec2 (IntKind.i64.wrap (x3 - (1 : Int))))
      (law4_LakeBucketsMatchSpec_j3 rec1 l1 l2 l3 z3 z4 z5 x2 e1 r8 x3)

def law4_LakeBucketsMatchSpec_l2 (rec1 : List ByteArray → List ByteArray → List GObject → (List (ByteArray × List Int)) → ByteArray → ByteArray → Int → Option Bool) (l1 : List ByteArray) (l2 : List ByteArray) (l3 : List GObject) (z3 : (List (ByteArray × List Int))) (z4 : ByteArray) (z5 : ByteArray) (x2 : Int) (e1 : GBucketOp) (r8 : ((List Int) × Int)) : Nat → Int → Option Bool
  | 0, _ => none
  | k2 + 1, x3 =>
    ift (decide ((0 : Int) ≤ x3))
      (bnd (at? l1 x3) fun e2 =>
       law4_LakeBucketsMatchSpec_j2 rec1 (law4_LakeBucketsMatchSpec_l2 rec1 l1 l2 l3 z3 z4 z5 x2 e1 r8 k2) l1 l2 l3 z3 z4 z5 x2 e1 r8 x3 (!(e2.toList == e1.name.toList)))
      (law4_LakeBucketsMatchSpec_j2 rec1 (law4_LakeBucketsMatchSpec_l2 rec1 l1 l2 l3 z3 z4 z5 x2 e1 r8 k2) l1 l2 l3 z3 z4 z5 x2 e1 r8 x3 false)

def law4_LakeBucketsMatchSpec_j8 : Option Bool :=
    some true

def law4_LakeBucketsMatchSpec_l1 (p1 : (List GBucketOp)) : Nat → List ByteArray → List ByteArray → List GObject → (List (ByteArray × List Int)) → ByteArray → ByteArray → Int → Option Bool
  | 0, _, _, _, _, _, _, _ => none
  | k1 + 1, l1, l2, l3, z3, z4, z5, x2 =>
    ift (decide (x2 < (p1.length : Int)))
      (bnd (at? p1 x2) fun e1 =>
       ift (e1.kind == (0 : Int))
         (bnd (lake_Bucket_Put e1.name e1.data z4 z3) fun r6 =>
          bnd (ref4_Bucket_Put e1.name e1.data (GRBucket.mk l3 z5)) fun r7 =>
          ift (r6.1 != r7.1)
            (some false)
            (ift (r6.1 == (0 : Int))
               (grd (l1.length + 1 ≤ 4294967296) <|
                grd (l2.length + 1 ≤ 4294967296) <|
                law4_LakeBucketsMatchSpec_j6 (law4_LakeBucketsMatchSpec_l1 p1 k1) x2 (l1 ++ [e1.name]) (l2 ++ [(strOfNums e1.data)]) r7.2.objects r6.2.2 r6.2.1 r7.2.root)
               (law4_LakeBucketsMatchSpec_j6 (law4_LakeBucketsMatchSpec_l1 p1 k1) x2 l1 l2 r7.2.objects r6.2.2 r6.2.1 r7.2.root)))
         (ift (e1.kind == (1 : Int))
            (bnd (lake_Bucket_Get e1.name z4 z3) fun r8 =>
             law4_LakeBucketsMatchSpec_l2 (law4_LakeBucketsMatchSpec_l1 p1 k1) l1 l2 l3 z3 z4 z5 x2 e1 r8 BIG (IntKind.i64.wrap (((l1.length : Nat) : Int) - (1 : Int))))
            (ift (e1.kind == (2 : Int))
               (bnd (lake_Bucket_Remove e1.name z4 z3) fun r11 =>
                bnd (ref4_Bucket_Remove e1.name (GRBucket.mk l3 z5)) fun r12 =>
                ift (r11.1 != r12.1)
                  (some false)
                  (law4_LakeBucketsMatchSpec_j6 (law4_LakeBucketsMatchSpec_l1 p1 k1) x2 l1 l2 r12.2.objects r11.2.2 r11.2.1 r12.2.root))
               (bnd (lake_Bucket_Swap e1.old e1.name z4 z3) fun r13 =>
                bnd (ref4_Bucket_Swap e1.old e1.name (GRBucket.mk l3 z5)) fun r14 =>
                ift (r13.1 != r14.1)
                  (some false)
                  (law4_LakeBucketsMatchSpec_j6 (law4_LakeBucketsMatchSpec_l1 p1 k1) x2 l1 l2 r14.2.objects r13.2.2 r13.2.1 r14.2.root)))))
      (law4_LakeBucketsMatchSpec_j8)

def law4_LakeBucketsMatchSpec_j1 (p1 : (List GBucketOp)) (z1 : (List (ByteArray × List Int))) (z2 : ByteArray) (x1 : Bool) : Option Bool :=
    ift x1
      (some false)
      (bnd (ref4_NewBucket) fun r5 =>
       law4_LakeBucketsMatchSpec_l1 p1 BIG [] [] [] z1 z2 ByteArray.empty (0 : Int))

def law4_LakeBucketsMatchSpec (p1 : (List GBucketOp)) : Option Bool :=
    bnd (lake_NewBucket) fun r1 =>
    bnd (lake_Bucket_Put (ByteArray.mk #[120]) [(49 : Int)] ByteArray.empty []) fun r2 =>
    ift (r2.1 != (0 : Int))
      (law4_LakeBucketsMatchSpec_j1 p1 r2.2.2 r2.2.1 true)
      (bnd (lake_Bucket_Put (ByteArray.mk #[120]) [(49 : Int)] r2.2.1 r2.2.2) fun r3 =>
       ift (r3.1 != (5 : Int))
         (law4_LakeBucketsMatchSpec_j1 p1 r3.2.2 r3.2.1 true)
         (bnd (lake_Bucket_Remove (ByteArray.mk #[120]) r3.2.1 r3.2.2) fun r4 =>
          law4_LakeBucketsMatchSpec_j1 p1 r4.2.2 r4.2.1 (r4.1 != (0 : Int))))

abbrev qa169 (e1 : GBucketOp) : List CV := [ci e1.kind, cst e1.name, cst e1.old, cl (eK .u8) e1.data]
abbrev qa177 (l1 : List ByteArray) (l2 : List ByteArray) (l3 : List GObject) (z3 : (List (ByteArray × List Int))) (z4 : ByteArray) (z5 : ByteArray) (e1 : GBucketOp) : St := [mB (fun b : List Int => PV.ro ((eK .u8).els b)) z3, .box [.mp 0, cst z4], .box [.sl 5 7 0 l3.length, cst z5], .arr 1 (eS.els l1), .arr 1 (eS.els l2), .arr 7 (eObject.els l3), .box (qa169 e1)]

theorem c_law4_LakeBucketsMatchSpec (p1 : (List GBucketOp)) : CT Try.prog 3 [vl eBucketOp p1] (law4_LakeBucketsMatchSpec p1) vb :=
  uFn 163 [8] Try.f3 fun r => (uMx true [] c_lake_NewBucket fun r1 _ => (uQ (kS Try.f3 [1,1,0,0] 2) fun K5 hK5 => have hJ1 : ∀ (z1 : (List (ByteArray × List Int))) (z2 : ByteArray) (x1 : Bool), law4_LakeBucketsMatchSpec_j1 p1 z1 z2 x1 = some r → K5.p [(0, vl eBucketOp p1), (3, .one (.pt 1 0 0 0)), (34, vb x1)] [mB (fun b : List Int => PV.ro ((eK .u8).els b)) z1, .box [.mp 0, cst z2]] := fun z1 z2 x1 h => hK5 h (uC (uR .ret xF) (uMx true [] c_ref4_NewBucket fun r5 _ => (uQ (kS Try.f3 [1,1,1,1,1,1,0] 1) fun K17 hK17 => have hJ8 : ∀ (_ : Unit), law4_LakeBucketsMatchSpec_j8 = some r → K17.p [] [.dead, .dead, .dead] := fun _ h => hK17 h (uR .ret xF); (uN eBucketOp p1 (uCv (.li 5 1) (uCv (.li 6 1) (uCv (.lb 2 0 7) (uO (cd Try.f3 [1,1,1,1,1,1,0,1,0,0]) (kS Try.f3 [1,1,1,1,1,1,0,1,0] 1) fun R1 b1 => have hL1 : ∀ (k1 : Nat) (l1 : List ByteArray) (l2 : List ByteArray) (l3 : List GObject) (z3 : (List (ByteArray × List Int))) (z4 : ByteArray) (z5 : ByteArray) (x2 : Int), law4_LakeBucketsMatchSpec_l1 p1 k1 l1 l2 l3 z3 z4 z5 x2 = some r → (R1 k1).p [(3, .one (.pt 1 0 0 0)), (4, .one (.pt 2 0 0 0)), (5, .one (.sl 3 1 0 l1.length)), (6, .one (.sl 4 1 0 l2.length)), (36, vl eBucketOp p1), (37, vi (p1.length : Int)), (38, vi x2)] [mB (fun b : List Int => PV.ro ((eK .u8).els b)) z3, .box [.mp 0, cst z4], .box [.sl 5 7 0 l3.length, cst z5], .arr 1 (eS.els l1), .arr 1 (eS.els l2), .arr 7 (eObject.els l3)] := by intro k1; induction k1 with | zero => intro l1 l2 l3 z3 z4 z5 x2 h; exact uE0 (law4_LakeBucketsMatchSpec_l1.eq_1 ..) h | succ k1 ih1 => intro l1 l2 l3 z3 z4 z5 x2 h; exact b1 h (uU (law4_LakeBucketsMatchSpec_l1.eq_2 ..) (uC (uL eBucketOp fun e1 a24 => (uQ (kS Try.f3 [1,1,1,1,1,1,0,1,0,0,1,1,0,0,1,0] 3) fun K25 hK25 => have hJ6 : ∀ (l4 : List ByteArray) (l5 : List ByteArray) (l6 : List GObject) (z6 : (List (ByteArray × List Int))) (z7 : ByteArray) (z8 : ByteArray), law4_LakeBucketsMatchSpec_j6 (law4_LakeBucketsMatchSpec_l1 p1 k1) x2 l4 l5 l6 z6 z7 z8 = some r → K25.p [(3, .one (.pt 1 0 0 0)), (4, .one (.pt 2 0 0 0)), (5, .one (.sl 3 1 0 l4.length)), (6, .one (.sl 4 1 0 l5.length)), (36, vl eBucketOp p1), (37, vi (p1.length : Int)), (38, vi x2)] [mB (fun b : List Int => PV.ro ((eK .u8).els b)) z6, .box [.mp 0, cst z7], .box [.sl 5 7 0 l6.length, cst z8], .arr 1 (eS.els l4), .arr 1 (eS.els l5), .arr 7 (eObject.els l6), .dead] := fun l4 l5 l6 z6 z7 z8 h => hK25 h (uQ (kS Try.f3 [1,1,1,1,1,1,0,1,0,0,1,1,0,0,1,1,0] 3) fun K76 hK76 => have hJ7 : ∀ (x8 : Bool), law4_LakeBucketsMatchSpec_j7 (law4_LakeBucketsMatchSpec_l1 p1 k1) x2 l4 l5 l6 z6 z7 z8 x8 = some r → K76.p [(3, .one (.pt 1 0 0 0)), (4, .one (.pt 2 0 0 0)), (5, .one (.sl 3 1 0 l4.length)), (6, .one (.sl 4 1 0 l5.length)), (36, vl eBucketOp p1), (37, vi (p1.length : Int)), (38, vi x2), (161, vb x8)] [mB (fun b : List Int => PV.ro ((eK .u8).els b)) z6, .box [.mp 0, cst z7], .box [.sl 5 7 0 l6.length, cst z8], .arr 1 (eS.els l4), .arr 1 (eS.els l5), .arr 7 (eObject.els l6), .dead] := fun x8 h => hK76 h (uC (uR .ret (xN (xN xF))) (uJ (ih1 l4 l5 l6 z6 z7 z8 (IntKind.i64.wrap (x2 + (1 : Int)))))); (uMc true [1,0] (c_lake_Bucket_List _ _) fun r15 _ => (uMc true [2,5] (c_ref4_Bucket_List _ _) fun r16 _ => (uP (c_law4_texts _ _) fun r17 _ => (uC (uJ (hJ7 true)) (uMc true [1,0] (c_lake_Bucket_Root _ _) fun r18 _ => (uMc true [2,5] (c_ref4_Bucket_Root _ _) fun r19 _ => (uJ (hJ7 (!(r18.toList == r19.toList))))))))))); (uC (uMc true [1,0] (c_lake_Bucket_Put _ _ _ _) fun r6 _ => (uMx true [2,5] (c_ref4_Bucket_Put _ _ _) fun r7 _ => (uC (uR .ret (xN (xN (xN xF)))) (uC (uGr 10 0 [3,7] (uAp eS 3 [e1.name] (uB e1.data (uAp eS 4 [(strOfNums e1.data)] (uJ (hJ6 (l1 ++ [e1.name]) (l2 ++ [(strOfNums e1.data)]) r7.2.objects r6.2.2 r6.2.1 r7.2.root)))))) (uJ (hJ6 l1 l2 r7.2.objects r6.2.2 r6.2.1 r7.2.root)))))) (uC (uMc true [1,0] (c_lake_Bucket_Get _ _ _) fun r8 _ => (uQ (kS Try.f3 [1,1,1,1,1,1,0,1,0,0,1,1,0,0,1,0,1,0,1,1,1,0,1,1,0] 2) fun K45 hK45 => have hJ3 : ∀ (x5 : Int), law4_LakeBucketsMatchSpec_j3 (law4_LakeBucketsMatchSpec_l1 p1 k1) l1 l2 l3 z3 z4 z5 x2 e1 r8 x5 = some r → K45.p [(3, .one (.pt 1 0 0 0)), (4, .one (.pt 2 0 0 0)), (5, .one (.sl 3 1 0 l1.length)), (6, .one (.sl 4 1 0 l2.length)), (8, .one (.pt 6 0 0 0)), (10, vl (eK .u8) r8.1), (11, vi r8.2), (12, vi x5), (36, vl eBucketOp p1), (37, vi (p1.length : Int)), (38, vi x2)] (qa177 l1 l2 l3 z3 z4 z5 e1) := fun x5 h => hK45 h (uQ (kS Try.f3 [1,1,1,1,1,1,0,1,0,0,1,1,0,0,1,0,1,0,1,1,1,0,1,1,1,0,0] 3) fun K52 hK52 => have hJ4 : ∀ (x6 : Bool), law4_LakeBucketsMatchSpec_j4 (law4_LakeBucketsMatchSpec_l1 p1 k1) l1 l2 l3 z3 z4 z5 x2 r8 x6 = some r → K52.p [(3, .one (.pt 1 0 0 0)), (4, .one (.pt 2 0 0 0)), (5, .one (.sl 3 1 0 l1.length)), (6, .one (.sl 4 1 0 l2.length)), (11, vi r8.2), (36, vl eBucketOp p1), (37, vi (p1.length : Int)), (38, vi x2), (131, vb x6)] [mB (fun b : List Int => PV.ro ((eK .u8).els b)) z3, .box [.mp 0, cst z4], .box [.sl 5 7 0 l3.length, cst z5], .arr 1 (eS.els l1), .arr 1 (eS.els l2), .arr 7 (eObject.els l3), .dead] := fun x6 h => hK52 h (uC (uR .ret (xN (xN (xN xF)))) (uQ (kS Try.f3 [1,1,1,1,1,1,0,1,0,0,1,1,0,0,1,0,1,0,1,1,1,0,1,1,1,1,0] 2) fun K60 hK60 => have hJ5 : ∀ (x7 : Bool), law4_LakeBucketsMatchSpec_j5 (law4_LakeBucketsMatchSpec_l1 p1 k1) l1 l2 l3 z3 z4 z5 x2 x7 = some r → K60.p [(3, .one (.pt 1 0 0 0)), (4, .one (.pt 2 0 0 0)), (5, .one (.sl 3 1 0 l1.length)), (6, .one (.sl 4 1 0 l2.length)), (36, vl eBucketOp p1), (37, vi (p1.length : Int)), (38, vi x2), (137, vb x7)] [mB (fun b : List Int => PV.ro ((eK .u8).els b)) z3, .box [.mp 0, cst z4], .box [.sl 5 7 0 l3.length, cst z5], .arr 1 (eS.els l1), .arr 1 (eS.els l2), .arr 7 (eObject.els l3), .dead] := fun x7 h => hK60 h (uC (uR .ret (xN (xN (xN xF)))) (uJ (hJ6 l1 l2 l3 z3 z4 z5))); (uC (uJ (hJ5 (r8.2 != (9 : Int)))) (uJ (hJ5 false))))); (uGr 18 0 [7] (uMg [2,5] (c_ref4_Bucket_List _ _) fun r9 _ => (uP (c_law4_listed _ _) fun r10 _ => (uC (uJ (hJ4 true)) (uC (uB r8.1 (uIa eS 4 fun e3 a57 => (uLd eS a57 (uJ (hJ4 (!((strOfNums r8.1).toList == e3.toList))))))) (uJ (hJ4 false)))))))); (uO (cd Try.f3 [1,1,1,1,1,1,0,1,0,0,1,1,0,0,1,0,1,0,1,1,1,0,1,1,0,0,0]) (kS Try.f3 [1,1,1,1,1,1,0,1,0,0,1,1,0,0,1,0,1,0,1,1,1,0,1,1,0,0] 1) fun R2 b2 => have hL2 : ∀ (k2 : Nat) (x3 : Int), law4_LakeBucketsMatchSpec_l2 (law4_LakeBucketsMatchSpec_l1 p1 k1) l1 l2 l3 z3 z4 z5 x2 e1 r8 k2 x3 = some r → (R2 k2).p [(3, .one (.pt 1 0 0 0)), (4, .one (.pt 2 0 0 0)), (5, .one (.sl 3 1 0 l1.length)), (6, .one (.sl 4 1 0 l2.length)), (8, .one (.pt 6 0 0 0)), (10, vl (eK .u8) r8.1), (11, vi r8.2), (12, vi x3), (36, vl eBucketOp p1), (37, vi (p1.length : Int)), (38, vi x2)] (qa177 l1 l2 l3 z3 z4 z5 e1) := by intro k2; induction k2 with | zero => intro x3 h; exact uE0 (law4_LakeBucketsMatchSpec_l2.eq_1 ..) h | succ k2 ih2 => intro x3 h; exact b2 h (uU (law4_LakeBucketsMatchSpec_l2.eq_2 ..) (uQ (kS Try.f3 [1,1,1,1,1,1,0,1,0,0,1,1,0,0,1,0,1,0,1,1,1,0,1,1,0,0,0,0,0] 2) fun K47 hK47 => have hJ2 : ∀ (x4 : Bool), law4_LakeBucketsMatchSpec_j2 (law4_LakeBucketsMatchSpec_l1 p1 k1) (law4_LakeBucketsMatchSpec_l2 (law4_LakeBucketsMatchSpec_l1 p1 k1) l1 l2 l3 z3 z4 z5 x2 e1 r8 k2) l1 l2 l3 z3 z4 z5 x2 e1 r8 x3 x4 = some r → K47.p [(3, .one (.pt 1 0 0 0)), (4, .one (.pt 2 0 0 0)), (5, .one (.sl 3 1 0 l1.length)), (6, .one (.sl 4 1 0 l2.length)), (8, .one (.pt 6 0 0 0)), (10, vl (eK .u8) r8.1), (11, vi r8.2), (12, vi x3), (36, vl eBucketOp p1), (37, vi (p1.length : Int)), (38, vi x2), (108, vb x4)] (qa177 l1 l2 l3 z3 z4 z5 e1) := fun x4 h => hK47 h (uC (uJ (ih2 (IntKind.i64.wrap (x3 - (1 : Int))))) (uR (.exit 3) (xM (uJ (hJ3 x3))))); (uDr 9 (uC (uIa eS 3 fun e2 a49 => (uLd eS a49 (uJ (hJ2 (!(e2.toList == e1.name.toList)))))) (uJ (hJ2 false))))))
 uE (hL2 BIG (IntKind.i64.wrap (((l1.length : Nat) : Int) - (1 : Int))))))) (uC (uGr 7 0 [7] (uMg [1,0] (c_lake_Bucket_Remove _ _ _) fun r11 _ => (uMx true [2,5] (c_ref4_Bucket_Remove _ _) fun r12 _ => (uC (uR .ret (xN (xN (xN xF)))) (uJ (hJ6 l1 l2 r12.2.objects r11.2.2 r11.2.1 r12.2.root)))))) (uGr 11 0 [7] (uMg [1,0] (c_lake_Bucket_Swap _ _ _ _) fun r13 _ => (uMx true [2,5] (c_ref4_Bucket_Swap _ _ _) fun r14 _ => (uC (uR .ret (xN (xN (xN xF)))) (uJ (hJ6 l1 l2 r14.2.objects r13.2.2 r13.2.1 r14.2.root))))))))))) (uR (.exit 0) (xM (uJ (hJ8 ()))))))
 uE (hL1 BIG [] [] [] z1 z2 ByteArray.empty (0 : Int)))))))))); (uPq false (uF (uBc1 18 (49 : Int) (uMc true [1,0] (c_lake_Bucket_Put _ _ _ _) fun r2 _ => (uC (uJ (hJ1 r2.2.2 r2.2.1 true)) (uBc1 25 (49 : Int) (uMc true [1,0] (c_lake_Bucket_Put _ _ _ _) fun r3 _ => (uC (uJ (hJ1 r3.2.2 r3.2.1 true)) (uMc true [1,0] (c_lake_Bucket_Remove _ _ _) fun r4 _ => (uJ (hJ1 r4.2.2 r4.2.1 (r4.1 != (0 : Int)))))))))))))))


end Go.Proofs.Ytliijalplckcnaa
