/- SX, eleventh part: the evaluator is sound. -/
import Derived.Test.YtdkmclmdemngfaaDoorSxEv2
namespace Go.SX
open Go
set_option linter.unusedVariables false
set_option linter.unusedSimpArgs false
set_option linter.unnecessarySimpa false

variable {P : Program} {ι : IM} {w : World} {st : St}

theorem run_len {t : TypeId} {av : AV} {n : Int} {v : Value} (h : lenAt P t av = some n) (hv : AVRel ι w st v av) (ty : TypeId) : (Builtin.len_ #[t] ty #[v]).run P w = .ok (.int .i64 n) w := by
  unfold lenAt at h
  cases hu : P.underlying t with
  | none => simp [hu] at h
  | some d =>
    cases d <;> try (simp [hu] at h; done)
    case string =>
      simp only [hu] at h
      split at h
      · rename_i s hq
        simp at h
        rw [scalar_of hv, ← h]
        simp [Builtin.len_, run_underlying hu, goInt]
      · simp at h
    case array len e =>
      simp only [hu, Option.some.injEq] at h
      subst h
      simp [Builtin.len_, run_underlying hu, goInt]
    case slice e =>
      simp only [hu] at h
      cases hv with
      | j => simp at h
      | ag => simp at h
      | tp => simp at h
      | one v c hc =>
        simp only [Option.map_eq_some_iff] at h
        obtain ⟨m, hm, rfl⟩ := h
        cases hc with
        | pv _ p hp =>
         cases hp with
         | s _ hp =>
          cases v <;> try (simp [lenCV] at hm; done)
          rename_i ao p q
          cases ao with
          | some a => simp [lenCV] at hm
          | none =>
            cases p <;> cases q <;> try (simp [lenCV] at hm; done)
            simp [lenCV] at hm
            subst hm
            simp [Builtin.len_, run_underlying hu, goInt]
         | nl => simp [lenCV] at hm; subst hm; simp [Builtin.len_, run_underlying hu, goInt]
         | ro => simp [lenCV] at hm; subst hm; simp [Builtin.len_, run_underlying hu, goInt]
         | rp => simp [lenCV] at hm
         | fn => simp [lenCV] at hm
        | sl => simp [lenCV] at hm; subst hm; simp [Builtin.len_, run_underlying hu, goInt]
        | sn => simp [lenCV] at hm; subst hm; simp [Builtin.len_, run_underlying hu, goInt]
        | pt => simp [lenCV] at hm
        | mp => simp [lenCV] at hm
        | fn => simp [lenCV] at hm

theorem bop_plain {op : BinOp} {x y v : Value} {ob : List Prop} (h : bop op x y = some (v, ob)) : plain v = true := by
  unfold bop at h
  split at h
  · rename_i k a k' b
    cases op
    case shl => simp only [Option.some.injEq, Prod.mk.injEq] at h; obtain ⟨rfl, _⟩ := h; rfl
    case shr => simp only [Option.some.injEq, Prod.mk.injEq] at h; obtain ⟨rfl, _⟩ := h; rfl
    all_goals
      by_cases hk : k = k'
      · simp only [hk, decide_true, cond_true] at h
        first
          | (simp only [Option.some.injEq, Prod.mk.injEq] at h; obtain ⟨rfl, _⟩ := h; rfl)
          | (simp at h; done)
      · simp [hk] at h
  · cases op <;> first
      | (simp only [Option.some.injEq, Prod.mk.injEq] at h; obtain ⟨rfl, _⟩ := h; rfl)
      | (simp at h; done)
  · simp at h

theorem run_zero {t : TypeId} {i : TypeInfo} {z : Value} (hi : P.info? t = some i) (hz : i.zero = some z) (w : World) : (zeroValue t).run P w = .ok z w := by
  simp [zeroValue, typeInfo, hi, hz]

theorem made_get {z : Array Value} {n q : Nat} (hs : 0 < z.size) (h : q < n * z.size) : (madeCells z (n * z.size))[q]? = some (z.toList.getD (q % z.size) undef) := by
  have hlt : q % z.size < z.size := Nat.mod_lt _ hs
  have : ((Array.range (n * z.size)).map (z[· % z.size]!))[q]? = some (z[q % z.size]!) := by simp [h]
  simp only [madeCells]
  rw [this, getElem!_pos z _ hlt]
  simp [List.getD, hlt]

theorem ev_sound {mu : Bool} {o : Oper} {fr : Fr} {hs : HS} {out : Out} (h : ev P mu o fr st hs = some out) (hob : AllP out.ob) (r : Rel ι w st) {n : Nat} {a : Act} (hF : FRel n ι w st a fr) :
    OpOK P o a ι w st out := by
  unfold ev at h
  cases hop : o.op
  case move x =>
    simp only [hop, Option.some.injEq] at h
    subst h
    exact .still r (by simp [execOp, hop]) (rv_rel hF x)
  case assign x =>
    simp only [hop] at h
    cases mu with
    | false =>
      simp only [Option.some.injEq] at h
      subst h
      exact .still r (by simp [execOp, hop]) (rv_rel hF x)
    | true =>
      simp only at h
      split at h
      · split at h
        · rename_i e hu
          split at h
          · rename_i sz hn
            simp only [Option.some.injEq] at h
            subst h
            obtain ⟨a1, a2, a3⟩ := row_nil (ι := ι) (w := w) (st := st) r sz
            exact ⟨_, _, _, .inl (by simp [execOp, hop, Act.eval]), a1, .one _ _ a3, a2.weaken (fun _ _ => trivial)⟩
          · simp at h
        · simp at h
      · simp at h
  case pick c x y =>
    simp only [hop] at h
    have hc := rv_rel hF c
    split at h
    · rename_i t hq
      simp only [Option.some.injEq] at h
      subst h
      rw [hq] at hc
      have e := scalar_of hc
      exact .still r (by simp [execOp, hop, e, asBool]) (pick_rel (rv_rel hF x) (rv_rel hF y))
    · simp at h
  case alloc t =>
    simp only [hop] at h
    split at h
    · rename_i cs hz
      obtain ⟨i, z, h1, h2, rfl, h4⟩ := zero_rel hz
      have hL : LRel ι w st z.cells.toList (z.cells.toList.map CV.s) := LRel.scalars h4
      cases mu with
      | true =>
        simp only [Option.some.injEq] at h
        subst h
        obtain ⟨a1, a2, a3⟩ := box_mut r hL t
        refine ⟨_, _, _, .inl ?_, a1, .one _ _ a3, a2.weaken (fun _ _ => trivial)⟩
        simp [execOp, hop, Instr.alloc, run_zero h1 h2, newVar, newRow]
      | false =>
        simp only at h
        split at h
        · rename_i ps hps
          simp only [Option.some.injEq] at h
          subst h
          rw [unpv_eq hps] at hL
          obtain ⟨a1, a2, a3⟩ := box_ro r hL t
          refine ⟨_, _, _, .inl ?_, a1, .one _ _ a3, a2.weaken (fun _ _ => trivial)⟩
          simp [execOp, hop, Instr.alloc, run_zero h1 h2, newVar, newRow]
        · simp at h
    · simp at h
  case box t x =>
    simp only [hop] at h
    split at h
    · rename_i cs hz
      have hL := avCells_rel (rv_rel hF x) hz
      cases mu with
      | true =>
        simp only [Option.some.injEq] at h
        subst h
        obtain ⟨a1, a2, a3⟩ := box_mut r hL t
        refine ⟨_, _, _, .inl ?_, a1, .one _ _ a3, a2.weaken (fun _ _ => trivial)⟩
        simp [execOp, hop, Instr.box, newVar, newRow]
      | false =>
        simp only at h
        split at h
        · rename_i ps hps
          simp only [Option.some.injEq] at h
          subst h
          rw [unpv_eq hps] at hL
          obtain ⟨a1, a2, a3⟩ := box_ro r hL t
          refine ⟨_, _, _, .inl ?_, a1, .one _ _ a3, a2.weaken (fun _ _ => trivial)⟩
          simp [execOp, hop, Instr.box, newVar, newRow]
        · simp at h
    · simp at h
  case build t parts =>
    simp only [hop] at h
    split at h
    · rename_i pcs hp
      simp only [Option.map_eq_some_iff] at h
      obtain ⟨cs, hcs, rfl⟩ := h
      obtain ⟨e1, e2⟩ := parts_rel hF hp
      obtain ⟨arr, a1, a2⟩ := build_sound (P := P) (w := w) hcs e1 e2
      have e : (parts.map fun (i, x) => (i, a.eval x)) = (parts.toList.map fun (i, x) => (i, a.eval x)).toArray := by
        apply Array.ext'; simp
      refine .still r (v := .agg arr) ?_ (by simpa using AVRel.ag arr.toList cs a2)
      simp only [execOp, hop, Sem.run_bind, Sem.run_pure]
      rw [e, a1]
      rfl
    · simp at h
  case buildSlice t len parts =>
    simp only [hop] at h
    split at h
    · rename_i et hu
      split at h
      · rename_i sz z pcs hn hz hp
        cases hb : (Nat.beq z.length sz && (Nat.ble 1 sz && Nat.ble (len * sz) 1000000)) with
        | false => simp [hb] at h
        | true =>
          simp only [hb, cond_true] at h
          simp only [Bool.and_eq_true] at hb
          have hb1 := Nat.eq_of_beq_eq_true hb.1
          have hb2 := Nat.le_of_ble_eq_true hb.2.1
          have hb3 := Nat.le_of_ble_eq_true hb.2.2
          split at h
          · rename_i cells hf
            split at h
            case h_2 => simp at h
            rename_i ps hps
            have hpe := unpv_eq hps
            obtain ⟨i, zv, h1, h2, rfl, h4⟩ := zero_rel hz
            simp only [List.length_map, Array.length_toList] at hb1
            obtain ⟨e1, e2⟩ := parts_rel hF hp
            have hZ := zeros_rel (ι := ι) (w := w) (st := st) h4 len (by omega)
            rw [hb1] at hZ
            obtain ⟨arr, a1, a2⟩ := fill_rel (place := fun i => some (i * sz, sz)) hZ e1 e2 hf
            have hal : arr.size = len * sz := by
              have := a2.1
              have hcl : cells.length = len * sz := by
                have h0 : ∀ (l : List (Nat × List CV)) (cs cs' : List CV), fillc (fun i => some (i * sz, sz)) cs l = some cs' → cs'.length = cs.length := by
                  intro l
                  induction l with
                  | nil => intro cs cs' h; simp [fillc] at h; rw [h]
                  | cons q l ih =>
                    intro cs cs' h
                    obtain ⟨qi, qv⟩ := q
                    simp only [fillc] at h
                    cases hb : (Nat.beq qv.length sz && Nat.ble (qi * sz + sz) cs.length) with
                    | false => simp [hb] at h
                    | true =>
                      simp only [hb, cond_true] at h
                      simp only [Bool.and_eq_true] at hb
                      have x1 := Nat.eq_of_beq_eq_true hb.1
                      have x2 := Nat.le_of_ble_eq_true hb.2
                      rw [ih _ _ h]
                      simp; omega
                rw [h0 _ _ _ hf, repZ_length]
                simp [hb1]
              simp at this; omega
            have e : (parts.map fun (i, x) => (i, a.eval x)).toList = (parts.toList.map fun (i, x) => (i, a.eval x)) := by simp
            have hcl : len * sz ≤ cells.length := by have := a2.1; simp at this; omega
            have hrun : (Instr.buildSlice t len (parts.map fun (i, x) => (i, a.eval x))).run P w = .ok (.slice (some ⟨w.heap.size, 0, none⟩) len len) (w.alloc (.cells arr et)) := by
              have hlim : ¬ len * sz > 2 ^ 24 := by omega
              by_cases h0 : len * sz = 0
              · have hfill : Instr.fill (fun i => some (i * sz, sz)) ((Array.range (len * sz)).map ((#[] : Array Value)[· % (#[] : Array Value).size]!)) (parts.map fun (i, x) => (i, a.eval x)).toList = some arr := by
                  rw [e, ← a1]
                  congr 1
                  simp [h0]
                simp only [Instr.buildSlice, Sem.run_bind, run_underlying hu, Result.andThen_ok, run_sizeOf hn, if_neg hlim, if_pos h0, Sem.run_pure, hfill, newRow, run_newObj_alloc]
              · have hfill : Instr.fill (fun i => some (i * sz, sz)) ((Array.range (len * sz)).map (zv.cells[· % zv.cells.size]!)) (parts.map fun (i, x) => (i, a.eval x)).toList = some arr := by
                  rw [e, ← a1, hb1]
                simp only [Instr.buildSlice, Sem.run_bind, run_underlying hu, Result.andThen_ok, run_sizeOf hn, if_neg hlim, if_neg h0, Sem.run_pure, run_zero h1 h2, hfill, newRow, run_newObj_alloc]
            have hcl2 : len * sz ≤ ps.length := by rw [hpe] at hcl; simpa using hcl
            have hc : ∀ (i : Nat) e (j : Nat) cv, (chunk sz len ps)[i]? = some e → e[j]? = some cv → ∃ v, arr[i * sz + j]? = some v ∧ PRel (Mut ι st) w v cv := by
              intro i' e' j cv x1 x2
              have := chunk_get sz len ps hcl2 i' e' j cv x1 x2
              have hlt : i' * sz + j < arr.toList.length := by rw [a2.1, hpe, List.length_map]; exact (List.getElem?_eq_some_iff.1 this).1
              refine ⟨arr.toList[i' * sz + j], ?_, pure_of (a2.2 _ _ (.pv cv) (List.getElem?_eq_getElem hlt) (by rw [hpe]; simp [this]))⟩
              simp at hlt
              simp [hlt]
            have hlen := chunk_length sz len ps
            cases mu with
            | true =>
              simp only [Option.some.injEq] at h
              subst h
              obtain ⟨b1, b2, b3⟩ := row_mut (ι := ι) (w := w) (st := st) (c := arr) (els := chunk sz len ps) (sz := sz) (cap := len) (b := w.heap.size) (Ext.alloc w (.cells arr et)) r et (Nat.le_refl _) (heap_alloc_at w _) (by rw [hlen]; exact Nat.le_refl _) (by omega) (chunk_mem sz len ps hcl2) hc
              rw [hlen] at b3
              refine ⟨_, _, _, .inl ?_, b1, .one _ _ b3, b2.weaken (fun _ _ => trivial)⟩
              simp only [execOp, hop, Sem.run_bind, hrun, Result.andThen_ok, Sem.run_pure]
            | false =>
              simp only [Option.some.injEq] at h
              subst h
              obtain ⟨b1, b2, b3⟩ := row_ro (ι := ι) (w := w) (st := st) (c := arr) (els := chunk sz len ps) (sz := sz) (cap := len) (b := w.heap.size) (Ext.alloc w (.cells arr et)) r et (0, 0) (Nat.le_refl _) (heap_alloc_at w _) (by rw [hlen]; exact Nat.le_refl _) (chunk_mem sz len ps hcl2) hc
              rw [hlen] at b3
              refine ⟨_, _, _, .inl ?_, b1, .one _ _ b3, b2.weaken (fun _ _ => trivial)⟩
              simp only [execOp, hop, Sem.run_bind, hrun, Result.andThen_ok, Sem.run_pure]
          · simp at h
      · simp at h
    · simp at h
  case load t x =>
    simp only [hop] at h
    have hx := rv_rel hF x
    split at h
    · rename_i c hq
      rw [hq] at hx
      obtain ⟨u, a1, a2, a3, a4⟩ := ldAt_sound (P := P) (w := w) h hob r (cv_of hx)
      refine ⟨u, w, ι, .inl (by simp [execOp, hop, a1]), ?_, ?_, ?_⟩
      · rw [a3]; exact r
      · rw [a3]; exact a2
      · rw [a3]; exact .refl
    · simp at h
  case store t x y =>
    simp only [hop] at h
    have hx := rv_rel hF x
    split at h
    · rename_i c vcs hq hv
      rw [hq] at hx
      obtain ⟨w', a1, a2, a3, a4, a5⟩ := stAt_sound (P := P) h hob r (cv_of hx) (avCells_rel (rv_rel hF y) hv)
      refine ⟨undef, w', ι, .inr ⟨by simp [execOp, hop, a1], rfl⟩, a2, ?_, a3.weaken (fun _ _ => trivial)⟩
      rw [a4]; exact .j _
    · simp at h
  case nilCheck x =>
    simp only [hop] at h
    have hx := rv_rel hF x
    split at h
    · rename_i els i off hq
      simp only [Option.some.injEq] at h
      subst h
      rw [hq] at hx
      have hx' := pure_of (cv_of hx)
      refine .still r (v := a.eval x) ?_ hx
      generalize hu : a.eval x = u at *
      cases hx'
      simp [execOp, hop, hu]
    · rename_i id sz i off hq
      simp only [Option.some.injEq] at h
      subst h
      rw [hq] at hx
      have hx' := cv_of hx
      refine .still r (v := a.eval x) ?_ hx
      generalize hu : a.eval x = u at *
      cases hx'
      simp [execOp, hop, hu]
    · rename_i f caps hq
      simp only [Option.some.injEq] at h
      subst h
      rw [hq] at hx
      have hx' := cv_of hx
      refine .still r (v := a.eval x) ?_ hx
      generalize hu : a.eval x = u at *
      cases hx'
      simp [execOp, hop, hu]
    · rename_i f caps hq
      simp only [Option.some.injEq] at h
      subst h
      rw [hq] at hx
      have hx' := pure_of (cv_of hx)
      refine .still r (v := a.eval x) ?_ hx
      generalize hu : a.eval x = u at *
      cases hx'
      simp [execOp, hop, hu]
    · simp at h
  case binOp op t x y t2 =>
    simp only [hop] at h
    have hx := rv_rel hF x
    have hy := rv_rel hF y
    split at h
    · rename_i p q hp hq
      split at h
      case h_2 => simp at h
      rename_i v ob hb
      simp only [Option.some.injEq] at h
      subst h
      rw [hp] at hx
      rw [hq] at hy
      have hs := bopT_sound (P := P) (t := t) (px := x) (py := y) hb hob w
      rw [← scalar_of hx, ← scalar_of hy] at hs
      refine .still r (v := v) (by simp only [execOp, hop]; rw [Sem.run_bind, hs]; rfl) (.one _ _ (.pv _ _ (.s _ ?_)))
      exact (bopT_plain' hb).elim (fun ⟨b, e⟩ => by simp only at e; rw [e]; rfl) bop_plain
    · rename_i xs ys hp hq
      split at h
      case h_2 => simp at h
      rename_i b hb
      simp only [Option.some.injEq] at h
      subst h
      rw [hp] at hx
      rw [hq] at hy
      have hs := eqAg_sound (px := x) (py := y) hb hx hy
      exact .still r (v := .bool b) (by simp only [execOp, hop]; rw [Sem.run_bind, hs]; rfl) (.one _ _ (.pv _ _ (.s _ rfl)))
    · simp at h
  case unOp op t x =>
    simp only [hop] at h
    have hx := rv_rel hF x
    split at h
    · rename_i k q hq
      simp only [Option.some.injEq] at h
      subst h
      rw [hq] at hx
      exact .still r (by simp [execOp, hop, scalar_of hx, Op.unary, Op.intArith]) (.one _ _ (.pv _ _ (.s _ rfl)))
    · rename_i b hq
      simp only [Option.some.injEq] at h
      subst h
      rw [hq] at hx
      exact .still r (by simp [execOp, hop, scalar_of hx, Op.unary]) (.one _ _ (.pv _ _ (.s _ rfl)))
    · simp at h
  case convert src dst x =>
    simp only [hop] at h
    have hx := rv_rel hF x
    split at h
    · rename_i k1 k k2 q h1 h2 hq
      simp only [Option.some.injEq] at h
      subst h
      rw [hq] at hx
      exact .still r (by simp [execOp, hop, scalar_of hx, convert, run_underlying h1, run_underlying h2, Conv.intToInt]) (.one _ _ (.pv _ _ (.s _ rfl)))
    · simp at h
  case makeFunc fn first captured =>
    cases fn <;> try (simp [hop] at h; done)
    rename_i f
    simp only [hop] at h
    split at h
    · rename_i caps h1 h2
      simp only [Option.some.injEq] at h
      subst h
      obtain ⟨e1, e2⟩ := caps_rel hF h2
      have e3 : first = #[] := Array.ext' (by simpa using h1)
      refine .still r (v := .func (.func f) #[] (captured.toList.map a.eval).toArray) ?_ (.one _ _ (.fn f caps _ e1 e2))
      have e4 : captured.map a.eval = (captured.toList.map a.eval).toArray := Array.ext' (by simp)
      simp [execOp, hop, Instr.makeFunc, e3, e4]
    · simp at h
  case makeSlice t l c =>
    simp only [hop] at h
    have hl := rv_rel hF l
    have hc := rv_rel hF c
    split at h
    · rename_i et hu
      split at h
      · rename_i i z k1 p k2 q hi hz hp hq
        rw [hp] at hl
        rw [hq] at hc
        cases hb : (Nat.beq z.length i.size && (Nat.ble 1 i.size && Nat.ble i.bytes 16384)) with
        | false => simp [hb] at h
        | true =>
          simp only [hb, cond_true] at h
          split at h
          case h_2 => simp at h
          rename_i ps hps
          have hpe := unpv_eq hps
          simp only [Option.some.injEq] at h
          subst h
          simp only [Bool.and_eq_true] at hb
          have hb1 := Nat.eq_of_beq_eq_true hb.1
          have hb2 := Nat.le_of_ble_eq_true hb.2.1
          have hb3 := Nat.le_of_ble_eq_true hb.2.2
          obtain ⟨i', zv, h1, h2, rfl, h4⟩ := zero_rel hz
          rw [hi] at h1; cases h1
          simp only [List.length_map, Array.length_toList] at hb1
          obtain ⟨o1, o2, o3, _⟩ := hob
          have hbytes : (i.bytes : Int) * q ≤ 281474976710656 := by
            have : (i.bytes : Int) * q ≤ 16384 * 4294967296 := Int.mul_le_mul (by omega) o3 (by omega) (by omega)
            omega
          have hrun := run_make (P := P) w t et i zv hu hi h2 k1 k2 p q o1 o2 hbytes (by omega)
          have hrl : (List.replicate p.toNat ps).length = p.toNat := by simp
          have hle : p.toNat * i.size ≤ q.toNat * i.size := Nat.mul_le_mul_right _ (by omega)
          obtain ⟨b1, b2, b3⟩ := row_mut (ι := ι) (w := w) (st := st) (c := madeCells zv.cells (q.toNat * i.size)) (els := List.replicate p.toNat ps) (sz := i.size) (cap := q.toNat) (b := w.heap.size) (Ext.alloc w _) r et (Nat.le_refl _) (heap_alloc_at w _)
            (by rw [hrl]; omega) (by rw [size_madeCells]; exact Nat.le_refl _) (fun e he => by rw [List.eq_of_mem_replicate he]; have := congrArg List.length hpe; simp at this; omega) (by
              intro i' e' j cv x1 x2
              have hi' : i' < p.toNat := by rw [← hrl]; exact (List.getElem?_eq_some_iff.1 x1).1
              have he' : e' = ps := List.eq_of_mem_replicate (List.mem_of_getElem? x1)
              subst he'
              have hpl : zv.cells.size = e'.length := by have := congrArg List.length hpe; simpa using this
              have hj : j < zv.cells.size := by rw [hpl]; exact (List.getElem?_eq_some_iff.1 x2).1
              have hlt : i' * i.size + j < q.toNat * zv.cells.size := by
                rw [hb1]
                have : (i' + 1) * i.size ≤ p.toNat * i.size := Nat.mul_le_mul_right _ hi'
                rw [Nat.add_mul] at this
                omega
              have hm := made_get (z := zv.cells) (n := q.toNat) (q := i' * i.size + j) (by omega) hlt
              have hmod : (i' * i.size + j) % zv.cells.size = j := by
                rw [← hb1, Nat.add_comm, Nat.add_mul_mod_self_right, Nat.mod_eq_of_lt hj]
              rw [hb1] at hm
              refine ⟨_, hm, ?_⟩
              refine pure_of ((LRel.scalars (ι := ι) (w := w) (st := st) h4).2 j _ (.pv cv) ?_ (by rw [hpe]; simp [x2]))
              have hmod2 : (i' * i.size + j) % i.size = j := by rw [← hmod, hb1]; simp
              rw [hmod2]
              simp [hj])
          rw [hrl] at b3
          refine ⟨_, _, _, .inl ?_, b1, .one _ _ b3, b2.weaken (fun _ _ => trivial)⟩
          simp only [execOp, hop, Sem.run_bind, scalar_of hl, scalar_of hc, hrun, Result.andThen_ok, Sem.run_pure]
      · simp at h
    · simp at h
  case slice t x lo hi mx =>
    simp only [hop] at h
    have hx := rv_rel hF x
    split at h
    · rename_i c l hh m hq h1 h2 h3
      rw [hq] at hx
      cases hb : (m.isNone || hh.isSome) with
      | false => simp [hb] at h
      | true =>
        simp only [hb, cond_true] at h
        split at h
        case h_2 => simp at h
        rename_i c' ob hs'
        simp only [Option.some.injEq] at h
        subst h
        have hmh : m = none ∨ hh ≠ none := by
          cases m <;> cases hh <;> simp_all
        obtain ⟨u, a1, a2⟩ := slAt_sound (P := P) (w := w) hs' hob.1 (bint_rel hF h1) (bint_rel hF h2) (bint_rel hF h3) hmh (cv_of hx)
        exact .still r (by simp [execOp, hop, a1]) (.one _ _ a2)
    · simp at h
  case fieldAddr s x k =>
    simp only [hop] at h
    have hx := rv_rel hF x
    split at h
    · rename_i c hq
      rw [hq] at hx
      simp only [Option.map_eq_some_iff] at h
      obtain ⟨c', hf, rfl⟩ := h
      obtain ⟨u, a1, a2⟩ := faAt_sound (P := P) (w := w) hf (cv_of hx)
      exact .still r (by simp [execOp, hop, a1]) (.one _ _ a2)
    · simp at h
  case field t x k =>
    simp only [hop] at h
    have hx := rv_rel hF x
    split at h
    · rename_i cs hq
      rw [hq] at hx
      simp only [Option.map_eq_some_iff] at h
      obtain ⟨av, hf, rfl⟩ := h
      obtain ⟨vs, e1, hL⟩ := ag_of hx
      unfold fieldOf at hf
      split at hf
      · rename_i fields hu
        split at hf
        · rename_i f hk
          obtain ⟨u, a1, a2⟩ := part_sound (P := P) (w := w) hf hL
          refine .still r (v := u) ?_ a2
          simp [execOp, hop, e1, Instr.field, run_underlying hu, hk, asAgg, a1]
        · simp at hf
      · simp at hf
    · simp at h
  case indexAddr t x i =>
    simp only [hop] at h
    have hx := rv_rel hF x
    have hi := rv_rel hF i
    split at h
    · rename_i c k q hq hq2
      rw [hq] at hx
      rw [hq2] at hi
      split at h
      case h_2 => simp at h
      rename_i c' ob hf
      simp only [Option.some.injEq] at h
      subst h
      obtain ⟨u, a1, a2⟩ := iaAt_sound (P := P) (w := w) (k := k) hf hob.1 (cv_of hx)
      exact .still r (by simp [execOp, hop, scalar_of hi, a1]) (.one _ _ a2)
    · simp at h
  case index t x i =>
    simp only [hop] at h
    have hx := rv_rel hF x
    have hi := rv_rel hF i
    split at h
    · rename_i s k q hu hq hq2
      rw [hq] at hx
      rw [hq2] at hi
      simp only [Option.some.injEq] at h
      subst h
      obtain ⟨⟨o1, o2⟩, _⟩ := hob
      have hlt : q.toNat < s.size := by omega
      refine .still r (v := .int .u8 ((s.data.toList.getD q.toNat 0).toNat)) ?_ (.one _ _ (.pv _ _ (.s _ rfl)))
      have hs : s[q.toNat]? = some s.data[q.toNat] := by
        rw [getElem?_pos s q.toNat hlt]; rfl
      have hg : s.data.toList.getD q.toNat 0 = s.data[q.toNat] := by
        have h9 : s.data[q.toNat]? = some s.data[q.toNat] := getElem?_pos s.data q.toNat hlt
        simp only [List.getD, Array.getElem?_toList]
        rw [h9]
        rfl
      simp only [execOp, hop, scalar_of hx, scalar_of hi, Instr.index, asIntOf, Sem.run_bind, Sem.run_pure, Result.andThen_ok, run_underlying hu, if_pos o1, hs, hg]
    · rename_i len et cs k q hu hq hq2
      rw [hq] at hx
      rw [hq2] at hi
      split at h
      · rename_i es hn
        simp only [Option.map_eq_some_iff] at h
        obtain ⟨av, hf, rfl⟩ := h
        obtain ⟨vs, e1, hL⟩ := ag_of hx
        obtain ⟨u, a1, a2⟩ := part_sound (P := P) (w := w) hf hL
        obtain ⟨⟨o1, o2⟩, _⟩ := hob
        refine .still r (v := u) ?_ a2
        simp [execOp, hop, e1, scalar_of hi, Instr.index, asIntOf, run_underlying hu, o1, o2, run_sizeOf hn, a1]
      · simp at h
    · simp at h
  case extract x k =>
    simp only [hop] at h
    have hx := rv_rel hF x
    split at h
    · rename_i vs hq
      rw [hq] at hx
      split at h
      · rename_i av hk
        simp only [Option.some.injEq] at h
        subst h
        generalize hu : a.eval x = u at *
        cases hx with
        | tp us as hl hh =>
          have hlt : k < us.length := by rw [hl]; exact (List.getElem?_eq_some_iff.1 hk).1
          refine .still r (v := us[k]) ?_ (hh k _ av (List.getElem?_eq_getElem hlt) hk)
          simp [execOp, hop, hu, Instr.extract, hlt]
      · simp at h
    · simp at h
  case call c =>
    obtain ⟨callee, args, tys⟩ := c
    cases callee <;> try (simp [hop] at h; done)
    rename_i b
    cases b <;> try (simp [hop] at h; done)
    case append =>
      simp only [hop] at h
      split at h
      · rename_i d x t tx h1 h2
        have e1 : args = #[d, x] := Array.ext' (by simpa using h1)
        have e2 : tys = #[t, tx] := Array.ext' (by simpa using h2)
        subst e1; subst e2
        obtain ⟨v, w', ι', a1, a2, a3, a4⟩ := apAt_sound (P := P) (ty := o.type) h hob r (rv_rel hF d) (rv_rel hF x)
        refine ⟨v, w', ι', .inl ?_, a2, a3, a4⟩
        simp [execOp, hop, resolve, invoke, builtin, a1]
      · simp at h
    case len =>
      simp only [hop] at h
      split at h
      · rename_i x t h1 h2
        have e1 : args = #[x] := Array.ext' (by simpa using h1)
        have e2 : tys = #[t] := Array.ext' (by simpa using h2)
        subst e1; subst e2
        simp only [Option.map_eq_some_iff] at h
        obtain ⟨q, hq, rfl⟩ := h
        have := run_len (P := P) (w := w) hq (rv_rel hF x) o.type
        refine .still r ?_ (.one _ _ (.pv _ _ (.s _ rfl)))
        simp [execOp, hop, resolve, invoke, builtin, this]
      · simp at h
    case max =>
      simp only [hop] at h
      split at h
      · rename_i x y h1
        have e1 : args = #[x, y] := Array.ext' (by simpa using h1)
        subst e1
        have hx := rv_rel hF x
        have hy := rv_rel hF y
        split at h
        · rename_i k p k' q hp hq
          rw [hp] at hx
          rw [hq] at hy
          simp only [Option.some.injEq] at h
          subst h
          refine .still r ?_ (.one _ _ (.pv _ _ (.s _ rfl)))
          simp [execOp, hop, resolve, invoke, builtin, Builtin.max_, Builtin.max2, scalar_of hx, scalar_of hy]
        · simp at h
      · simp at h
    case min =>
      simp only [hop] at h
      split at h
      · rename_i x y h1
        have e1 : args = #[x, y] := Array.ext' (by simpa using h1)
        subst e1
        have hx := rv_rel hF x
        have hy := rv_rel hF y
        split at h
        · rename_i k p k' q hp hq
          rw [hp] at hx
          rw [hq] at hy
          simp only [Option.some.injEq] at h
          subst h
          refine .still r ?_ (.one _ _ (.pv _ _ (.s _ rfl)))
          simp [execOp, hop, resolve, invoke, builtin, Builtin.min_, Builtin.min2, scalar_of hx, scalar_of hy]
        · simp at h
      · simp at h
  all_goals (simp [hop] at h)

end Go.SX
