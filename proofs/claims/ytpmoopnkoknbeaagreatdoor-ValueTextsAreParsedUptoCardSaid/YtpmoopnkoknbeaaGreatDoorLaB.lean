/- Parse on both sides, and the two laws of texts. Sizes of arguments. -/
import Derived.Test.YtpmoopnkoknbeaaGreatDoorLaA
set_option linter.unusedVariables false
set_option linter.unusedSimpArgs false
set_option linter.unnecessarySimpa false
namespace Go.Proofs.YtpmoopnkoknbeaaGreatDoor
open Go Go.PX Go.SX Go.SX.Cal
set_option linter.unusedVariables false
set_option linter.unusedSimpArgs false

/-- what is wrong with a value of a type -/
noncomputable def ck (t : GType) (v : GValue) : Int := (value_Check t v).getD 0

theorem ck_c {t : GType} {v : GValue} (hv : sizeV v < 1000000000) (hT : sizeT t < 1000000000) : value_Check t v = some (ck t v) := by
  obtain ⟨e, h1, _⟩ := Check_eq t v hv hT
  unfold ck; rw [h1]; rfl

theorem ck_r {t : GType} {v : GValue} (hv : sizeV v < 1000000000) (hT : sizeT t < 1000000000) : ref1_Check t v = some (ck t v) := by
  obtain ⟨e, h1, h2⟩ := Check_eq t v hv hT
  unfold ck; rw [h1, h2]; rfl

/-- what is known of a value that was checked -/
theorem ck_ok {t : GType} {v : GValue} (hv : sizeV v < 1000000000) (hT : sizeT t < 1000000000) (h : ck t v = 0) : V t ∧ Snd 4 v ∧ ofD 4 t v = true ∧ soundB v = true ∧ value_CheckType t = some 0 ∧ ref1_CheckType t = some 0 := by
  obtain ⟨e, h1, h2, h3⟩ := checkType_eq t hT
  have hc := ck_c hv hT
  rw [h] at hc
  unfold value_Check at hc
  rw [h1, vSound v hv] at hc
  simp only [bnd_some'] at hc
  by_cases he : e = 0
  · subst he
    have ht := h3 rfl
    cases hs : soundB v with
    | false => rw [hs] at hc; cases hc
    | true =>
      have hS : Snd 4 v := ⟨0, hs⟩
      obtain ⟨a, b⟩ := of_eq 4 BIG BIG t v hS ht hv hT (by rw [big_val]; omega) (by rw [big_val]; omega)
      rw [hs, a] at hc
      cases ho : ofD 4 t v with
      | false => rw [ho] at hc; cases hc
      | true => exact ⟨ht, hS, rfl, rfl, h1, h2⟩
  · rw [show (e != (0 : Int)) = true by simp [he]] at hc
    cases hc; exact absurd rfl he

theorem TX_sound {v : GValue} (h : soundB v = true) : TX v = T v := if_pos h

theorem vparse_ok {t : GType} {v : GValue} (hv : sizeV v ≤ 10000000) (hT : sizeT t < 1000000000) (h : ck t v = 0) : value_Parse t (bs (T v)) = some (v, 0) := by
  obtain ⟨hV, hS, ho, hs, hc, _⟩ := ck_ok (by omega) hT h
  have hl := T_len 4 v hS
  have hr := value_ok 4 t v hS hV ho BIG (by rw [big_val]; omega) [] endOk_nil (by rw [List.append_nil]; omega)
  rw [List.append_nil] at hr
  unfold value_Parse value_Parse_j1
  rw [hc, bnd_eq, ifte, if_neg (by decide), hr, bnd_eq]
  simp only [ifte]
  rw [if_neg (by decide), show (ByteArray.mk #[]) = bs [] from rfl, bs_eq, if_neg (by simp), ck_c (by omega) hT, bnd_eq, h, if_neg (by decide), vText_eq v hv, bnd_eq, bs_eq, TX_sound hs, if_neg (by simp)]

theorem rparse_ok {t : GType} {v : GValue} (hv : sizeV v ≤ 10000000) (hT : sizeT t < 1000000000) (h : ck t v = 0) : ref1_Parse t (bs (T v)) = some (v, 0) := by
  obtain ⟨hV, hS, ho, hs, _, hc⟩ := ck_ok (by omega) hT h
  have hl := T_len 4 v hS
  have hr := read_ok 4 t v hS hV ho BIG (by rw [big_val]; omega) [] endOk_nil (by rw [List.append_nil]; omega)
  rw [List.append_nil] at hr
  unfold ref1_Parse ref1_Parse_j1
  rw [hc, bnd_eq, ifte, if_neg (by decide), hr, bnd_eq]
  simp only [ifte]
  rw [if_neg (by decide), show (ByteArray.mk #[]) = bs [] from rfl, bs_eq, if_neg (by simp), ck_r (by omega) hT, bnd_eq, h, if_neg (by decide), rText_eq v hv, bnd_eq, bs_eq, TX_sound hs, if_neg (by simp)]

/-- what a parser may answer -/
def Ans (t : GType) (s : List UInt8) (p : GValue × Int) : Prop := (p.2 ≠ 0 ∧ p.1 = nov ∧ p.2 = 6) ∨ (p.2 = 0 ∧ ck t p.1 = 0 ∧ s = T p.1 ∧ sizeV p.1 ≤ 10000000)

theorem ans {t : GType} {s : List UInt8} {p : GValue × Int} (h : Ans t s p) : p = (nov, 6) ∨ ∃ v, p = (v, 0) ∧ ck t v = 0 ∧ s = T v ∧ sizeV v ≤ 10000000 := by
  obtain ⟨v, f⟩ := p
  rcases h with ⟨_, rfl, rfl⟩ | ⟨rfl, h1, h2, h3⟩
  · exact .inl rfl
  · exact .inr ⟨v, rfl, h1, h2, h3⟩

theorem vparse_tot {t : GType} {s : List UInt8} (hT : sizeT t + s.length + 1 ≤ 10000000) (hV : V t) (hc : value_CheckType t = some 0) : ∃ p, value_Parse t (bs s) = some p ∧ Ans t s p := by
  obtain ⟨x, s', b', e1, e2⟩ := value_tot (sizeT t) t (Nat.le_refl _) hV (by omega) BIG (by rw [big_val]; omega) s false (by omega)
  have hsz := e2.sz
  unfold value_Parse value_Parse_j1
  rw [hc, bnd_eq, ifte, if_neg (by decide), e1, bnd_eq]
  simp only [ifte]
  have bad : Ans t s (nov, 6) := .inl ⟨by decide, rfl, rfl⟩
  cases b' with
  | true => exact ⟨_, rfl, bad⟩
  | false =>
    rw [if_neg (by decide)]
    have hx : sizeV x ≤ 10000000 := by omega
    rw [show (ByteArray.mk #[]) = bs [] from rfl, bs_eq]
    by_cases hs' : s' = []
    · rw [if_neg (by simp [hs']), ck_c (by omega) (by omega), bnd_eq]
      by_cases hck : ck t x = 0
      · rw [if_neg (by simp [hck]), vText_eq x hx, bnd_eq, bs_eq]
        obtain ⟨_, _, _, hso, _⟩ := ck_ok (by omega) (by omega) hck
        by_cases hts : TX x = s
        · rw [if_neg (by simp [hts])]
          exact ⟨_, rfl, .inr ⟨rfl, hck, by rw [← hts, TX_sound hso], hx⟩⟩
        · rw [if_pos (by simp [hts])]
          exact ⟨_, rfl, bad⟩
      · rw [if_pos (by simp [hck])]
        exact ⟨_, rfl, bad⟩
    · rw [if_pos (by simp [hs'])]
      exact ⟨_, rfl, bad⟩

theorem rparse_tot {t : GType} {s : List UInt8} (hT : sizeT t + s.length + 1 ≤ 10000000) (hV : V t) (hc : ref1_CheckType t = some 0) : ∃ p, ref1_Parse t (bs s) = some p ∧ Ans t s p := by
  obtain ⟨x, s', ok, e1, e2⟩ := read_tot (sizeT t) t (Nat.le_refl _) hV BIG (by rw [big_val]; omega) s (by omega)
  have hsz := e2.sz
  unfold ref1_Parse ref1_Parse_j1
  rw [hc, bnd_eq, ifte, if_neg (by decide), e1, bnd_eq]
  simp only [ifte]
  have bad : Ans t s (nov, 6) := .inl ⟨by decide, rfl, rfl⟩
  cases ok with
  | false => exact ⟨_, rfl, bad⟩
  | true =>
    have hx : sizeV x ≤ 10000000 := by have := hsz rfl; omega
    rw [if_neg (by decide)]
    rw [show (ByteArray.mk #[]) = bs [] from rfl, bs_eq]
    by_cases hs' : s' = []
    · rw [if_neg (by simp [hs']), ck_r (by omega) (by omega), bnd_eq]
      by_cases hck : ck t x = 0
      · rw [if_neg (by simp [hck]), rText_eq x hx, bnd_eq, bs_eq]
        obtain ⟨_, _, _, hso, _⟩ := ck_ok (by omega) (by omega) hck
        by_cases hts : TX x = s
        · rw [if_neg (by simp [hts])]
          exact ⟨_, rfl, .inr ⟨rfl, hck, by rw [← hts, TX_sound hso], hx⟩⟩
        · rw [if_pos (by simp [hts])]
          exact ⟨_, rfl, bad⟩
      · rw [if_pos (by simp [hck])]
        exact ⟨_, rfl, bad⟩
    · rw [if_pos (by simp [hs'])]
      exact ⟨_, rfl, bad⟩

/-- both parsers answer the same -/
theorem parse_eq (t : GType) (s : List UInt8) (hT : sizeT t + s.length + 1 ≤ 10000000) : ∃ p, value_Parse t (bs s) = some p ∧ ref1_Parse t (bs s) = some p ∧ (p.1 = nov ∧ p.2 ≠ 0 ∨ p.2 = 0 ∧ ck t p.1 = 0 ∧ s = T p.1 ∧ sizeV p.1 ≤ 10000000) := by
  obtain ⟨e, h1, h2, h3⟩ := checkType_eq t (by omega)
  by_cases he : e = 0
  · subst he
    have hV := h3 rfl
    obtain ⟨p, a1, a2⟩ := vparse_tot hT hV h1
    obtain ⟨q, b1, b2⟩ := rparse_tot hT hV h2
    have hpq : q = p := by
      rcases ans a2 with rfl | ⟨v, rfl, c1, c2, c3⟩
      · rcases ans b2 with rfl | ⟨w, rfl, c1, c2, c3⟩
        · rfl
        · subst c2
          rw [vparse_ok c3 (by omega) c1] at a1
          cases a1
      · subst c2
        rw [rparse_ok c3 (by omega) c1] at b1
        cases b1; rfl
    subst hpq
    exact ⟨q, a1, b1, a2.imp (fun h => ⟨h.2.1, h.1⟩) id⟩
  · refine ⟨(nov, e), ?_, ?_, .inl ⟨rfl, he⟩⟩
    · unfold value_Parse; rw [h1, bnd_eq, ifte, if_pos (by simpa using he)]
    · unfold ref1_Parse; rw [h2, bnd_eq, ifte, if_pos (by simpa using he)]

theorem exactly_refl : ∀ (n : Nat) (v : GValue), sizeV v ≤ n → ∀ k, n ≤ k → sizeV v < 1000000000 → law1_exactly k v v = some true := by
  intro n
  induction n with
  | zero => intro v h; have := sizeV_pos v; omega
  | succ n ih =>
    intro v h k hk hv
    obtain ⟨k, rfl⟩ : ∃ g, k = g + 1 := ⟨k - 1, by omega⟩
    have hs := sizeV_eq v
    have hn := sizeL_len v.items
    have loop : ∀ (m f i : Nat), i + m = v.items.length → m < f → law1_exactly_l1 (law1_exactly k) v v f (i : Int) = some true := by
      intro m
      induction m with
      | zero =>
        intro f i hi hf
        obtain ⟨f, rfl⟩ : ∃ g, f = g + 1 := ⟨f - 1, by omega⟩
        rw [law1_exactly_l1, ifte, if_neg (by simp; omega)]
        rfl
      | succ m ihm =>
        intro f i hi hf
        obtain ⟨f, rfl⟩ : ∃ g, f = g + 1 := ⟨f - 1, by omega⟩
        have hlt : i < v.items.length := by omega
        have hm := sizeL_mem (List.getElem_mem hlt)
        rw [law1_exactly_l1, ifte, if_pos (by simp; omega), at_nat hlt, bnd_eq, bnd_eq, ih _ (by omega) k (by omega) (by omega), bnd_eq, ifte, if_neg (by simp), w64 (by omega) (by omega)]
        exact ihm f (i + 1) (by omega) (by omega)
    rw [law1_exactly]
    unfold law1_exactly_j1
    simp only [bne_self_eq_false, beq_self_eq_true, Bool.not_true, ifte]
    have h0 := loop v.items.length BIG 0 (by omega) (by rw [big_val]; omega)
    rw [Int.natCast_zero] at h0
    simp only [bne_self_eq_false, Bool.false_eq_true, if_false]
    exact h0

theorem true_text : value_Text ⟨1, 1, 0, ByteArray.empty, []⟩ = some (bs [116, 114, 117, 101]) := by
  rw [vText_eq _ (by decide)]
  have e : TX ⟨1, 1, 0, ByteArray.empty, []⟩ = [116, 114, 117, 101] := by
    unfold TX
    rw [if_pos (by decide +kernel), T_eq]
    rfl
  rw [e]

theorem law_parsed (t : GType) (v : GValue) (s : ByteArray) (hT : sizeT t + s.size + 1 ≤ 10000000) (hv : sizeV v ≤ 10000000) : law1_ValueTextsAreParsed t v s = some true := by
  have hs : s.data.toList.length = s.size := by simp
  have second : law1_ValueTextsAreParsed_j2 t s = some true := by
    obtain ⟨p, h1, h2, h3⟩ := parse_eq t s.data.toList (by omega)
    rw [bs_eta] at h1
    unfold law1_ValueTextsAreParsed_j2 law1_ValueTextsAreParsed_j3
    rw [h1, bnd_eq]
    simp only [ifte]
    rcases h3 with h | ⟨g1, g2, g3, g4⟩
    · rw [if_neg (by simpa using h.2)]
      rfl
    · obtain ⟨_, _, _, hso, _⟩ := ck_ok (by omega) (by omega) g2
      have e : bs (TX p.1) = s := by rw [TX_sound hso, ← g3, bs_eta]
      rw [if_pos (by simpa using g1), vText_eq _ g4, bnd_eq, e, if_neg (by simp), ck_c (by omega) (by omega), bnd_eq, g2]
      rfl
  unfold law1_ValueTextsAreParsed law1_ValueTextsAreParsed_j1
  rw [true_text, bnd_eq, show (ByteArray.mk #[116, 114, 117, 101]) = bs [116, 114, 117, 101] from rfl, ck_r (by omega) (by omega)]
  simp only [ifte]
  rw [if_neg (by simp), bnd_eq]
  by_cases hc : ck t v = 0
  · obtain ⟨_, hS, _, hso, _⟩ := ck_ok (by omega) (by omega) hc
    rw [if_pos (by simpa using hc), vText_eq v hv, bnd_eq, TX_sound hso, vparse_ok hv (by omega) hc, bnd_eq]
    have hne : T v ≠ [] := by
      obtain ⟨b, u, e, _⟩ := T_head (d := 3) hS []
      rw [List.append_nil] at e
      rw [e]; simp
    rw [show (ByteArray.mk #[]) = bs [] from rfl, bs_eq, if_neg (by simpa using hne)]
    dsimp only
    rw [if_neg (by decide), exactly_refl _ v (Nat.le_refl _) BIG (by rw [big_val]; omega) (by omega), bnd_eq, if_neg (by simp)]
    exact second
  · rw [if_neg (by simpa using hc)]
    exact second

end Go.Proofs.YtpmoopnkoknbeaaGreatDoor
namespace Go.Proofs.YtpmoopnkoknbeaaGreatDoor
open Go Go.PX Go.SX Go.SX.Cal
set_option linter.unusedVariables false
set_option linter.unusedSimpArgs false

theorem sizeL_sum : ∀ l : List GValue, sizeL l = (l.map sizeV).sum
  | [] => by simp [sizeL]
  | x :: l => by simp [sizeL, sizeL_sum l]

theorem sz_mk (k n sc : Int) (s : ByteArray) (it : List GValue) : sizeV ⟨k, n, sc, s, it⟩ ≤ s.size + (it.map sizeV).sum + 6 := by
  simp only [sizeV, sizeL_sum]; omega

theorem sizeF_sum : ∀ l : List GField, sizeF l = (l.map sizeFd).sum
  | [] => by simp [sizeF]
  | x :: l => by simp [sizeF, sizeF_sum l]

theorem szT_mk (k s : Int) (fs : List GField) : sizeT ⟨k, s, fs⟩ ≤ (fs.map sizeFd).sum + 4 := by
  rw [sizeT_eq, sizeF_sum]; simp only; omega

theorem szF_mk (i : Int) (n : ByteArray) (q : Bool) (t : GType) : sizeFd ⟨i, n, q, t⟩ ≤ n.size + sizeT t + 4 := by
  rw [sizeFd_eq]; simp only; omega

theorem arg_value {w : World} {v : Value} {x : GValue} (h : AVRel ⟨fun _ => none, fun _ => False⟩ w [] v (.ag ((GValue.cells x).map .pv))) : AVRel ⟨fun _ => none, fun _ => False⟩ w [] v (.ag [ci x.kind, ci x.n, ci x.scale, cst x.s, cl eValue x.items]) := by
  cases x; exact h

end Go.Proofs.YtpmoopnkoknbeaaGreatDoor
