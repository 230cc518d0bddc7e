/- Smears (chapter 12): may one be, windows, does it go with a table, how far its time stays behind; the law SmearSteps; in plain data. -/
import Derived.Test.YtmdnnlfoljdfpaaDoorLeap
namespace Go.Proofs.YtmdnnlfoljdfpaaDoor.Mir
open Go Go.RowKit
set_option maxRecDepth 100000

def SmOk (k bf af : Int) : Prop := (0 ≤ bf ∧ bf ≤ 43200 ∧ 0 ≤ af ∧ af ≤ 43200) ∧ ((k = 0 ∧ bf + af = 0) ∨ (k = 1 ∧ bf + af ≥ 1) ∨ (k = 2 ∧ bf + af ≥ 3600))
instance (k bf af : Int) : Decidable (SmOk k bf af) := by unfold SmOk; infer_instance
theorem scheck_at (N : Nat) (k bf af : Int) : f_26 N k bf af = some (if SmOk k bf af then none else some 1) := by
  unfold f_26
  by_cases g1 : bf < 0
  · rw [decide_eq_true g1, if_neg (by unfold SmOk; omega)]; rfl
  rw [decide_eq_false g1, cond_false]
  by_cases g2 : bf > 43200
  · rw [decide_eq_true g2, if_neg (by unfold SmOk; omega)]; rfl
  rw [decide_eq_false g2, cond_false]
  by_cases g3 : af < 0
  · rw [decide_eq_true g3, if_neg (by unfold SmOk; omega)]; rfl
  rw [decide_eq_false g3, cond_false]
  by_cases g4 : af > 43200
  · rw [decide_eq_true g4, if_neg (by unfold SmOk; omega)]; rfl
  rw [decide_eq_false g4, cond_false, wi64 (n := bf + af) (by omega) (by omega)]
  by_cases k0 : k = 0
  · subst k0
    rw [beq_self_eq_true, cond_true]
    by_cases h : bf + af = 0
    · rw [h, beq_self_eq_true, if_pos (by unfold SmOk; omega)]; rfl
    · rw [beq_false_of_ne h, if_neg (by unfold SmOk; omega)]; rfl
  rw [beq_false_of_ne k0, cond_false]
  by_cases k1 : k = 1
  · subst k1
    rw [beq_self_eq_true, cond_true]
    by_cases h : bf + af > 0
    · rw [decide_eq_true h, if_pos (by unfold SmOk; omega)]; rfl
    · rw [decide_eq_false h, if_neg (by unfold SmOk; omega)]; rfl
  rw [beq_false_of_ne k1, cond_false]
  by_cases k2 : k = 2
  · subst k2
    rw [beq_self_eq_true, cond_true]
    by_cases h : bf + af ≥ 3600
    · rw [decide_eq_true h, if_pos (by unfold SmOk; omega)]; rfl
    · rw [decide_eq_false h, if_neg (by unfold SmOk; omega)]; rfl
  rw [beq_false_of_ne k2, if_neg (by unfold SmOk; omega)]; rfl
theorem smay_at (N : Nat) (k bf af : Int) : f_27 N k bf af = some (decide (SmOk k bf af)) := by
  unfold f_27
  by_cases g1 : bf < 0
  · rw [decide_eq_true g1, decide_eq_false (show ¬ SmOk k bf af by unfold SmOk; omega)]; rfl
  rw [decide_eq_false g1, cond_false]
  by_cases g2 : bf > 43200
  · rw [decide_eq_true g2, decide_eq_false (show ¬ SmOk k bf af by unfold SmOk; omega)]; rfl
  rw [decide_eq_false g2, cond_false]
  by_cases g3 : af < 0
  · rw [decide_eq_true g3, decide_eq_false (show ¬ SmOk k bf af by unfold SmOk; omega)]; rfl
  rw [decide_eq_false g3, cond_false]
  by_cases g4 : af > 43200
  · rw [decide_eq_true g4, decide_eq_false (show ¬ SmOk k bf af by unfold SmOk; omega)]; rfl
  rw [decide_eq_false g4, cond_false, wi64 (n := bf + af) (by omega) (by omega)]
  by_cases k0 : k = 0
  · subst k0
    rw [beq_self_eq_true, cond_true]
    by_cases h : bf + af = 0
    · rw [decide_eq_true (show SmOk 0 bf af by unfold SmOk; omega), h]; rfl
    · rw [beq_false_of_ne h, decide_eq_false (show ¬ SmOk 0 bf af by unfold SmOk; omega)]; rfl
  rw [beq_false_of_ne k0, cond_false]
  by_cases k1 : k = 1
  · subst k1
    rw [beq_self_eq_true, cond_true]
    by_cases h : bf + af ≥ 1
    · rw [decide_eq_true h, decide_eq_true (show SmOk 1 bf af by unfold SmOk; omega)]; rfl
    · rw [decide_eq_false h, decide_eq_false (show ¬ SmOk 1 bf af by unfold SmOk; omega)]; rfl
  rw [beq_false_of_ne k1, cond_false]
  by_cases k2 : k = 2
  · subst k2
    rw [beq_self_eq_true, cond_true]
    by_cases h : bf + af ≥ 3600
    · rw [decide_eq_true h, decide_eq_true (show SmOk 2 bf af by unfold SmOk; omega)]
    · rw [decide_eq_false h, decide_eq_false (show ¬ SmOk 2 bf af by unfold SmOk; omega)]
  rw [beq_false_of_ne k2, decide_eq_false (show ¬ SmOk k bf af by unfold SmOk; omega)]; rfl
/-! ### windows -/
def endW (b : Int) (L : List Int) (i : Nat) : Int := (gI L i + 1) * 86400 + b + i + 1
theorem endW_lim {b l : Int} {L : List Int} (T : Tab b l L) {i : Nat} (hi : i < L.length) : -4321000000 ≤ endW b L i ∧ endW b L i ≤ 4321000000 := by
  have a := T.lo i hi
  have c := T.hi i hi
  have := T.l1
  have := T.len
  have := T.b0
  have := T.b1
  unfold endW; omega
theorem swind_at (N : Nat) {b l : Int} {L : List Int} (T : Tab b l L) (k : Int) {bf af : Int} (f0 : 0 ≤ bf) (f1 : bf ≤ 43200) (a0 : 0 ≤ af) (a1 : af ≤ 43200) {i : Nat} (hi : i < L.length) : f_54 N k bf af b l L (i : Int) = some (endW b L i - 1 - bf, endW b L i + af) := by
  have a := T.lo i hi
  have c := T.hi i hi
  have d1 := T.l1
  have d2 := T.len
  have d3 := T.b0
  have d4 := T.b1
  unfold f_54
  rw [decide_eq_true (show 0 ≤ (i : Int) ∧ (i : Int) < (L.length : Int) by omega), cond_true, Int.toNat_natCast]
  show some (IntKind.i64.wrap (IntKind.i64.wrap (IntKind.i64.wrap (IntKind.i64.wrap (IntKind.i64.wrap (IntKind.i64.wrap (IntKind.i64.wrap (gI L i + 1) * 86400) + b) + (i : Int)) + 1) - 1) - bf), IntKind.i64.wrap (IntKind.i64.wrap (IntKind.i64.wrap (IntKind.i64.wrap (IntKind.i64.wrap (IntKind.i64.wrap (gI L i + 1) * 86400) + b) + (i : Int)) + 1) + af)) = _
  have e : IntKind.i64.wrap (IntKind.i64.wrap (IntKind.i64.wrap (IntKind.i64.wrap (IntKind.i64.wrap (gI L i + 1) * 86400) + b) + (i : Int)) + 1) = endW b L i := by
    rw [wi64 (n := gI L i + 1) (by omega) (by omega), wi64 (n := (gI L i + 1) * 86400) (by omega) (by omega), wi64 (n := (gI L i + 1) * 86400 + b) (by omega) (by omega), wi64 (n := (gI L i + 1) * 86400 + b + (i : Int)) (by omega) (by omega), wi64 (by omega) (by omega)]
    rfl
  have hl := endW_lim T hi
  rw [e, wi64 (n := endW b L i - 1) (by omega) (by omega), wi64 (n := endW b L i - 1 - bf) (by omega) (by omega), wi64 (n := endW b L i + af) (by omega) (by omega)]
theorem cnt_next {b l : Int} {L : List Int} (T : Tab b l L) {i : Nat} (hi : i < L.length) : cntD (gI L i + 1) L = i + 1 := by
  refine cnt_uniq _ L (i + 1) (by omega) (fun q hq => ?_) (fun q h1 h2 => ?_)
  · by_cases h : q = i
    · subst h; omega
    · have := T.srt q i (by omega) hi; omega
  · have := T.srt i q (by omega) h2; omega
theorem cnt_here {b l : Int} {L : List Int} (T : Tab b l L) {i : Nat} (hi : i < L.length) : cntD (gI L i) L = i := by
  refine cnt_uniq _ L i (by omega) (fun q hq => T.srt q i hq hi) (fun q h1 h2 => ?_)
  by_cases h : q = i
  · subst h; omega
  · have := T.srt i q (by omega) h2; omega
theorem rswin_at {N : Nat} (hN : 33 ≤ N) {b l : Int} {L : List Int} (T : Tab b l L) (k : Int) {bf af : Int} (f0 : 0 ≤ bf) (f1 : bf ≤ 43200) (a0 : 0 ≤ af) (a1 : af ≤ 43200) {i : Nat} (hi : i < L.length) : f_30 N k bf af b l L (i : Int) = some ((endW b L i - 1 - bf) * 1000000000, (endW b L i + af) * 1000000000) := by
  have a := T.lo i hi
  have c := T.hi i hi
  have d1 := T.l1
  have d2 := T.len
  have hl := endW_lim T hi
  have e : secD b L (gI L i + 1) = endW b L i := by
    unfold secD endW
    rw [cnt_next T hi]; omega
  unfold f_30
  rw [decide_eq_true (show 0 ≤ (i : Int) ∧ (i : Int) < (L.length : Int) by omega), cond_true, Int.toNat_natCast]
  show Option.bind (f_56 N b l L (IntKind.i64.wrap (gI L i + 1))) _ = _
  rw [wi64 (n := gI L i + 1) (by omega) (by omega), lsec_at l (by omega) (by omega) T.b0 T.b1 (by omega) (by omega), e]
  simp only [Option.bind_some]
  rw [wi64 (n := endW b L i - 1) (by omega) (by omega), wi64 (n := endW b L i - 1 - bf) (by omega) (by omega), wi64 (n := endW b L i + af) (by omega) (by omega), wi64 (n := (endW b L i - 1 - bf) * 1000000000) (by omega) (by omega), wi64 (n := (endW b L i + af) * 1000000000) (by omega) (by omega)]
/-! ### do they go together -/
def badW (k bf af b : Int) (L : List Int) (i : Nat) : Bool := decide (k ≠ 0) && decide (endW b L i - 1 - bf < endW b L (i - 1) + af)
def fitW_ (k bf af b : Int) (L : List Int) : Nat → Nat → Bool
  | _, 0 => true
  | i, n + 1 => !badW k bf af b L i && fitW_ k bf af b L (i + 1) n
theorem sfits_loop (N : Nat) {b l : Int} {L : List Int} (T : Tab b l L) {k bf af : Int} (f0 : 0 ≤ bf) (f1 : bf ≤ 43200) (a0 : 0 ≤ af) (a1 : af ≤ 43200) : ∀ (n M i : Nat), 1 ≤ i → i + n = L.length → n < M →
    iter (b_29_0 N) M ((), (), endW b L (i - 1) + af, (L.length : Int), (i : Int), (k, bf, af), (b, l, L)) = bif fitW_ k bf af b L i n then some (.inr ()) else some (.inl (some 9)) := by
  intro n
  have hlen := T.len
  induction n with
  | zero =>
    intro M i h1 hi hM
    obtain ⟨M, rfl⟩ : ∃ m, M = m + 1 := ⟨M - 1, by omega⟩
    show b_29_0 N (iter (b_29_0 N) M) _ = _
    unfold b_29_0
    simp only
    rw [decide_eq_false (show ¬ (i : Int) < (L.length : Int) by omega)]; rfl
  | succ n ih =>
    intro M i h1 hi hM
    obtain ⟨M, rfl⟩ : ∃ m, M = m + 1 := ⟨M - 1, by omega⟩
    have ih' := ih M (i + 1) (by omega) (by omega) (by omega)
    rw [Nat.add_sub_cancel] at ih'
    show b_29_0 N (iter (b_29_0 N) M) _ = _
    generalize iter (b_29_0 N) M = I at ih' ⊢
    unfold b_29_0
    simp only
    rw [decide_eq_true (show (i : Int) < (L.length : Int) by omega), swind_at N T k f0 f1 a0 a1 (by omega), wi64 (n := (i : Int) + 1) (by omega) (by omega), show (i : Int) + 1 = ((i + 1 : Nat) : Int) by omega]
    simp only [cond_true, Option.bind_some]
    rw [ih']
    show _ = bif (!(decide (k ≠ 0) && decide (endW b L i - 1 - bf < endW b L (i - 1) + af)) && fitW_ k bf af b L (i + 1) n) then _ else _
    by_cases hk : k = 0
    · subst hk
      rw [bne_self_eq_false, decide_eq_false (show ¬ ((0 : Int) ≠ 0) by simp)]; rfl
    · rw [bne_iff_ne.2 hk, decide_eq_true hk]
      cases decide (endW b L i - 1 - bf < endW b L (i - 1) + af) <;> rfl
def fitsE (k bf af b l : Int) (L : List Int) : Int := if SmOk k bf af ∧ tabB b l L = true then (bif fitW_ k bf af b L 1 (L.length - 1) then 0 else 9) else 1
theorem sfits_at {N : Nat} (hN : 100 ≤ N) {b l : Int} {L : List Int} (hL : L.length ≤ 40) (k bf af : Int) : f_29 N k bf af b l L = some (if fitsE k bf af b l L = 0 then none else some (fitsE k bf af b l L)) := by
  unfold f_29
  rw [scheck_at]
  by_cases hs : SmOk k bf af
  rotate_left
  · have hE : fitsE k bf af b l L = 1 := by unfold fitsE; rw [if_neg (fun h => hs h.1)]
    rw [if_neg hs, hE]; rfl
  rw [if_pos hs]
  simp only [Option.bind_some, Option.isNone_none, Bool.not_true, cond_false]
  rw [lcheck_at (by omega) (by omega)]
  cases ht : tabB b l L with
  | false =>
    have hE : fitsE k bf af b l L = 1 := by unfold fitsE; rw [if_neg (fun h => by rw [ht] at h; cases h.2)]
    rw [hE]; rfl
  | true =>
    have T := tab_of ht
    have hlen := T.len
    have hE : fitsE k bf af b l L = bif fitW_ k bf af b L 1 (L.length - 1) then 0 else 9 := by unfold fitsE; rw [if_pos ⟨hs, ht⟩]
    rw [hE]
    simp only [cond_true, Option.bind_some, Option.isNone_none, Bool.not_true, cond_false]
    have hs' := hs
    unfold SmOk at hs'
    obtain ⟨⟨f0, f1, a0, a1⟩, _⟩ := hs'
    have hlp : l_29_0 N ((), (), -9223372036854775808, (L.length : Int), 0, (k, bf, af), (b, l, L)) = bif fitW_ k bf af b L 1 (L.length - 1) then some (.inr ()) else some (.inl (some 9)) := by
      obtain ⟨M, rfl⟩ : ∃ m, N = m + 1 := ⟨N - 1, by omega⟩
      show b_29_0 (M + 1) (iter (b_29_0 (M + 1)) M) ((), (), -9223372036854775808, (L.length : Int), ((0 : Nat) : Int), (k, bf, af), (b, l, L)) = _
      by_cases h0 : L.length = 0
      · unfold b_29_0
        simp only
        rw [decide_eq_false (show ¬ ((0 : Nat) : Int) < (L.length : Int) by omega), h0]; rfl
      · have hlim := endW_lim T (show 0 < L.length by omega)
        have hl := sfits_loop (M + 1) T (k := k) f0 f1 a0 a1 (L.length - 1) M 1 (Nat.le_refl _) (by omega) (by omega)
        rw [Nat.sub_self] at hl
        rw [← hl]
        generalize iter (b_29_0 (M + 1)) M = I
        unfold b_29_0
        simp only
        rw [decide_eq_true (show ((0 : Nat) : Int) < (L.length : Int) by omega), swind_at (M + 1) T k f0 f1 a0 a1 (show 0 < L.length by omega)]
        simp only [cond_true, Option.bind_some]
        rw [decide_eq_false (show ¬ endW b L 0 - 1 - bf < -9223372036854775808 by omega)]
        cases (k != 0) <;> rfl
    rw [hlp]
    cases fitW_ k bf af b L 1 (L.length - 1) <;> rfl
theorem rsfits_loop (N : Nat) (hN : 33 ≤ N) {b l : Int} {L : List Int} (T : Tab b l L) {k bf af : Int} (hk0 : 0 ≤ k) (f0 : 0 ≤ bf) (f1 : bf ≤ 43200) (a0 : 0 ≤ af) (a1 : af ≤ 43200) : ∀ (n M i : Nat), 1 ≤ i → i + n = L.length → n < M →
    iter (b_24_0 N) M ((), (), (i : Int), (k, bf, af), (b, l, L)) = bif fitW_ k bf af b L i n then some (.inr ()) else some (.inl 9) := by
  intro n
  have hlen := T.len
  induction n with
  | zero =>
    intro M i h1 hi hM
    obtain ⟨M, rfl⟩ : ∃ m, M = m + 1 := ⟨M - 1, by omega⟩
    show b_24_0 N (iter (b_24_0 N) M) _ = _
    unfold b_24_0
    simp only
    rw [decide_eq_false (show ¬ (i : Int) < (L.length : Int) by omega)]; rfl
  | succ n ih =>
    intro M i h1 hi hM
    obtain ⟨M, rfl⟩ : ∃ m, M = m + 1 := ⟨M - 1, by omega⟩
    have ih' := ih M (i + 1) (by omega) (by omega) (by omega)
    have hl1 := endW_lim T (show i < L.length by omega)
    have hl2 := endW_lim T (show i - 1 < L.length by omega)
    show b_24_0 N (iter (b_24_0 N) M) _ = _
    generalize iter (b_24_0 N) M = I at ih' ⊢
    unfold b_24_0
    simp only
    rw [decide_eq_true (show (i : Int) < (L.length : Int) by omega), wi64 (n := (i : Int) - 1) (by omega) (by omega), show (i : Int) - 1 = ((i - 1 : Nat) : Int) by omega, rswin_at hN T k f0 f1 a0 a1 (show i - 1 < L.length by omega), rswin_at hN T k f0 f1 a0 a1 (show i < L.length by omega), wi64 (n := (i : Int) + 1) (by omega) (by omega), show (i : Int) + 1 = ((i + 1 : Nat) : Int) by omega]
    simp only [cond_true, Option.bind_some]
    rw [ih']
    show _ = bif (!(decide (k ≠ 0) && decide (endW b L i - 1 - bf < endW b L (i - 1) + af)) && fitW_ k bf af b L (i + 1) n) then _ else _
    have e : decide ((endW b L i - 1 - bf) * 1000000000 < (endW b L (i - 1) + af) * 1000000000) = decide (endW b L i - 1 - bf < endW b L (i - 1) + af) := decide_eq_decide.2 (by omega)
    rw [e]
    by_cases hk : k = 0
    · subst hk
      rw [decide_eq_false (show ¬ (0 : Int) > 0 by omega), decide_eq_false (show ¬ ((0 : Int) ≠ 0) by simp)]; rfl
    · rw [decide_eq_true (show k > 0 by omega), decide_eq_true hk]
      cases decide (endW b L i - 1 - bf < endW b L (i - 1) + af) <;> rfl
theorem rsfits_at {N : Nat} (hN : 100 ≤ N) {b l : Int} {L : List Int} (hL : L.length ≤ 40) (k bf af : Int) : f_24 N k bf af b l L = some (fitsE k bf af b l L) := by
  unfold f_24
  rw [smay_at]
  by_cases hs : SmOk k bf af
  rotate_left
  · have hE : fitsE k bf af b l L = 1 := by unfold fitsE; rw [if_neg (fun h => hs h.1)]
    rw [decide_eq_false hs, hE]; rfl
  rw [decide_eq_true hs]
  simp only [Option.bind_some, Bool.not_true, cond_false]
  rw [lmay_at (by omega) (by omega)]
  cases ht : tabB b l L with
  | false =>
    have hE : fitsE k bf af b l L = 1 := by unfold fitsE; rw [if_neg (fun h => by rw [ht] at h; cases h.2)]
    rw [hE]; rfl
  | true =>
    have T := tab_of ht
    have hlen := T.len
    have hE : fitsE k bf af b l L = bif fitW_ k bf af b L 1 (L.length - 1) then 0 else 9 := by unfold fitsE; rw [if_pos ⟨hs, ht⟩]
    rw [hE]
    simp only [Option.bind_some, Bool.not_true, cond_false]
    have hs' := hs
    unfold SmOk at hs'
    obtain ⟨⟨f0, f1, a0, a1⟩, hk⟩ := hs'
    have hlp : l_24_0 N ((), (), 1, (k, bf, af), (b, l, L)) = bif fitW_ k bf af b L 1 (L.length - 1) then some (.inr ()) else some (.inl 9) := by
      by_cases h0 : L.length = 0
      · obtain ⟨M, rfl⟩ : ∃ m, N = m + 1 := ⟨N - 1, by omega⟩
        show b_24_0 (M + 1) (iter (b_24_0 (M + 1)) M) ((), (), 1, (k, bf, af), (b, l, L)) = _
        unfold b_24_0
        simp only
        rw [decide_eq_false (show ¬ (1 : Int) < (L.length : Int) by omega), h0]; rfl
      · exact rsfits_loop N (by omega) T (by omega) f0 f1 a0 a1 (L.length - 1) N 1 (Nat.le_refl _) (by omega) (by omega)
    rw [hlp]
    cases fitW_ k bf af b L 1 (L.length - 1) <;> rfl
def lenS (bf af : Int) : Int := (bf + 1 + af) * 1000000000
def softQ (Ln g : Int) : Int := g * (2000000000 * g / Ln)
def lagV (k Ln g : Int) : Int :=
  if k = 1 then 1000000000 - (Ln - g) * 1000000000 / Ln
  else if g ≥ Ln / 2 then 1000000000 - softQ Ln (Ln - g) / Ln
  else if softQ Ln g % Ln > 0 then softQ Ln g / Ln + 1 else softQ Ln g / Ln
def LagOk (k bf af g : Int) : Prop := SmOk k bf af ∧ k ≠ 0 ∧ 0 ≤ g ∧ g ≤ lenS bf af
instance (k bf af g : Int) : Decidable (LagOk k bf af g) := by unfold LagOk; infer_instance
theorem i64B_t {x : Int} (h0 : -9223372036854775808 ≤ x) (h1 : x < 9223372036854775808) : i64B x = true := decide_eq_true ⟨h0, h1⟩
theorem part_le {a g Ln : Int} (a0 : 0 ≤ a) (g0 : 0 ≤ g) (h : g ≤ Ln) (hL : 0 < Ln) : 0 ≤ a * g / Ln ∧ a * g / Ln ≤ a := by
  refine ⟨Int.ediv_nonneg (Int.mul_nonneg a0 g0) (by omega), ?_⟩
  have h1 := Int.ediv_le_ediv hL (Int.mul_le_mul_of_nonneg_left h a0)
  rwa [Int.mul_ediv_cancel _ (by omega)] at h1
theorem softQ_lim {Ln g : Int} (g0 : 0 ≤ g) (h : g ≤ Ln) (hL : 0 < Ln) (hL2 : Ln ≤ 86401000000000) : 0 ≤ 2000000000 * g / Ln ∧ 2000000000 * g / Ln ≤ 2000000000 ∧ 0 ≤ softQ Ln g ∧ softQ Ln g ≤ 172802000000000000000000 ∧ 0 ≤ softQ Ln g / Ln ∧ softQ Ln g / Ln ≤ 2000000000 := by
  obtain ⟨r0, r1⟩ := part_le (a := 2000000000) (by decide) g0 h hL
  have q0 : 0 ≤ softQ Ln g := Int.mul_nonneg g0 r0
  have q1 : softQ Ln g ≤ 86401000000000 * 2000000000 := Int.mul_le_mul (by omega) r1 r0 (by decide)
  have q2 := part_le (a := 2000000000 * g / Ln) r0 g0 h hL
  have e : softQ Ln g = 2000000000 * g / Ln * g := Int.mul_comm _ _
  rw [e]
  rw [e] at q0 q1
  exact ⟨r0, r1, q0, by omega, q2.1, Int.le_trans q2.2 r1⟩
theorem soft_at (N : Nat) {Ln g : Int} (g0 : 0 ≤ g) (h : g ≤ Ln) (hL : 0 < Ln) (hL2 : Ln ≤ 86401000000000) : f_50 N g Ln = some (softQ Ln g / Ln, softQ Ln g % Ln, none) := by
  obtain ⟨r0, r1, q0, q1, s0, s1⟩ := softQ_lim g0 h hL hL2
  have e1 : mdF 2000000000 g Ln = some (2000000000 * g / Ln, none) := by
    unfold mdF fitP
    rw [i64B_t (x := 2000000000) (by decide) (by decide), i64B_t (x := g) (by omega) (by omega), i64B_t (x := Ln) (by omega) (by omega), decide_eq_false (by omega), i64B_t (x := 2000000000 * g / Ln) (by omega) (by omega)]; rfl
  have e2 : wmulF g (2000000000 * g / Ln) = some (hlD (softQ Ln g)) := by
    unfold wmulF
    rw [i64B_t (x := g) (by omega) (by omega), i64B_t (x := 2000000000 * g / Ln) (by omega) (by omega)]; rfl
  have e3 : wdivF (((hlD (softQ Ln g)).1, (hlD (softQ Ln g)).2), Ln) = some (hlD (softQ Ln g / Ln), softQ Ln g % Ln, none) := by
    unfold wdivF
    have hv : hlV ((hlD (softQ Ln g)).1, (hlD (softQ Ln g)).2) = softQ Ln g := hlD_hlV _
    have u : u64B (hlD (softQ Ln g)).2 = true := u64B_iff.2 (by unfold hlD; simp only; omega)
    have w : i64B (hlD (softQ Ln g)).1 = true := i64B_t (by unfold hlD; simp only; omega) (by unfold hlD; simp only; omega)
    show (bif i64B (hlD (softQ Ln g)).1 && (u64B (hlD (softQ Ln g)).2 && i64B Ln) then some (bif decide (Ln < 1) then ((0, 0), 0, some 1) else (hlD (hlV ((hlD (softQ Ln g)).1, (hlD (softQ Ln g)).2) / Ln), hlV ((hlD (softQ Ln g)).1, (hlD (softQ Ln g)).2) % Ln, none)) else none) = _
    rw [hv, u, w, i64B_t (x := Ln) (by omega) (by omega), decide_eq_false (show ¬ Ln < 1 by omega)]; rfl
  have e4 : wintF ((hlD (softQ Ln g / Ln)).1, (hlD (softQ Ln g / Ln)).2) = some (softQ Ln g / Ln, none) := by
    unfold wintF fitP
    have hv : hlV ((hlD (softQ Ln g / Ln)).1, (hlD (softQ Ln g / Ln)).2) = softQ Ln g / Ln := hlD_hlV _
    have u : u64B (hlD (softQ Ln g / Ln)).2 = true := u64B_iff.2 (by unfold hlD; simp only; omega)
    have w : i64B (hlD (softQ Ln g / Ln)).1 = true := i64B_t (by unfold hlD; simp only; omega) (by unfold hlD; simp only; omega)
    simp only [hv]
    rw [u, w, i64B_t (x := softQ Ln g / Ln) (by omega) (by omega)]; rfl
  unfold f_50
  rw [e1]
  simp only [Option.bind_some, Option.isNone_none, Bool.not_true, cond_false]
  rw [e2]
  simp only [Option.bind_some]
  rw [e3]
  simp only [Option.bind_some, Option.isNone_none, Bool.not_true, cond_false]
  rw [e4]; rfl
theorem smOk_lim {k bf af : Int} (h : SmOk k bf af) : 0 ≤ bf ∧ bf ≤ 43200 ∧ 0 ≤ af ∧ af ≤ 43200 ∧ 1000000000 ≤ lenS bf af ∧ lenS bf af ≤ 86401000000000 ∧ 0 ≤ k ∧ k ≤ 2 := by
  unfold SmOk at h
  unfold lenS; omega
theorem slag_at (N : Nat) (k bf af g : Int) : f_22 N k bf af g = some (if LagOk k bf af g then (lagV k (lenS bf af) g, none) else (0, some 1)) := by
  unfold f_22 f_48
  simp only [Option.bind_some]
  rw [scheck_at]
  by_cases hs : SmOk k bf af
  rotate_left
  · rw [if_neg hs, if_neg (fun h => hs h.1)]; rfl
  obtain ⟨f0, f1, a0, a1, l0, l1, k0, k1⟩ := smOk_lim hs
  rw [if_pos hs, wi64 (n := bf + 1) (by omega) (by omega), wi64 (n := bf + 1 + af) (by omega) (by omega), wi64 (n := (bf + 1 + af) * 1000000000) (by omega) (by omega)]
  change Option.bind (some none) _ = _
  simp only [Option.bind_some, Option.isNone_none, Bool.not_true, cond_false]
  rw [show (bf + 1 + af) * 1000000000 = lenS bf af from rfl]
  generalize hLn : lenS bf af = Ln at l0 l1
  by_cases hk : k = 0
  · rw [hk, beq_self_eq_true, if_neg (fun h => h.2.1 rfl)]; rfl
  rw [beq_false_of_ne hk, cond_false]
  by_cases g0 : g < 0
  · rw [decide_eq_true g0, if_neg (by unfold LagOk; omega)]; rfl
  rw [decide_eq_false g0, cond_false]
  by_cases g1 : g > Ln
  · rw [decide_eq_true g1, if_neg (by unfold LagOk; omega)]; rfl
  rw [decide_eq_false g1, cond_false, if_pos ⟨hs, hk, by omega, by omega⟩]
  unfold lagV
  by_cases hk1 : k = 1
  · obtain ⟨p0, p1⟩ := part_le (a := 1000000000) (g := Ln - g) (Ln := Ln) (by decide) (by omega) (by omega) (by omega)
    rw [Int.mul_comm] at p0 p1
    have e1 : mdF (Ln - g) 1000000000 Ln = some ((Ln - g) * 1000000000 / Ln, none) := by
      unfold mdF fitP
      rw [i64B_t (x := 1000000000) (by decide) (by decide), i64B_t (x := Ln - g) (by omega) (by omega), i64B_t (x := Ln) (by omega) (by omega), decide_eq_false (by omega), i64B_t (x := (Ln - g) * 1000000000 / Ln) (by omega) (by omega)]; rfl
    rw [hk1, beq_self_eq_true, cond_true, if_pos rfl, wi64 (n := Ln - g) (by omega) (by omega), e1]
    simp only [Option.bind_some]
    rw [wi64 (by omega) (by omega)]
  rw [beq_false_of_ne hk1, cond_false, if_neg hk1, Int.tdiv_eq_ediv_of_nonneg (by omega), wi64 (n := Ln / 2) (by omega) (by omega)]
  by_cases hg : g ≥ Ln / 2
  · obtain ⟨r0, r1, q0, q1, s0, s1⟩ := softQ_lim (g := Ln - g) (Ln := Ln) (by omega) (by omega) (by omega) l1
    rw [decide_eq_true hg, cond_true, if_pos hg, wi64 (n := Ln - g) (by omega) (by omega), soft_at N (by omega) (by omega) (by omega) l1]
    simp only [Option.bind_some]
    rw [wi64 (by omega) (by omega)]
  · obtain ⟨r0, r1, q0, q1, s0, s1⟩ := softQ_lim (g := g) (Ln := Ln) (by omega) (by omega) (by omega) l1
    rw [decide_eq_false hg, cond_false, if_neg hg, soft_at N (by omega) (by omega) (by omega) l1]
    simp only [Option.bind_some]
    by_cases hr : softQ Ln g % Ln > 0
    · rw [decide_eq_true hr, if_pos hr, cond_true, wi64 (by omega) (by omega)]
    · rw [decide_eq_false hr, if_neg hr, cond_false]
/-! ### the document's -/
theorem cdiv {n L : Int} (hL : 0 < L) : -(-n / L) = if n % L > 0 then n / L + 1 else n / L := by
  have e := Int.emod_add_mul_ediv n L
  have r0 := Int.emod_nonneg n (show L ≠ 0 by omega)
  have r1 := Int.emod_lt_of_pos n hL
  generalize hq : n / L = q at e
  generalize hr : n % L = r at e r0 r1
  by_cases h : r > 0
  · rw [if_pos h]
    have e2 : -n = (L - r) + L * (-q - 1) := by rw [Int.mul_sub, Int.mul_neg]; omega
    rw [e2, Int.add_mul_ediv_left _ _ (by omega), Int.ediv_eq_zero_of_lt (by omega) (by omega)]; omega
  · rw [if_neg h]
    have e2 : -n = 0 + L * (-q) := by rw [Int.mul_neg]; omega
    rw [e2, Int.add_mul_ediv_left _ _ (by omega)]; simp
theorem rmd_at {a c d : Int} (ha : -9223372036854775808 ≤ a ∧ a < 9223372036854775808) (hc : -9223372036854775808 ≤ c ∧ c < 9223372036854775808) (hd : 0 < d ∧ d < 9223372036854775808) (h0 : -9223372036854775808 ≤ a * c / d) (h1 : a * c / d < 9223372036854775808) : rmdF a c d = some (a * c / d, 0) := by
  unfold rmdF
  rw [i64B_t ha.1 ha.2, i64B_t hc.1 hc.2, i64B_t (x := d) (by omega) hd.2, decide_eq_false (by omega), i64B_t h0 h1]; rfl
theorem up_at (N : Nat) {g c d : Int} (g0 : 0 ≤ g) (c0 : 0 ≤ c) (c1 : c ≤ 2000000000) (d0 : 0 < d) (d1 : d ≤ 86401000000000) (h : g ≤ d) : f_51 N g c d = some (if (g * c) % d > 0 then (g * c) / d + 1 else (g * c) / d) := by
  have hp := part_le (a := c) (g := g) (Ln := d) c0 g0 h d0
  rw [Int.mul_comm] at hp
  have hc := cdiv (n := g * c) d0
  have hb : -2000000001 ≤ -(g * c) / d ∧ -(g * c) / d ≤ 0 := by
    split at hc <;> omega
  have e1 : rmdF (-g) c d = some (-(g * c) / d, 0) := by
    have := rmd_at (a := -g) (c := c) (d := d) (by omega) (by omega) (by omega) (by rw [Int.neg_mul]; omega) (by rw [Int.neg_mul]; omega)
    rwa [Int.neg_mul] at this
  unfold f_51
  rw [Int.zero_sub, wi64 (n := -g) (by omega) (by omega), e1]
  simp only [Option.bind_some]
  rw [Int.zero_sub, wi64 (by omega) (by omega), hc]
theorem rslag_at (N : Nat) (k bf af g : Int) : f_23 N k bf af g = some (if LagOk k bf af g then (lagV k (lenS bf af) g, 0) else (0, 1)) := by
  unfold f_23
  rw [smay_at]
  by_cases hs : SmOk k bf af
  rotate_left
  · rw [decide_eq_false hs, if_neg (fun h => hs h.1)]; rfl
  obtain ⟨f0, f1, a0, a1, l0, l1, k0, k1⟩ := smOk_lim hs
  have eL : IntKind.i64.wrap (IntKind.i64.wrap (IntKind.i64.wrap (bf + af) + 1) * 1000000000) = lenS bf af := by
    rw [wi64 (n := bf + af) (by omega) (by omega), wi64 (n := bf + af + 1) (by omega) (by omega), wi64 (by omega) (by omega)]
    unfold lenS; omega
  rw [decide_eq_true hs, eL]
  simp only [Option.bind_some, Bool.not_true, cond_false]
  generalize hLn : lenS bf af = Ln at l0 l1
  by_cases hk : k = 0
  · rw [hk, beq_self_eq_true, if_neg (fun h => h.2.1 rfl)]; rfl
  rw [beq_false_of_ne hk, cond_false]
  by_cases g0 : g < 0
  · rw [decide_eq_true g0, if_neg (by unfold LagOk; omega)]; rfl
  rw [decide_eq_false g0, cond_false]
  by_cases g1 : g > Ln
  · rw [decide_eq_true g1, if_neg (by unfold LagOk; omega)]; rfl
  rw [decide_eq_false g1, cond_false, if_pos ⟨hs, hk, by omega, by omega⟩]
  unfold lagV
  by_cases hk1 : k = 1
  · rw [hk1, beq_self_eq_true, cond_true, if_pos rfl, up_at N (by omega) (by decide) (by decide) (by omega) l1 (by omega)]
    simp only [Option.bind_some]
    have e : (Ln - g) * 1000000000 = -(g * 1000000000) + Ln * 1000000000 := by omega
    have hv : (if g * 1000000000 % Ln > 0 then g * 1000000000 / Ln + 1 else g * 1000000000 / Ln) = 1000000000 - (Ln - g) * 1000000000 / Ln := by
      rw [e, Int.add_mul_ediv_left _ _ (by omega), ← cdiv (by omega)]; omega
    rw [hv]
  rw [beq_false_of_ne hk1, cond_false, if_neg hk1, Int.tdiv_eq_ediv_of_nonneg (by omega), wi64 (n := Ln / 2) (by omega) (by omega)]
  by_cases hg : g ≥ Ln / 2
  · obtain ⟨r0, r1, q0, q1, s0, s1⟩ := softQ_lim (g := Ln - g) (Ln := Ln) (by omega) (by omega) (by omega) l1
    have e1 : rmdF (Ln - g) 2000000000 Ln = some (2000000000 * (Ln - g) / Ln, 0) := by
      have := rmd_at (a := Ln - g) (c := 2000000000) (d := Ln) (by omega) (by omega) (by omega) (by rw [Int.mul_comm]; omega) (by rw [Int.mul_comm]; omega)
      rwa [Int.mul_comm (Ln - g) 2000000000] at this
    have e2 : rmdF (Ln - g) (2000000000 * (Ln - g) / Ln) Ln = some (softQ Ln (Ln - g) / Ln, 0) := rmd_at (by omega) (by omega) (by omega) (by change _ ≤ softQ Ln (Ln - g) / Ln; omega) (by change softQ Ln (Ln - g) / Ln < _; omega)
    rw [decide_eq_false (show ¬ g < Ln / 2 by omega), cond_false, if_pos hg, wi64 (n := Ln - g) (by omega) (by omega), e1]
    simp only [Option.bind_some]
    rw [e2]
    simp only [Option.bind_some]
    rw [wi64 (by omega) (by omega)]
  · obtain ⟨r0, r1, q0, q1, s0, s1⟩ := softQ_lim (g := g) (Ln := Ln) (by omega) (by omega) (by omega) l1
    have e1 : rmdF g 2000000000 Ln = some (2000000000 * g / Ln, 0) := by
      have := rmd_at (a := g) (c := 2000000000) (d := Ln) (by omega) (by omega) (by omega) (by rw [Int.mul_comm]; omega) (by rw [Int.mul_comm]; omega)
      rwa [Int.mul_comm g 2000000000] at this
    rw [decide_eq_true (show g < Ln / 2 by omega), cond_true, if_neg hg, e1]
    simp only [Option.bind_some]
    rw [up_at N (by omega) r0 r1 (by omega) l1 (by omega)]
    rfl
theorem ssure_at : f_21 3000 = some true := by kernel_rfl
theorem snum_none (N : Nat) : f_28 N none = some 0 := rfl
theorem snum_some (N : Nat) (e : Int) : f_28 N (some e) = some e := rfl
theorem fitsE_zero {k bf af b l : Int} {L : List Int} (h : fitsE k bf af b l L = 0) : SmOk k bf af ∧ tabB b l L = true := by
  unfold fitsE at h
  by_cases hc : SmOk k bf af ∧ tabB b l L = true
  · exact hc
  · rw [if_neg hc] at h; cases h
theorem swin_at {N : Nat} (hN : 100 ≤ N) {b l : Int} {L : List Int} (hL : L.length ≤ 40) (k bf af i : Int) : f_25 N k bf af b l L i = some (if fitsE k bf af b l L = 0 then (if k = 0 ∨ i < 0 ∨ i ≥ (L.length : Int) then (0, 0, some 1) else ((endW b L i.toNat - 1 - bf) * 1000000000, (endW b L i.toNat + af) * 1000000000, none)) else (0, 0, some (fitsE k bf af b l L))) := by
  unfold f_25
  rw [sfits_at hN hL]
  by_cases hE : fitsE k bf af b l L = 0
  rotate_left
  · rw [if_neg hE, if_neg hE]; rfl
  obtain ⟨hs, ht⟩ := fitsE_zero hE
  obtain ⟨f0, f1, a0, a1, _⟩ := smOk_lim hs
  have T := tab_of ht
  rw [if_pos hE, if_pos hE]
  simp only [Option.bind_some, Option.isNone_none, Bool.not_true, cond_false]
  by_cases hk : k = 0
  · rw [if_pos (.inl hk), hk]; rfl
  rw [beq_false_of_ne hk, cond_false]
  by_cases h0 : i < 0
  · rw [if_pos (.inr (.inl h0)), decide_eq_true h0]; rfl
  rw [decide_eq_false h0, cond_false]
  by_cases h1 : i ≥ (L.length : Int)
  · rw [if_pos (.inr (.inr h1)), decide_eq_true h1]; rfl
  rw [decide_eq_false h1, cond_false, if_neg (by omega)]
  obtain ⟨n, rfl⟩ := Int.eq_ofNat_of_zero_le (show 0 ≤ i by omega)
  have hl := endW_lim T (show n < L.length by omega)
  rw [swind_at N T k f0 f1 a0 a1 (show n < L.length by omega)]
  simp only [Option.bind_some, Int.toNat_natCast]
  rw [wi64 (n := (endW b L n - 1 - bf) * 1000000000) (by omega) (by omega), wi64 (n := (endW b L n + af) * 1000000000) (by omega) (by omega)]
theorem steps_holds (k bf af b l : Int) (L of : List Int) : f_5 3000 k bf af b l L of = some true := by
  unfold f_5
  rw [ssure_at]
  by_cases hL : (L.length : Int) > 40
  · rw [decide_eq_true hL]; rfl
  have hL' : L.length ≤ 40 := by omega
  rw [decide_eq_false hL, cond_false]
  generalize List.getD of (Int.toNat 0) 0 = g
  generalize List.getD of (Int.toNat 1) 0 = i
  rw [slag_at, rslag_at, rsfits_at (by decide) hL', swin_at (by decide) hL', scheck_at, smay_at, sfits_at (by decide) hL']
  simp only [Option.bind_some]
  have e1 : (Option.isNone (if SmOk k bf af then (none : Option Int) else some 1) == decide (SmOk k bf af)) = true := by
    by_cases hs : SmOk k bf af
    · rw [if_pos hs, decide_eq_true hs]; rfl
    · rw [if_neg hs, decide_eq_false hs]; rfl
  have e2 : f_28 3000 (if fitsE k bf af b l L = 0 then none else some (fitsE k bf af b l L)) = some (fitsE k bf af b l L) := by
    by_cases hE : fitsE k bf af b l L = 0
    · rw [if_pos hE, hE]; rfl
    · rw [if_neg hE]; rfl
  rw [e1, e2]
  simp only [Bool.not_true, cond_false, Option.bind_some, bne_self_eq_false]
  have e3 : (((if LagOk k bf af g then (lagV k (lenS bf af) g, (none : Option Int)) else (0, some 1)).1 != (if LagOk k bf af g then (lagV k (lenS bf af) g, (0 : Int)) else (0, 1)).1)) = false := by
    by_cases h : LagOk k bf af g
    · rw [if_pos h, if_pos h]; exact bne_self_eq_false _
    · rw [if_neg h, if_neg h]; rfl
  have e4 : f_28 3000 (if LagOk k bf af g then (lagV k (lenS bf af) g, (none : Option Int)) else (0, some 1)).2 = some (if LagOk k bf af g then (lagV k (lenS bf af) g, (0 : Int)) else (0, 1)).2 := by
    by_cases h : LagOk k bf af g
    · rw [if_pos h, if_pos h]; rfl
    · rw [if_neg h, if_neg h]; rfl
  rw [e3, e4]
  simp only [cond_false, Option.bind_some, bne_self_eq_false]
  by_cases hE : fitsE k bf af b l L = 0
  rotate_left
  · rw [bne_iff_ne.2 hE, if_neg hE]
    simp only [cond_true, snum_some, Option.bind_some, beq_self_eq_true]
  rw [hE, bne_self_eq_false, cond_false, if_pos rfl]
  obtain ⟨hs, ht⟩ := fitsE_zero hE
  obtain ⟨f0, f1, a0, a1, _⟩ := smOk_lim hs
  have T := tab_of ht
  by_cases hk : k = 0
  · rw [if_pos (.inl hk), hk]; rfl
  rw [beq_false_of_ne hk, cond_false]
  by_cases h0 : i < 0
  · rw [if_pos (.inr (.inl h0)), decide_eq_true h0]; rfl
  rw [decide_eq_false h0, cond_false]
  by_cases h1 : i ≥ (L.length : Int)
  · rw [if_pos (.inr (.inr h1)), decide_eq_true h1]; rfl
  rw [decide_eq_false h1, cond_false, if_neg (by omega)]
  obtain ⟨n, rfl⟩ := Int.eq_ofNat_of_zero_le (show 0 ≤ i by omega)
  rw [rswin_at (by decide) T k f0 f1 a0 a1 (show n < L.length by omega)]
  simp only [Option.bind_some, Option.isNone_none, cond_true, Int.toNat_natCast, beq_self_eq_true]
end Go.Proofs.YtmdnnlfoljdfpaaDoor.Mir
