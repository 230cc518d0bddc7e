/- Smears: what the time is; the law SmearTells, in plain data. -/
import Derived.Test.YtmdnnlfoljdfpaaDoorSmear
namespace Go.Proofs.YtmdnnlfoljdfpaaDoor.Mir
open Go Go.RowKit
set_option maxRecDepth 100000

theorem utcE_zero {b l : Int} {L : List Int} {tai : Int} (h : utcE b l L tai = 0) : (-4611686018427387904 < tai ∧ tai < 4611686018427387904) ∧ secD b L (-50000) ≤ tai / 1000000000 ∧ tai / 1000000000 < secD b L l := by
  unfold utcE at h
  by_cases g1 : tai ≤ -4611686018427387904 ∨ tai ≥ 4611686018427387904
  · rw [if_pos g1] at h; cases h
  rw [if_neg g1] at h
  by_cases g2 : tai / 1000000000 < secD b L (-50000)
  · rw [if_pos g2] at h; cases h
  rw [if_neg g2] at h
  by_cases g3 : tai / 1000000000 ≥ secD b L l
  · rw [if_pos g3] at h; cases h
  exact ⟨by omega, by omega, by omega⟩
theorem day_lim {b l : Int} {L : List Int} (T : Tab b l L) {tai : Int} (h : utcE b l L tai = 0) : -50000 ≤ dayS b L (tai / 1000000000) ∧ dayS b L (tai / 1000000000) < l := by
  obtain ⟨_, h1, h2⟩ := utcE_zero h
  obtain ⟨s1, s2⟩ := dayS_spec T (tai / 1000000000)
  have a := secD_lt (Int.lt_of_le_of_lt h1 s2)
  have c := secD_lt (Int.lt_of_le_of_lt s1 h2)
  omega
def outV (b : Int) (L : List Int) (tai : Int) : Int := tai - (b + cntD (dayS b L (tai / 1000000000)) L) * 1000000000
theorem plain_at {N : Nat} (hN : 33 ≤ N) {b l : Int} {L : List Int} (h : tabB b l L = true) {tai : Int} (t0 : -9223372036854775808 ≤ tai) (t1 : tai < 9223372036854775808) : f_57 N b l L tai = some (if utcE b l L tai = 0 then (outV b L tai, none) else (0, some (utcE b l L tai))) := by
  have T := tab_of h
  unfold f_57
  rw [utc_at hN h t0 t1]
  by_cases hE : utcE b l L tai = 0
  rotate_left
  · rw [if_neg hE, if_neg hE]; rfl
  rw [if_pos hE, if_pos hE]
  obtain ⟨d0, d1⟩ := day_lim T hE
  obtain ⟨⟨u0, u1⟩, _⟩ := utcE_zero hE
  simp only [Option.bind_some, Option.isNone_none, Bool.not_true, cond_false]
  rw [ahead_at hN h d0 d1]
  simp only [Option.bind_some, Option.isNone_none, Bool.not_true, cond_false]
  have c1 := cntD_le (dayS b L (tai / 1000000000)) L
  have c2 := T.len
  have c3 := T.b0
  have c4 := T.b1
  rw [wi64 (n := (b + (cntD (dayS b L (tai / 1000000000)) L : Int)) * 1000000000) (by omega) (by omega), wi64 (n := tai - _) (by omega) (by omega)]
  rfl
/-! ### the window that holds a moment -/
def fromN (bf b : Int) (L : List Int) (i : Nat) : Int := (endW b L i - 1 - bf) * 1000000000
def untilN (af b : Int) (L : List Int) (i : Nat) : Int := (endW b L i + af) * 1000000000
def winF (bf af b : Int) (L : List Int) (tai : Int) : Nat → Nat → Option Nat
  | _, 0 => none
  | i, n + 1 => if fromN bf b L i ≤ tai ∧ tai < untilN af b L i then some i else winF bf af b L tai (i + 1) n
theorem winF_succ (bf af b : Int) (L : List Int) (tai : Int) (i n : Nat) : winF bf af b L tai i (n + 1) = if fromN bf b L i ≤ tai ∧ tai < untilN af b L i then some i else winF bf af b L tai (i + 1) n := rfl
def atI (k bf af b : Int) (L : List Int) (tai : Int) (i : Nat) : Int := tai - (b + i) * 1000000000 - lagV k (lenS bf af) (tai - fromN bf b L i)
theorem lagV_lim {k Ln g : Int} (l0 : 1000000000 ≤ Ln) (l1 : Ln ≤ 86401000000000) (g0 : 0 ≤ g) (g1 : g ≤ Ln) : -1000000000 ≤ lagV k Ln g ∧ lagV k Ln g ≤ 2000000001 := by
  obtain ⟨_, _, _, _, s0, s1⟩ := softQ_lim (g := g) (Ln := Ln) g0 g1 (by omega) l1
  obtain ⟨_, _, _, _, s2, s3⟩ := softQ_lim (g := Ln - g) (Ln := Ln) (by omega) (by omega) (by omega) l1
  obtain ⟨p0, p1⟩ := part_le (a := 1000000000) (g := Ln - g) (Ln := Ln) (by decide) (by omega) (by omega) (by omega)
  rw [Int.mul_comm] at p0 p1
  unfold lagV
  split
  · omega
  · split
    · omega
    · split <;> omega
theorem lagOk_in {k bf af b : Int} {L : List Int} {tai : Int} {i : Nat} (hs : SmOk k bf af) (hk : k ≠ 0) (h : fromN bf b L i ≤ tai ∧ tai < untilN af b L i) : LagOk k bf af (tai - fromN bf b L i) := by
  unfold fromN untilN at h
  refine ⟨hs, hk, by unfold fromN; omega, ?_⟩
  unfold lenS fromN; omega
theorem sat_loop (N : Nat) {b l : Int} {L : List Int} (T : Tab b l L) {k bf af : Int} (hs : SmOk k bf af) (hk : k ≠ 0) {tai : Int} (t0 : -4611686018427387904 < tai) (t1 : tai < 4611686018427387904) (o : Int) : ∀ (n M i : Nat), i + n = L.length → n < M →
    iter (b_31_0 N) M (tai, (), (), o, (L.length : Int), (i : Int), (k, bf, af), (b, l, L)) = some (match winF bf af b L tai i n with | some j => .inl (atI k bf af b L tai j, none) | none => .inr o) := by
  obtain ⟨f0, f1, a0, a1, l0, l1, _⟩ := smOk_lim hs
  have hlen := T.len
  have b0 := T.b0
  have b1 := T.b1
  intro n
  induction n with
  | zero =>
    intro M i hi hM
    obtain ⟨M, rfl⟩ : ∃ m, M = m + 1 := ⟨M - 1, by omega⟩
    show b_31_0 N (iter (b_31_0 N) M) _ = _
    unfold b_31_0
    simp only
    rw [decide_eq_false (show ¬ (i : Int) < (L.length : Int) by omega)]; rfl
  | succ n ih =>
    intro M i hi hM
    obtain ⟨M, rfl⟩ : ∃ m, M = m + 1 := ⟨M - 1, by omega⟩
    have ih' := ih M (i + 1) (by omega) (by omega)
    have hl := endW_lim T (show i < L.length by omega)
    have eF : IntKind.i64.wrap ((endW b L i - 1 - bf) * 1000000000) = fromN bf b L i := wi64 (by omega) (by omega)
    have eU : IntKind.i64.wrap ((endW b L i + af) * 1000000000) = untilN af b L i := wi64 (by omega) (by omega)
    have hF : fromN bf b L i = (endW b L i - 1 - bf) * 1000000000 := rfl
    have hU : untilN af b L i = (endW b L i + af) * 1000000000 := rfl
    show b_31_0 N (iter (b_31_0 N) M) _ = _
    generalize iter (b_31_0 N) M = I at ih' ⊢
    unfold b_31_0
    simp only
    rw [decide_eq_true (show (i : Int) < (L.length : Int) by omega), swind_at N T k f0 f1 a0 a1 (by omega), wi64 (n := (i : Int) + 1) (by omega) (by omega), show (i : Int) + 1 = ((i + 1 : Nat) : Int) by omega]
    simp only [cond_true, Option.bind_some]
    rw [eF, eU, ih', winF_succ]
    by_cases h1 : tai < fromN bf b L i
    · rw [decide_eq_true h1, cond_true, if_neg (by omega)]
    rw [decide_eq_false h1, cond_false]
    by_cases h2 : tai ≥ untilN af b L i
    · rw [decide_eq_true h2, cond_true, if_neg (by omega)]
    have hin : fromN bf b L i ≤ tai ∧ tai < untilN af b L i := by omega
    have hok := lagOk_in hs hk hin
    have hlg := lagV_lim (k := k) (g := tai - fromN bf b L i) l0 l1 hok.2.2.1 hok.2.2.2
    rw [decide_eq_false h2, cond_false, if_pos hin, wi64 (n := tai - fromN bf b L i) (by omega) (by omega), slag_at, if_pos hok]
    simp only [Option.bind_some, Option.isNone_none, Bool.not_true, cond_false]
    rw [wi64 (n := b + (i : Int)) (by omega) (by omega), wi64 (n := (b + (i : Int)) * 1000000000) (by omega) (by omega), wi64 (n := tai - (b + (i : Int)) * 1000000000) (by omega) (by omega), wi64 (by omega) (by omega)]
    rfl
def atV (k bf af b : Int) (L : List Int) (tai : Int) : Int := if k = 0 then outV b L tai else match winF bf af b L tai 0 L.length with | some j => atI k bf af b L tai j | none => outV b L tai
theorem sat_at {N : Nat} (hN : 100 ≤ N) {b l : Int} {L : List Int} (hL : L.length ≤ 40) (k bf af : Int) {tai : Int} (t0 : -9223372036854775808 ≤ tai) (t1 : tai < 9223372036854775808) :
    f_31 N k bf af b l L tai = some (if fitsE k bf af b l L = 0 then (if utcE b l L tai = 0 then (atV k bf af b L tai, none) else (0, some (utcE b l L tai))) else (0, some (fitsE k bf af b l L))) := by
  unfold f_31
  rw [sfits_at hN hL]
  by_cases hE : fitsE k bf af b l L = 0
  rotate_left
  · rw [if_neg hE, if_neg hE]; rfl
  obtain ⟨hs, ht⟩ := fitsE_zero hE
  rw [if_pos hE, if_pos hE]
  simp only [Option.bind_some, Option.isNone_none, Bool.not_true, cond_false]
  rw [plain_at (by omega) ht t0 t1]
  by_cases hU : utcE b l L tai = 0
  rotate_left
  · rw [if_neg hU, if_neg hU]; rfl
  rw [if_pos hU, if_pos hU]
  simp only [Option.bind_some, Option.isNone_none, Bool.not_true, cond_false]
  unfold atV
  by_cases hk : k = 0
  · rw [if_pos hk, hk]; rfl
  obtain ⟨⟨u0, u1⟩, _⟩ := utcE_zero hU
  have hlp := sat_loop N (tab_of ht) hs hk u0 u1 (outV b L tai) L.length N 0 (by omega) (by omega)
  have hlp' : l_31_0 N (tai, (), (), outV b L tai, (L.length : Int), 0, (k, bf, af), (b, l, L)) = some (match winF bf af b L tai 0 L.length with | some j => .inl (atI k bf af b L tai j, none) | none => .inr (outV b L tai)) := hlp
  rw [beq_false_of_ne hk, cond_false, hlp', if_neg hk]
  cases winF bf af b L tai 0 L.length <;> rfl
theorem rsat_loop (N : Nat) (hN : 33 ≤ N) {b l : Int} {L : List Int} (T : Tab b l L) {k bf af : Int} (hs : SmOk k bf af) (hk : k ≠ 0) {tai : Int} (t0 : -4611686018427387904 < tai) (t1 : tai < 4611686018427387904) (o : Int × Int × Int) : ∀ (n M i : Nat), i + n = L.length → n < M →
    iter (b_32_0 N) M (tai, (), (), (), (i : Int), (k, bf, af), (b, l, L), o) = some (match winF bf af b L tai i n with | some j => .inl (atI k bf af b L tai j, 0) | none => .inr (tai, (), (), (b, l, L), o)) := by
  obtain ⟨f0, f1, a0, a1, l0, l1, k0, _⟩ := smOk_lim hs
  have hlen := T.len
  have b0 := T.b0
  have b1 := T.b1
  have d1 := T.l1
  intro n
  induction n with
  | zero =>
    intro M i hi hM
    obtain ⟨M, rfl⟩ : ∃ m, M = m + 1 := ⟨M - 1, by omega⟩
    show b_32_0 N (iter (b_32_0 N) M) _ = _
    unfold b_32_0
    simp only
    rw [decide_eq_false (show ¬ (i : Int) < (L.length : Int) by omega)]; rfl
  | succ n ih =>
    intro M i hi hM
    obtain ⟨M, rfl⟩ : ∃ m, M = m + 1 := ⟨M - 1, by omega⟩
    have ih' := ih M (i + 1) (by omega) (by omega)
    have hl := endW_lim T (show i < L.length by omega)
    have hg0 := T.lo i (by omega)
    have hg1 := T.hi i (by omega)
    have hF : fromN bf b L i = (endW b L i - 1 - bf) * 1000000000 := rfl
    have hU : untilN af b L i = (endW b L i + af) * 1000000000 := rfl
    have eS : secD b L (gI L i) = 86400 * gI L i + b + i := by unfold secD; rw [cnt_here T (show i < L.length by omega)]
    show b_32_0 N (iter (b_32_0 N) M) _ = _
    generalize iter (b_32_0 N) M = I at ih' ⊢
    unfold b_32_0
    simp only
    rw [decide_eq_true (show (i : Int) < (L.length : Int) by omega), decide_eq_true (show k > 0 by omega), rswin_at hN T k f0 f1 a0 a1 (show i < L.length by omega), wi64 (n := (i : Int) + 1) (by omega) (by omega), show (i : Int) + 1 = ((i + 1 : Nat) : Int) by omega]
    simp only [cond_true, Option.bind_some]
    rw [ih', winF_succ, decide_eq_true (show 0 ≤ (i : Int) ∧ (i : Int) < (L.length : Int) by omega)]
    show (bif decide (tai ≥ fromN bf b L i) then (bif decide (tai < untilN af b L i) then Option.bind (f_23 N k bf af (IntKind.i64.wrap (tai - fromN bf b L i))) _ else _) else _) = _
    by_cases h1 : tai ≥ fromN bf b L i
    rotate_left
    · rw [decide_eq_false h1, cond_false, if_neg (by omega)]
    rw [decide_eq_true h1, cond_true]
    by_cases h2 : tai < untilN af b L i
    rotate_left
    · rw [decide_eq_false h2, cond_false, if_neg (by omega)]
    have hin : fromN bf b L i ≤ tai ∧ tai < untilN af b L i := by omega
    have hok := lagOk_in hs hk hin
    have hlg := lagV_lim (k := k) (g := tai - fromN bf b L i) l0 l1 hok.2.2.1 hok.2.2.2
    rw [decide_eq_true h2, cond_true, if_pos hin, wi64 (n := tai - fromN bf b L i) (by omega) (by omega), rslag_at, if_pos hok]
    simp only [Option.bind_some, cond_true, Int.toNat_natCast]
    rw [show List.getD L i 0 = gI L i from rfl]
    rw [lsec_at l (by omega) (by omega) b0 b1 (by omega) (by omega), eS]
    simp only [Option.bind_some]
    rw [wi64 (n := 86400 * gI L i) (by omega) (by omega), show 86400 * gI L i + b + (i : Int) - 86400 * gI L i = b + i by omega, wi64 (n := b + (i : Int)) (by omega) (by omega), wi64 (n := (b + (i : Int)) * 1000000000) (by omega) (by omega), wi64 (n := tai - (b + (i : Int)) * 1000000000) (by omega) (by omega), wi64 (by omega) (by omega)]
    rfl
theorem rsat_at {N : Nat} (hN : 100 ≤ N) {b l : Int} {L : List Int} (hL : L.length ≤ 40) (k bf af : Int) {tai : Int} (t0 : -9223372036854775808 ≤ tai) (t1 : tai < 9223372036854775808) :
    f_32 N k bf af b l L tai = some (if fitsE k bf af b l L = 0 then (if utcE b l L tai = 0 then (atV k bf af b L tai, 0) else (0, utcE b l L tai)) else (0, fitsE k bf af b l L)) := by
  unfold f_32
  rw [rsfits_at hN hL]
  by_cases hE : fitsE k bf af b l L = 0
  rotate_left
  · rw [if_neg hE, Option.bind_some, bne_iff_ne.2 hE]; rfl
  obtain ⟨hs, ht⟩ := fitsE_zero hE
  have T := tab_of ht
  rw [if_pos hE, hE]
  simp only [Option.bind_some, bne_self_eq_false, cond_false]
  rw [rutc_at (by omega) ht t0 t1]
  by_cases hU : utcE b l L tai = 0
  rotate_left
  · rw [if_neg hU, if_neg hU, Option.bind_some, bne_iff_ne.2 hU]; rfl
  rw [if_pos hU, if_pos hU]
  simp only [Option.bind_some, bne_self_eq_false, cond_false]
  obtain ⟨⟨u0, u1⟩, _⟩ := utcE_zero hU
  obtain ⟨d0, d1⟩ := day_lim T hU
  have hlen := T.len
  have b0 := T.b0
  have b1 := T.b1
  have l1 := T.l1
  generalize ho : (dayS b L (tai / 1000000000), tai / 1000000000 - secD b L (dayS b L (tai / 1000000000)), tai % 1000000000) = o
  have hlp : l_32_0 N (tai, (), (), (), 0, (k, bf, af), (b, l, L), o) = some (match (if k = 0 then none else winF bf af b L tai 0 L.length) with | some j => .inl (atI k bf af b L tai j, 0) | none => .inr (tai, (), (), (b, l, L), o)) := by
    by_cases hk : k = 0
    · subst hk
      obtain ⟨M, rfl⟩ : ∃ m, N = m + 1 := ⟨N - 1, by omega⟩
      show b_32_0 (M + 1) (iter (b_32_0 (M + 1)) M) (tai, (), (), (), 0, (0, bf, af), (b, l, L), o) = _
      unfold b_32_0
      simp only
      cases decide ((0 : Int) < (L.length : Int)) <;> rfl
    · rw [if_neg hk]
      exact rsat_loop N (by omega) T hs hk u0 u1 o L.length N 0 (by omega) (by omega)
  have c1 := cntD_le (dayS b L (tai / 1000000000)) L
  have eo : o.1 = dayS b L (tai / 1000000000) := by rw [← ho]
  have eS : secD b L (dayS b L (tai / 1000000000)) = 86400 * dayS b L (tai / 1000000000) + b + cntD (dayS b L (tai / 1000000000)) L := rfl
  rw [hlp]
  unfold atV
  by_cases hk : k = 0
  · rw [if_pos hk, if_pos hk]
    simp only [Option.bind_some]
    rw [eo, lsec_at l (by omega) (by omega) b0 b1 (by omega) (by omega), eS]
    simp only [Option.bind_some]
    unfold outV
    generalize dayS b L (tai / 1000000000) = d at *
    rw [wi64 (n := 86400 * d) (by omega) (by omega), show 86400 * d + b + (cntD d L : Int) - 86400 * d = b + cntD d L by omega, wi64 (n := b + (cntD d L : Int)) (by omega) (by omega), wi64 (n := (b + (cntD d L : Int)) * 1000000000) (by omega) (by omega), wi64 (n := tai - _) (by omega) (by omega)]
  · rw [if_neg hk, if_neg hk]
    cases winF bf af b L tai 0 L.length with
    | some j => rfl
    | none =>
      simp only [Option.bind_some]
      rw [eo, lsec_at l (by omega) (by omega) b0 b1 (by omega) (by omega), eS]
      simp only [Option.bind_some]
      unfold outV
      generalize dayS b L (tai / 1000000000) = d at *
      rw [wi64 (n := 86400 * d) (by omega) (by omega), show 86400 * d + b + (cntD d L : Int) - 86400 * d = b + cntD d L by omega, wi64 (n := b + (cntD d L : Int)) (by omega) (by omega), wi64 (n := (b + (cntD d L : Int)) * 1000000000) (by omega) (by omega), wi64 (n := tai - _) (by omega) (by omega)]
theorem stells_holds (k bf af b l : Int) (L : List Int) {tai : Int} (t0 : -9223372036854775808 ≤ tai) (t1 : tai < 9223372036854775808) : f_6 3000 k bf af b l L tai = some true := by
  unfold f_6
  rw [ssure_at]
  by_cases hL : (L.length : Int) > 40
  · rw [decide_eq_true hL]; rfl
  rw [decide_eq_false hL, cond_false, sat_at (by decide) (by omega) k bf af t0 t1, rsat_at (by decide) (by omega) k bf af t0 t1]
  simp only [Option.bind_some]
  by_cases hE : fitsE k bf af b l L = 0
  · rw [if_pos hE, if_pos hE]
    by_cases hU : utcE b l L tai = 0
    · rw [if_pos hU, if_pos hU]
      simp only [beq_self_eq_true, cond_true, snum_none, Option.bind_some]
    · rw [if_neg hU, if_neg hU]
      simp only [beq_self_eq_true, cond_true, snum_some, Option.bind_some]
  · rw [if_neg hE, if_neg hE]
    simp only [beq_self_eq_true, cond_true, snum_some, Option.bind_some]
end Go.Proofs.YtmdnnlfoljdfpaaDoor.Mir
