/- Tables of leap seconds (chapter 9): what each function answers, in plain data. -/
import Derived.Test.YtmdnnlfoljdfpaaDoorPlainA
import Derived.Test.YtmdnnlfoljdfpaaDoorSmearF
namespace Go.Proofs.YtmdnnlfoljdfpaaDoor.Mir
open Go Go.RowKit
set_option maxRecDepth 100000

def gI (L : List Int) (i : Nat) : Int := L.getD i 0
def okD (l : Int) (L : List Int) (i : Nat) : Bool := !decide (gI L i < -50000) && (!decide (gI L i ≥ l) && !(decide ((i : Int) > 0) && decide (gI L (i - 1) ≥ gI L i)))
def allD (l : Int) (L : List Int) : Nat → Nat → Bool
  | _, 0 => true
  | i, k + 1 => okD l L i && allD l L (i + 1) k
def tabB (b l : Int) (L : List Int) : Bool := (decide (b ≥ 0) && (decide (b ≤ 100) && (decide (l ≥ -50000) && (decide (l ≤ 50000) && decide ((L.length : Int) ≤ 32))))) && allD l L 0 L.length
theorem lcheck_loop (N : Nat) {b l : Int} {L : List Int} (hL : L.length ≤ 1000000) : ∀ (k M i : Nat), i + k = L.length → k < M → iter (b_55_0 N) M ((), L, (L.length : Int), (i : Int), (b, l, L)) = bif allD l L i k then some (.inr ()) else some (.inl (some 1)) := by
  intro k
  induction k with
  | zero =>
    intro M i hi hM
    obtain ⟨M, rfl⟩ : ∃ m, M = m + 1 := ⟨M - 1, by omega⟩
    show b_55_0 N (iter (b_55_0 N) M) _ = _
    unfold b_55_0
    simp only
    rw [decide_eq_false (show ¬ (i : Int) < (L.length : Int) by omega)]; rfl
  | succ k ih =>
    intro M i hi hM
    obtain ⟨M, rfl⟩ : ∃ m, M = m + 1 := ⟨M - 1, by omega⟩
    have ih' := ih M (i + 1) (by omega) (by omega)
    show b_55_0 N (iter (b_55_0 N) M) _ = _
    generalize iter (b_55_0 N) M = I at ih' ⊢
    unfold b_55_0
    simp only
    rw [decide_eq_true (show (i : Int) < (L.length : Int) by omega), decide_eq_true (show 0 ≤ (i : Int) ∧ (i : Int) < (L.length : Int) by omega), wi64 (n := (i : Int) + 1) (by omega) (by omega), show (i : Int) + 1 = ((i + 1 : Nat) : Int) by omega, ih']
    simp only [cond_true, Int.toNat_natCast]
    show _ = bif (okD l L i && allD l L (i + 1) k) then _ else _
    unfold okD
    show (bif decide (gI L i < -50000) then _ else (bif decide (gI L i ≥ l) then _ else _)) = _
    generalize decide (gI L i < -50000) = t3
    generalize decide (gI L i ≥ l) = t4
    by_cases h0 : (i : Int) > 0
    · rw [decide_eq_true h0, wi64 (n := (i : Int) - 1) (by omega) (by omega), decide_eq_true (show 0 ≤ (i : Int) - 1 ∧ (i : Int) - 1 < (L.length : Int) by omega), show ((i : Int) - 1).toNat = i - 1 by omega]
      show (bif t3 then _ else (bif t4 then _ else (bif decide (gI L (i - 1) ≥ gI L i) then _ else _))) = _
      generalize decide (gI L (i - 1) ≥ gI L i) = t5
      cases t3 <;> cases t4 <;> cases t5 <;> rfl
    · rw [decide_eq_false h0]
      cases t3 <;> cases t4 <;> rfl
theorem not_le_dec (x y : Int) : decide (x < y) = !decide (x ≥ y) := by
  by_cases h : x < y
  · rw [decide_eq_true h, decide_eq_false (by omega)]; rfl
  · rw [decide_eq_false h, decide_eq_true (by omega)]; rfl
theorem not_ge_dec (x y : Int) : decide (x > y) = !decide (x ≤ y) := by
  by_cases h : x > y
  · rw [decide_eq_true h, decide_eq_false (by omega)]; rfl
  · rw [decide_eq_false h, decide_eq_true (by omega)]; rfl
theorem lcheck_at {N : Nat} {b l : Int} {L : List Int} (hL : L.length ≤ 1000000) (hN : L.length < N) : f_55 N b l L = some (bif tabB b l L then none else some 1) := by
  have h := lcheck_loop N (b := b) (l := l) hL L.length N 0 (by omega) hN
  have h' : l_55_0 N ((), L, (L.length : Int), 0, (b, l, L)) = bif allD l L 0 L.length then some (.inr ()) else some (.inl (some 1)) := h
  unfold f_55 tabB
  rw [h', not_le_dec b 0, not_ge_dec b 100, not_le_dec l (-50000), not_ge_dec l 50000, not_ge_dec (L.length : Int) 32]
  cases decide (b ≥ 0) <;> cases decide (b ≤ 100) <;> cases decide (l ≥ -50000) <;> cases decide (l ≤ 50000) <;> cases decide ((L.length : Int) ≤ 32) <;> cases allD l L 0 L.length <;> rfl
theorem lmay_loop (N : Nat) {b l : Int} {L : List Int} (hL : L.length ≤ 1000000) : ∀ (k M i : Nat), i + k = L.length → k < M → iter (b_53_0 N) M ((), (i : Int), (b, l, L)) = bif allD l L i k then some (.inr ((), (b, l, L))) else some (.inl false) := by
  intro k
  induction k with
  | zero =>
    intro M i hi hM
    obtain ⟨M, rfl⟩ : ∃ m, M = m + 1 := ⟨M - 1, by omega⟩
    show b_53_0 N (iter (b_53_0 N) M) _ = _
    unfold b_53_0
    simp only
    rw [decide_eq_false (show ¬ (i : Int) < (L.length : Int) by omega)]; rfl
  | succ k ih =>
    intro M i hi hM
    obtain ⟨M, rfl⟩ : ∃ m, M = m + 1 := ⟨M - 1, by omega⟩
    have ih' := ih M (i + 1) (by omega) (by omega)
    show b_53_0 N (iter (b_53_0 N) M) _ = _
    generalize iter (b_53_0 N) M = I at ih' ⊢
    unfold b_53_0
    simp only
    rw [decide_eq_true (show (i : Int) < (L.length : Int) by omega), decide_eq_true (show 0 ≤ (i : Int) ∧ (i : Int) < (L.length : Int) by omega), wi64 (n := (i : Int) + 1) (by omega) (by omega), show (i : Int) + 1 = ((i + 1 : Nat) : Int) by omega, ih']
    simp only [cond_true, Int.toNat_natCast]
    show _ = bif (okD l L i && allD l L (i + 1) k) then _ else _
    unfold okD
    show (bif decide (gI L i < -50000) then _ else (bif decide (gI L i ≥ l) then _ else _)) = _
    generalize decide (gI L i < -50000) = t3
    generalize decide (gI L i ≥ l) = t4
    by_cases h0 : (i : Int) > 0
    · rw [decide_eq_true h0, wi64 (n := (i : Int) - 1) (by omega) (by omega), decide_eq_true (show 0 ≤ (i : Int) - 1 ∧ (i : Int) - 1 < (L.length : Int) by omega), show ((i : Int) - 1).toNat = i - 1 by omega]
      show (bif t3 then _ else (bif t4 then _ else (bif decide (gI L i ≤ gI L (i - 1)) then _ else _))) = _
      rw [show decide (gI L (i - 1) ≥ gI L i) = decide (gI L i ≤ gI L (i - 1)) from rfl]
      generalize decide (gI L i ≤ gI L (i - 1)) = t5
      cases t3 <;> cases t4 <;> cases t5 <;> rfl
    · rw [decide_eq_false h0]
      cases t3 <;> cases t4 <;> rfl
theorem lmay_at {N : Nat} {b l : Int} {L : List Int} (hL : L.length ≤ 1000000) (hN : L.length < N) : f_53 N b l L = some (tabB b l L) := by
  have h := lmay_loop N (b := b) (l := l) hL L.length N 0 (by omega) hN
  have h' : l_53_0 N ((), 0, (b, l, L)) = bif allD l L 0 L.length then some (.inr ((), (b, l, L))) else some (.inl false) := h
  unfold f_53 tabB
  rw [h']
  cases allD l L 0 L.length with
  | false =>
    show some false = _
    simp
  | true =>
    show (bif decide (b ≥ 0) then (bif decide (b ≤ 100) then (bif decide (l ≥ -50000) then (bif decide (l ≤ 50000) then some (decide ((L.length : Int) ≤ 32)) else some false) else some false) else some false) else some false) = _
    cases decide (b ≥ 0) <;> cases decide (b ≤ 100) <;> cases decide (l ≥ -50000) <;> cases decide (l ≤ 50000) <;> cases decide ((L.length : Int) ≤ 32) <;> rfl
/-! ### what a table that may be is -/
structure Tab (b l : Int) (L : List Int) : Prop where
  b0 : 0 ≤ b
  b1 : b ≤ 100
  l0 : -50000 ≤ l
  l1 : l ≤ 50000
  len : L.length ≤ 32
  lo : ∀ i, i < L.length → -50000 ≤ gI L i
  hi : ∀ i, i < L.length → gI L i < l
  srt : ∀ i j, i < j → j < L.length → gI L i < gI L j
theorem allD_at {l : Int} {L : List Int} : ∀ {k i : Nat}, allD l L i k = true → ∀ j, i ≤ j → j < i + k → okD l L j = true
  | 0, _, _, j, h1, h2 => by omega
  | k + 1, i, h, j, h1, h2 => by
    simp only [allD, Bool.and_eq_true] at h
    by_cases hj : j = i
    · subst hj; exact h.1
    · exact allD_at h.2 j (by omega) (by omega)
theorem okD_step {l : Int} {L : List Int} {i : Nat} (h : okD l L (i + 1) = true) : gI L i < gI L (i + 1) := by
  unfold okD at h
  simp only [Bool.and_eq_true] at h
  have h5 := h.2.2
  rw [decide_eq_true (show ((i + 1 : Nat) : Int) > 0 by omega), Nat.add_sub_cancel] at h5
  simp only [Bool.true_and, Bool.not_eq_true', decide_eq_false_iff_not] at h5
  omega
theorem tab_of {b l : Int} {L : List Int} (h : tabB b l L = true) : Tab b l L := by
  unfold tabB at h
  simp only [Bool.and_eq_true, decide_eq_true_eq] at h
  obtain ⟨⟨h1, h2, h3, h4, h5⟩, h6⟩ := h
  have ok : ∀ i, i < L.length → okD l L i = true := fun i hi => allD_at h6 i (by omega) (by omega)
  refine ⟨by omega, by omega, by omega, by omega, by omega, fun i hi => ?_, fun i hi => ?_, fun i j => ?_⟩
  · have := ok i hi
    unfold okD at this
    simp only [Bool.and_eq_true, Bool.not_eq_true', decide_eq_false_iff_not] at this
    omega
  · have := ok i hi
    unfold okD at this
    simp only [Bool.and_eq_true, Bool.not_eq_true', decide_eq_false_iff_not] at this
    omega
  · induction j with
    | zero => intro h1; omega
    | succ j ih =>
      intro h1 h2
      have a := okD_step (ok (j + 1) h2)
      by_cases hj : i = j
      · subst hj; exact a
      · exact Int.lt_trans (ih (by omega) (by omega)) a
/-! ### so many seconds ahead -/
def cntD (d : Int) : List Int → Nat
  | [] => 0
  | x :: r => (if x < d then 1 else 0) + cntD d r
theorem cntD_le (d : Int) : ∀ L, cntD d L ≤ L.length
  | [] => Nat.le_refl _
  | x :: r => by
    have := cntD_le d r
    simp only [cntD, List.length_cons]
    split <;> omega
def secD (b : Int) (L : List Int) (d : Int) : Int := 86400 * d + b + cntD d L
theorem lsec_loop (N : Nat) {b l d : Int} {L : List Int} (hL : L.length ≤ 1000000) : ∀ (k M i : Nat) (a : Int), i + k = L.length → k < M → -1000000000000 ≤ a → a + k ≤ 1000000000000 → iter (b_56_0 N) M (d, (), a, (i : Int), (b, l, L)) = some (a + cntD d (L.drop i)) := by
  intro k
  induction k with
  | zero =>
    intro M i a hi hM h0 h1
    obtain ⟨M, rfl⟩ : ∃ m, M = m + 1 := ⟨M - 1, by omega⟩
    show b_56_0 N (iter (b_56_0 N) M) _ = _
    unfold b_56_0
    simp only
    rw [decide_eq_false (show ¬ (i : Int) < (L.length : Int) by omega), List.drop_eq_nil_of_le (by omega)]
    simp [cntD]
  | succ k ih =>
    intro M i a hi hM h0 h1
    obtain ⟨M, rfl⟩ : ∃ m, M = m + 1 := ⟨M - 1, by omega⟩
    have ih0 := ih M (i + 1) a (by omega) (by omega) h0 (by omega)
    have ih1 := ih M (i + 1) (a + 1) (by omega) (by omega) (by omega) (by omega)
    have hi' : i < L.length := by omega
    have e : gI L i = L[i] := by unfold gI; rw [List.getD_eq_getElem?_getD, List.getElem?_eq_getElem hi']; rfl
    show b_56_0 N (iter (b_56_0 N) M) _ = _
    generalize iter (b_56_0 N) M = I at ih0 ih1 ⊢
    unfold b_56_0
    simp only
    rw [decide_eq_true (show (i : Int) < (L.length : Int) by omega), decide_eq_true (show 0 ≤ (i : Int) ∧ (i : Int) < (L.length : Int) by omega), wi64 (n := (i : Int) + 1) (by omega) (by omega), wi64 (n := a + 1) (by omega) (by omega), show (i : Int) + 1 = ((i + 1 : Nat) : Int) by omega, ih0, ih1, List.drop_eq_getElem_cons hi']
    simp only [cond_true, Int.toNat_natCast, cntD]
    show (bif decide (gI L i < d) then _ else _) = _
    rw [e]
    by_cases h : L[i] < d
    · rw [decide_eq_true h, if_pos h, cond_true]; congr 1; omega
    · rw [decide_eq_false h, if_neg h, cond_false]; congr 1; omega
theorem lsec_at {N : Nat} {b d : Int} {L : List Int} (l : Int) (hL : L.length ≤ 1000000) (hN : L.length < N) (b0 : 0 ≤ b) (b1 : b ≤ 100) (d0 : -1000000 ≤ d) (d1 : d ≤ 1000000) : f_56 N b l L d = some (secD b L d) := by
  have h := lsec_loop N (b := b) (l := l) (d := d) hL L.length N 0 (86400 * d + b) (by omega) hN (by omega) (by omega)
  have h' : l_56_0 N (d, (), 86400 * d + b, 0, (b, l, L)) = some (86400 * d + b + cntD d L) := h
  unfold f_56
  rw [wi64 (n := 86400 * d) (by omega) (by omega), wi64 (by omega) (by omega), h']; rfl
theorem cnt_uniq (d : Int) : ∀ (L : List Int) (m : Nat), m ≤ L.length → (∀ i, i < m → gI L i < d) → (∀ i, m ≤ i → i < L.length → d ≤ gI L i) → cntD d L = m
  | [], m, h, _, _ => by simp at h; simp [cntD, h]
  | x :: r, 0, h, _, h2 => by
    have hx := h2 0 (Nat.le_refl _) (by simp)
    have ih := cnt_uniq d r 0 (Nat.zero_le _) (fun i hi => by omega) (fun i _ hi => h2 (i + 1) (Nat.zero_le _) (by simp; omega))
    have hx' : d ≤ x := hx
    simp only [cntD]
    rw [if_neg (by omega), ih]
  | x :: r, m + 1, h, h1, h2 => by
    have hx := h1 0 (by omega)
    have ih := cnt_uniq d r m (by simp at h; omega) (fun i hi => h1 (i + 1) (by omega)) (fun i h3 hi => h2 (i + 1) (by omega) (by simp; omega))
    have hx' : x < d := hx
    simp only [cntD]
    rw [if_pos hx', ih]; omega
theorem cnt_mono {d e : Int} (h : d ≤ e) : ∀ L, cntD d L ≤ cntD e L
  | [] => Nat.le_refl _
  | x :: r => by
    have := cnt_mono h r
    simp only [cntD]
    split <;> split <;> omega
theorem secD_step (b : Int) (L : List Int) (d : Int) : secD b L d + 86400 ≤ secD b L (d + 1) := by
  have := cnt_mono (show d ≤ d + 1 by omega) L
  unfold secD; omega
theorem secD_mono (b : Int) (L : List Int) {d e : Int} (h : d ≤ e) : secD b L d ≤ secD b L e := by
  have := cnt_mono h L
  unfold secD; omega
theorem secD_lt {b : Int} {L : List Int} {d e : Int} (h : secD b L d < secD b L e) : d < e := by
  rcases Int.lt_or_le d e with h1 | h1
  · exact h1
  · have := secD_mono b L h1; omega
/-! ### the search -/
theorem less_at (N : Nat) (a b : Int) : f_126 N a b = some (decide (a < b)) := by
  unfold f_126 f_108
  simp only [bne_self_eq_false, Option.bind_some, cond_false]
theorem mid_eq {i j : Nat} (h : i + j < 4000000) : IntKind.i64.wrap ((IntKind.u64.wrap (IntKind.i64.wrap ((i : Int) + (j : Int)))) / 2 ^ (min (Int.toNat 1) IntKind.u64.bits)) = (((i + j) / 2 : Nat) : Int) := by
  have e : (2 : Int) ^ (min (Int.toNat 1) IntKind.u64.bits) = 2 := by decide
  rw [e, wi64 (n := (i : Int) + (j : Int)) (by omega) (by omega), wu64 (by omega) (by omega), wi64 (by omega) (by omega)]
  omega
theorem bsi_loop (N : Nat) {L : List Int} {t : Int} (hL : L.length ≤ 1000000) (hs : ∀ i j, i < j → j < L.length → gI L i < gI L j) : ∀ (k M i j : Nat), i + k = j → j ≤ L.length → k < M → (∀ q, q < i → gI L q < t) → (∀ q, j ≤ q → q < L.length → t ≤ gI L q) →
    iter (b_96_0 N) M (L, t, (L.length : Int), (i : Int), (j : Int)) = some (L, t, (L.length : Int), (cntD t L : Int)) := by
  intro k
  induction k using Nat.strongRecOn with
  | ind k ih =>
    intro M i j hk hj hM hlo hhi
    obtain ⟨M, rfl⟩ : ∃ m, M = m + 1 := ⟨M - 1, by omega⟩
    by_cases hij : i < j
    rotate_left
    · obtain rfl : i = j := by omega
      rw [cnt_uniq t L i hj hlo hhi]
      show b_96_0 N (iter (b_96_0 N) M) _ = _
      unfold b_96_0
      simp only
      rw [decide_eq_false (show ¬ (i : Int) < (i : Int) by omega)]; rfl
    · have hm1 : i ≤ (i + j) / 2 := by omega
      have hm2 : (i + j) / 2 < j := by omega
      have e0 : ∀ I, b_96_0 N I (L, t, (L.length : Int), (i : Int), (j : Int)) = bif decide (gI L ((i + j) / 2) < t) then I (L, t, (L.length : Int), (((i + j) / 2 + 1 : Nat) : Int), (j : Int)) else I (L, t, (L.length : Int), (i : Int), (((i + j) / 2 : Nat) : Int)) := fun I => by
        unfold b_96_0
        simp only
        rw [mid_eq (by omega), decide_eq_true (show (i : Int) < (j : Int) by omega), decide_eq_true (show 0 ≤ (((i + j) / 2 : Nat) : Int) ∧ (((i + j) / 2 : Nat) : Int) < (L.length : Int) by omega), less_at, wi64 (n := (((i + j) / 2 : Nat) : Int) + 1) (by omega) (by omega), Int.toNat_natCast]
        rfl
      show b_96_0 N (iter (b_96_0 N) M) (L, t, (L.length : Int), (i : Int), (j : Int)) = _
      rw [e0]
      by_cases h : gI L ((i + j) / 2) < t
      · rw [decide_eq_true h]
        exact ih (j - ((i + j) / 2 + 1)) (by omega) M ((i + j) / 2 + 1) j (by omega) hj (by omega) (fun q hq => by
          by_cases hq2 : q = (i + j) / 2
          · subst hq2; exact h
          · exact Int.lt_trans (hs q ((i + j) / 2) (by omega) (by omega)) h) hhi
      · rw [decide_eq_false h]
        exact ih ((i + j) / 2 - i) (by omega) M i ((i + j) / 2) (by omega) (by omega) (by omega) hlo (fun q h1 h2 => by
          by_cases hq2 : q = (i + j) / 2
          · subst hq2; omega
          · have := hs ((i + j) / 2) q (by omega) h2
            omega)
theorem bsi_at {N : Nat} {L : List Int} (t : Int) (hL : L.length ≤ 1000000) (hN : L.length < N) (hs : ∀ i j, i < j → j < L.length → gI L i < gI L j) : ∃ f, f_96 N L t = some ((cntD t L : Int), f) := by
  have h := bsi_loop N (t := t) hL hs L.length N 0 L.length (by omega) (Nat.le_refl _) hN (fun q hq => by omega) (fun q h1 h2 => by omega)
  have h' : l_96_0 N (L, t, (L.length : Int), 0, (L.length : Int)) = some (L, t, (L.length : Int), (cntD t L : Int)) := h
  unfold f_96
  rw [h']
  simp only [Option.bind_some]
  by_cases hm : (cntD t L : Int) < (L.length : Int)
  · rw [decide_eq_true hm, decide_eq_true (show 0 ≤ (cntD t L : Int) ∧ (cntD t L : Int) < (L.length : Int) by omega)]
    simp only [cond_true]
    cases (L.getD (Int.toNat (cntD t L : Int)) 0 == t) with
    | true => exact ⟨true, rfl⟩
    | false =>
      unfold f_127
      simp only [bne_self_eq_false, Option.bind_some, cond_false]
      exact ⟨false, rfl⟩
  · rw [decide_eq_false hm]; exact ⟨false, rfl⟩
theorem ahd_at {N : Nat} {b l : Int} {L : List Int} (T : Tab b l L) (hN : 33 ≤ N) (d : Int) : f_62 N b l L d = some (b + cntD d L) := by
  have h1 := T.len
  have h2 := T.b0
  have h3 := T.b1
  obtain ⟨f, hf⟩ := bsi_at (N := N) d (by omega) (by omega) T.srt
  have h4 := cntD_le d L
  unfold f_62
  rw [hf]
  simp only [Option.bind_some]
  rw [wi64 (by omega) (by omega)]
theorem begin_at {N : Nat} {b l : Int} {L : List Int} (T : Tab b l L) (hN : 33 ≤ N) {d : Int} (d0 : -1000000 ≤ d) (d1 : d ≤ 1000000) : f_60 N b l L d = some (secD b L d) := by
  have h1 := T.len
  have h2 := T.b0
  have h3 := T.b1
  have h4 := cntD_le d L
  unfold f_60
  rw [ahd_at T hN]
  simp only [Option.bind_some]
  have e : d * 86400 + (b + (cntD d L : Int)) = secD b L d := by unfold secD; omega
  rw [wi64 (n := d * 86400) (by omega) (by omega), wi64 (by omega) (by omega), e]
/-! ### parting -/
theorem div9_at (N : Nat) {a : Int} (h : -9223372036854775808 ≤ a) (h2 : a < 9223372036854775808) : f_59 N a 1000000000 = some (a / 1000000000, a % 1000000000, none) := by
  unfold f_59
  rcases Int.lt_or_le a 0 with h0 | h0
  · obtain ⟨n, rfl⟩ : ∃ n, a = -n := ⟨-a, by omega⟩
    rw [Int.neg_tdiv, Int.neg_tmod, Int.tdiv_eq_ediv_of_nonneg (by omega), Int.tmod_eq_emod_of_nonneg (by omega)]
    by_cases h3 : n % 1000000000 = 0
    · rw [decide_eq_false (show ¬ -(n % 1000000000) < 0 by omega), wi64 (n := -(n / 1000000000)) (by omega) (by omega)]
      show some (_, _, none) = _
      rw [show -(n / 1000000000) = -n / 1000000000 by omega, show -(n % 1000000000) = -n % 1000000000 by omega]
    · rw [decide_eq_true (show -(n % 1000000000) < 0 by omega), wi64 (n := -(n / 1000000000)) (by omega) (by omega), wi64 (n := -(n / 1000000000) - 1) (by omega) (by omega), wi64 (n := -(n % 1000000000) + 1000000000) (by omega) (by omega)]
      show some (_, _, none) = _
      rw [show -(n / 1000000000) - 1 = -n / 1000000000 by omega, show -(n % 1000000000) + 1000000000 = -n % 1000000000 by omega]
  · rw [Int.tdiv_eq_ediv_of_nonneg h0, Int.tmod_eq_emod_of_nonneg h0, decide_eq_false (show ¬ a % 1000000000 < 0 by omega), wi64 (n := a / 1000000000) (by omega) (by omega)]
    rfl
theorem div864_at (N : Nat) {a : Int} (h : -9223372036854775808 ≤ a) (h2 : a < 9223372036854775808) : f_59 N a 86400 = some (a / 86400, a % 86400, none) := by
  unfold f_59
  rcases Int.lt_or_le a 0 with h0 | h0
  · obtain ⟨n, rfl⟩ : ∃ n, a = -n := ⟨-a, by omega⟩
    rw [Int.neg_tdiv, Int.neg_tmod, Int.tdiv_eq_ediv_of_nonneg (by omega), Int.tmod_eq_emod_of_nonneg (by omega)]
    by_cases h3 : n % 86400 = 0
    · rw [decide_eq_false (show ¬ -(n % 86400) < 0 by omega), wi64 (n := -(n / 86400)) (by omega) (by omega)]
      show some (_, _, none) = _
      rw [show -(n / 86400) = -n / 86400 by omega, show -(n % 86400) = -n % 86400 by omega]
    · rw [decide_eq_true (show -(n % 86400) < 0 by omega), wi64 (n := -(n / 86400)) (by omega) (by omega), wi64 (n := -(n / 86400) - 1) (by omega) (by omega), wi64 (n := -(n % 86400) + 86400) (by omega) (by omega)]
      show some (_, _, none) = _
      rw [show -(n / 86400) - 1 = -n / 86400 by omega, show -(n % 86400) + 86400 = -n % 86400 by omega]
  · rw [Int.tdiv_eq_ediv_of_nonneg h0, Int.tmod_eq_emod_of_nonneg h0, decide_eq_false (show ¬ a % 86400 < 0 by omega), wi64 (n := a / 86400) (by omega) (by omega)]
    rfl
/-! ### the day of a second -/
def dayS (b : Int) (L : List Int) (s : Int) : Int := if secD b L (s / 86400) ≤ s then s / 86400 else s / 86400 - 1
theorem dayS_spec {b l : Int} {L : List Int} (T : Tab b l L) (s : Int) : secD b L (dayS b L s) ≤ s ∧ s < secD b L (dayS b L s + 1) := by
  have h1 := T.len
  have h2 := T.b0
  have h3 := T.b1
  have h5 := cntD_le (s / 86400 - 1) L
  unfold dayS
  by_cases h : secD b L (s / 86400) ≤ s
  · rw [if_pos h]
    refine ⟨h, ?_⟩
    unfold secD; omega
  · rw [if_neg h]
    refine ⟨?_, by rw [Int.sub_add_cancel]; omega⟩
    unfold secD; omega
theorem day_uniq {b : Int} {L : List Int} {s d e : Int} (h1 : secD b L d ≤ s) (h2 : s < secD b L (d + 1)) (h3 : secD b L e ≤ s) (h4 : s < secD b L (e + 1)) : d = e := by
  have a := secD_lt (Int.lt_of_le_of_lt h1 h4)
  have c := secD_lt (Int.lt_of_le_of_lt h3 h2)
  omega
theorem utc_loop (N : Nat) (hN : 33 ≤ N) {b l : Int} {L : List Int} (T : Tab b l L) {s : Int} (nano : Int) (z : Int × Int × Int) {e : Int} (e0 : -900000 ≤ e) (e1 : secD b L e ≤ s) (e2 : s < secD b L (e + 1)) : ∀ (k M : Nat) (d : Int), d = e + k → d ≤ 900000 → k < M →
    iter (b_33_0 N) M ((), (), s, nano, d, (b, l, L), z) = some ((), (), s, nano, e, (b, l, L), z) := by
  intro k
  induction k with
  | zero =>
    intro M d hd h2 hM
    obtain ⟨M, rfl⟩ : ∃ m, M = m + 1 := ⟨M - 1, by omega⟩
    obtain rfl : d = e := by omega
    show b_33_0 N (iter (b_33_0 N) M) _ = _
    unfold b_33_0
    simp only
    rw [begin_at T hN (by omega) (by omega)]
    simp only [Option.bind_some]
    rw [decide_eq_false (show ¬ s < secD b L d by omega)]; rfl
  | succ k ih =>
    intro M d hd h2 hM
    obtain ⟨M, rfl⟩ : ∃ m, M = m + 1 := ⟨M - 1, by omega⟩
    have ih' := ih M (d - 1) (by omega) (by omega) (by omega)
    have hs : s < secD b L d := Int.lt_of_lt_of_le e2 (secD_mono b L (by omega))
    show b_33_0 N (iter (b_33_0 N) M) _ = _
    generalize iter (b_33_0 N) M = I at ih' ⊢
    unfold b_33_0
    simp only
    rw [begin_at T hN (by omega) (by omega)]
    simp only [Option.bind_some]
    rw [decide_eq_true hs, wi64 (n := d - 1) (by omega) (by omega), ih']; rfl
/-- What stands against a moment; 0: nothing. -/
def utcE (b l : Int) (L : List Int) (tai : Int) : Int :=
  if tai ≤ -4611686018427387904 ∨ tai ≥ 4611686018427387904 then 2 else if tai / 1000000000 < secD b L (-50000) then 2 else if tai / 1000000000 ≥ secD b L l then 10 else 0
theorem utc_bad {N : Nat} {b l : Int} {L : List Int} (tai : Int) (hL : L.length ≤ 1000000) (hN : L.length < N) (h : tabB b l L = false) : f_33 N b l L tai = some ((0, 0, 0), some 1) := by
  unfold f_33
  rw [lcheck_at hL hN, h]; rfl
theorem utc_at {N : Nat} (hN : 33 ≤ N) {b l : Int} {L : List Int} (h : tabB b l L = true) {tai : Int} (t0 : -9223372036854775808 ≤ tai) (t1 : tai < 9223372036854775808) :
    f_33 N b l L tai = some (if utcE b l L tai = 0 then ((dayS b L (tai / 1000000000), tai / 1000000000 - secD b L (dayS b L (tai / 1000000000)), tai % 1000000000), none) else ((0, 0, 0), some (utcE b l L tai))) := by
  have T := tab_of h
  have h1 := T.len
  have l0 := T.l0
  have l1 := T.l1
  unfold f_33
  rw [lcheck_at (by omega) (by omega), h, div9_at N t0 t1]
  simp only [cond_true, Option.bind_some, Option.isNone_none, Bool.not_true, cond_false]
  by_cases g1 : tai ≤ -4611686018427387904
  · have hE : utcE b l L tai = 2 := by unfold utcE; rw [if_pos (.inl g1)]
    rw [decide_eq_true g1, hE]; rfl
  rw [decide_eq_false g1, cond_false]
  by_cases g2 : tai ≥ 4611686018427387904
  · have hE : utcE b l L tai = 2 := by unfold utcE; rw [if_pos (.inr g2)]
    rw [decide_eq_true g2, hE]; rfl
  rw [decide_eq_false g2, cond_false, begin_at T hN (by omega) (by omega)]
  simp only [Option.bind_some]
  by_cases g3 : tai / 1000000000 < secD b L (-50000)
  · have hE : utcE b l L tai = 2 := by unfold utcE; rw [if_neg (by omega), if_pos g3]
    rw [decide_eq_true g3, hE]; rfl
  rw [decide_eq_false g3, cond_false, begin_at T hN (by omega) (by omega)]
  simp only [Option.bind_some]
  by_cases g4 : tai / 1000000000 ≥ secD b L l
  · have hE : utcE b l L tai = 10 := by unfold utcE; rw [if_neg (by omega), if_neg g3, if_pos g4]
    rw [decide_eq_true g4, hE]; rfl
  have hE : utcE b l L tai = 0 := by unfold utcE; rw [if_neg (by omega), if_neg g3, if_neg g4]
  rw [hE, decide_eq_false g4, cond_false, div864_at N (by omega) (by omega)]
  simp only [Option.bind_some, Option.isNone_none, Bool.not_true, cond_false]
  obtain ⟨s1, s2⟩ := dayS_spec T (tai / 1000000000)
  have hd : dayS b L (tai / 1000000000) = tai / 1000000000 / 86400 ∨ dayS b L (tai / 1000000000) = tai / 1000000000 / 86400 - 1 := by unfold dayS; split <;> omega
  have hb : -900000 ≤ tai / 1000000000 / 86400 ∧ tai / 1000000000 / 86400 ≤ 800000 := by omega
  have hlp := utc_loop N hN T (tai % 1000000000) (0, 0, 0) (by omega) s1 s2 (tai / 1000000000 / 86400 - dayS b L (tai / 1000000000)).toNat N (tai / 1000000000 / 86400) (by omega) (by omega) (by omega)
  have hlp' : l_33_0 N ((), (), tai / 1000000000, tai % 1000000000, tai / 1000000000 / 86400, (b, l, L), (0, 0, 0)) = some ((), (), tai / 1000000000, tai % 1000000000, dayS b L (tai / 1000000000), (b, l, L), (0, 0, 0)) := hlp
  rw [hlp']
  simp only [Option.bind_some]
  rw [begin_at T hN (by omega) (by omega)]
  simp only [Option.bind_some]
  have hw := secD_step b L (dayS b L (tai / 1000000000))
  have c1 := cntD_le (dayS b L (tai / 1000000000)) L
  have c2 := T.b0
  have c3 := T.b1
  rw [wi64 (n := tai / 1000000000 - _) (by unfold secD; omega) (by unfold secD; omega), if_pos trivial]
def hwZ : Nat → Int
  | 0 => 1
  | n + 1 => 2 * hwZ n
theorem tdiv2 (x : Int) : Int.tdiv x 2 = if 0 ≤ x then x / 2 else -(-x / 2) := by
  by_cases h : 0 ≤ x
  · rw [if_pos h, Int.tdiv_eq_ediv_of_nonneg h]
  · rw [if_neg h]
    have e : x = -(-x) := by omega
    conv => lhs; rw [e, Int.neg_tdiv, Int.tdiv_eq_ediv_of_nonneg (by omega)]
theorem rutc_loop (N : Nat) (hN : 33 ≤ N) {b l : Int} {L : List Int} (T : Tab b l L) (tai : Int) {s : Int} (z : Int × Int × Int) {e : Int} (e1 : secD b L e ≤ s) (e2 : s < secD b L (e + 1)) : ∀ (f M : Nat) (lo hi : Int), hi - lo ≤ hwZ f → lo < hi → -50000 ≤ lo → hi ≤ 50000 → secD b L lo ≤ s → s < secD b L hi → f < M →
    iter (b_58_0 N) M (tai, (), (), s, lo, hi, (b, l, L), z) = some (tai, (), (), s, e, (b, l, L), z) := by
  have hl := T.len
  have b0 := T.b0
  have b1 := T.b1
  have stop : ∀ (M : Nat) (lo hi : Int), ¬ hi - lo > 1 → lo < hi → -50000 ≤ lo → hi ≤ 50000 → secD b L lo ≤ s → s < secD b L hi → iter (b_58_0 N) (M + 1) (tai, (), (), s, lo, hi, (b, l, L), z) = some (tai, (), (), s, e, (b, l, L), z) := by
    intro M lo hi h h1 h2 h3 h4 h5
    obtain rfl : hi = lo + 1 := by omega
    obtain rfl := day_uniq h4 h5 e1 e2
    show b_58_0 N (iter (b_58_0 N) M) _ = _
    unfold b_58_0
    simp only
    rw [wi64 (n := lo + 1 - lo) (by omega) (by omega), decide_eq_false h]; rfl
  intro f
  induction f with
  | zero =>
    intro M lo hi h h1 h2 h3 h4 h5 hM
    obtain ⟨M, rfl⟩ : ∃ m, M = m + 1 := ⟨M - 1, by omega⟩
    have : hwZ 0 = 1 := rfl
    exact stop M lo hi (by omega) h1 h2 h3 h4 h5
  | succ f ih =>
    intro M lo hi h h1 h2 h3 h4 h5 hM
    obtain ⟨M, rfl⟩ : ∃ m, M = m + 1 := ⟨M - 1, by omega⟩
    by_cases hg : hi - lo > 1
    rotate_left
    · exact stop M lo hi hg h1 h2 h3 h4 h5
    have hw : hwZ (f + 1) = 2 * hwZ f := rfl
    have em : Int.tdiv (lo + hi) 2 = if 0 ≤ lo + hi then (lo + hi) / 2 else -(-(lo + hi) / 2) := tdiv2 _
    generalize hm : Int.tdiv (lo + hi) 2 = m at em
    have m1 : lo < m ∧ m < hi ∧ m - lo ≤ hwZ f ∧ hi - m ≤ hwZ f := by
      rw [em]; split <;> omega
    have ihl := ih M m hi (by omega) (by omega) (by omega) h3
    have ihr := ih M lo m (by omega) (by omega) h2 (by omega)
    show b_58_0 N (iter (b_58_0 N) M) _ = _
    generalize iter (b_58_0 N) M = I at ihl ihr ⊢
    unfold b_58_0
    simp only
    rw [wi64 (n := hi - lo) (by omega) (by omega), decide_eq_true hg, wi64 (n := lo + hi) (by omega) (by omega), hm, wi64 (n := m) (by omega) (by omega), lsec_at l (by omega) (by omega) b0 b1 (by omega) (by omega)]
    simp only [cond_true, Option.bind_some]
    by_cases hs : secD b L m ≤ s
    · rw [decide_eq_true hs, cond_true]
      exact ihl hs h5 (by omega)
    · rw [decide_eq_false hs, cond_false]
      exact ihr h4 (by omega) (by omega)
noncomputable def rtail (N : Nat) (b l : Int) (L : List Int) (tai s : Int) : Option ((Int × Int × Int) × Int) :=
  ((f_56 N b l L (-50000)).bind fun r21 => (bif (decide (s < r21)) then (some ((0, 0, 0), 2)) else ((f_56 N b l L l).bind fun r22 => (bif (decide (s ≥ r22)) then (some ((0, 0, 0), 10)) else ((l_58_0 N (tai, (), (), s, (-50000), l, (b, l, L), (0, 0, 0))).bind fun q23 => ((f_56 N q23.2.2.2.2.2.1.1 q23.2.2.2.2.2.1.2.1 q23.2.2.2.2.2.1.2.2 q23.2.2.2.2.1).bind fun r24 => (some ((q23.2.2.2.2.1, (IntKind.i64.wrap (q23.2.2.2.1 - r24)), (IntKind.i64.wrap (q23.1 - (IntKind.i64.wrap (q23.2.2.2.1 * 1000000000))))), 0))))))))
theorem rtail_at {N : Nat} (hN : 33 ≤ N) {b l : Int} {L : List Int} (T : Tab b l L) {tai : Int} (t0 : -4611686018427387904 < tai) (t1 : tai < 4611686018427387904) :
    rtail N b l L tai (tai / 1000000000) = some (if utcE b l L tai = 0 then ((dayS b L (tai / 1000000000), tai / 1000000000 - secD b L (dayS b L (tai / 1000000000)), tai % 1000000000), 0) else ((0, 0, 0), utcE b l L tai)) := by
  have h1 := T.len
  have l0 := T.l0
  have l1 := T.l1
  have b0 := T.b0
  have b1 := T.b1
  unfold rtail
  rw [lsec_at l (by omega) (by omega) b0 b1 (by omega) (by omega)]
  simp only [Option.bind_some]
  by_cases g3 : tai / 1000000000 < secD b L (-50000)
  · have hE : utcE b l L tai = 2 := by unfold utcE; rw [if_neg (by omega), if_pos g3]
    rw [decide_eq_true g3, hE]; rfl
  rw [decide_eq_false g3, cond_false, lsec_at l (by omega) (by omega) b0 b1 (by omega) (by omega)]
  simp only [Option.bind_some]
  by_cases g4 : tai / 1000000000 ≥ secD b L l
  · have hE : utcE b l L tai = 10 := by unfold utcE; rw [if_neg (by omega), if_neg g3, if_pos g4]
    rw [decide_eq_true g4, hE]; rfl
  have hE : utcE b l L tai = 0 := by unfold utcE; rw [if_neg (by omega), if_neg g3, if_neg g4]
  rw [hE, decide_eq_false g4, cond_false]
  obtain ⟨s1, s2⟩ := dayS_spec T (tai / 1000000000)
  have hlt := secD_lt (show secD b L (-50000) < secD b L l by omega)
  have h17 : hwZ 17 = 131072 := rfl
  have hlp := rutc_loop N hN T tai (0, 0, 0) s1 s2 17 N (-50000) l (by omega) hlt (by omega) l1 (by omega) (by omega) (by omega)
  have hlp' : l_58_0 N (tai, (), (), tai / 1000000000, -50000, l, (b, l, L), (0, 0, 0)) = some (tai, (), (), tai / 1000000000, dayS b L (tai / 1000000000), (b, l, L), (0, 0, 0)) := hlp
  rw [hlp']
  simp only [Option.bind_some]
  have hd : dayS b L (tai / 1000000000) = tai / 1000000000 / 86400 ∨ dayS b L (tai / 1000000000) = tai / 1000000000 / 86400 - 1 := by unfold dayS; split <;> omega
  rw [lsec_at l (by omega) (by omega) b0 b1 (by omega) (by omega)]
  simp only [Option.bind_some]
  have c1 := cntD_le (dayS b L (tai / 1000000000)) L
  rw [wi64 (n := tai / 1000000000 - _) (by unfold secD; omega) (by unfold secD; omega), wi64 (n := tai / 1000000000 * 1000000000) (by omega) (by omega), wi64 (n := tai - _) (by omega) (by omega), if_pos trivial, show tai - tai / 1000000000 * 1000000000 = tai % 1000000000 by omega]
theorem rutc_bad {N : Nat} {b l : Int} {L : List Int} (tai : Int) (hL : L.length ≤ 1000000) (hN : L.length < N) (h : tabB b l L = false) : f_58 N b l L tai = some ((0, 0, 0), 1) := by
  unfold f_58
  rw [lmay_at hL hN, h]; rfl
theorem rutc_at {N : Nat} (hN : 33 ≤ N) {b l : Int} {L : List Int} (h : tabB b l L = true) {tai : Int} (t0 : -9223372036854775808 ≤ tai) (t1 : tai < 9223372036854775808) :
    f_58 N b l L tai = some (if utcE b l L tai = 0 then ((dayS b L (tai / 1000000000), tai / 1000000000 - secD b L (dayS b L (tai / 1000000000)), tai % 1000000000), 0) else ((0, 0, 0), utcE b l L tai)) := by
  have T := tab_of h
  have h1 := T.len
  unfold f_58
  rw [lmay_at (by omega) (by omega), h]
  simp only [Option.bind_some, Bool.not_true, cond_false]
  by_cases g1 : tai ≤ -4611686018427387904
  · have hE : utcE b l L tai = 2 := by unfold utcE; rw [if_pos (.inl g1)]
    rw [decide_eq_true g1, hE]; rfl
  rw [decide_eq_false g1, cond_false]
  by_cases g2 : tai ≥ 4611686018427387904
  · have hE : utcE b l L tai = 2 := by unfold utcE; rw [if_pos (.inr g2)]
    rw [decide_eq_true g2, hE]; rfl
  rw [decide_eq_false g2, cond_false]
  have ht := rtail_at (N := N) hN T (show -4611686018427387904 < tai by omega) (by omega)
  rw [← ht]
  by_cases g3 : tai < 0
  · rw [decide_eq_true g3, cond_true]
    obtain ⟨n, rfl⟩ : ∃ n, tai = -n := ⟨-tai, by omega⟩
    rw [Int.neg_tdiv, Int.tdiv_eq_ediv_of_nonneg (by omega), wi64 (n := -(n / 1000000000)) (by omega) (by omega), wi64 (n := -(n / 1000000000) * 1000000000) (by omega) (by omega), wi64 (n := -(n / 1000000000) - 1) (by omega) (by omega)]
    by_cases g4 : -(n / 1000000000) * 1000000000 = -n
    · rw [g4, bne_self_eq_false, cond_false, show -n / 1000000000 = -(n / 1000000000) by omega]; rfl
    · rw [bne_iff_ne.2 g4, cond_true, show -n / 1000000000 = -(n / 1000000000) - 1 by omega]; rfl
  · rw [decide_eq_false g3, cond_false, Int.tdiv_eq_ediv_of_nonneg (by omega), wi64 (n := tai / 1000000000) (by omega) (by omega)]; rfl
/-! ### how far ahead -/
theorem known_at {N : Nat} {b l : Int} {L : List Int} (hN : 33 ≤ N) (h : tabB b l L = true) (d : Int) : f_61 N b l L d = some (if d < -50000 then some 2 else if d ≥ l then some 10 else none) := by
  have T := tab_of h
  have h1 := T.len
  unfold f_61
  rw [lcheck_at (by omega) (by omega), h]
  simp only [cond_true, Option.bind_some, Option.isNone_none, Bool.not_true, cond_false]
  by_cases g1 : d < -50000
  · rw [decide_eq_true g1, if_pos g1]; rfl
  rw [decide_eq_false g1, if_neg g1]
  by_cases g2 : d ≥ l
  · rw [decide_eq_true g2, if_pos g2]; rfl
  rw [decide_eq_false g2, if_neg g2]; rfl
theorem ahead_at {N : Nat} {b l : Int} {L : List Int} (hN : 33 ≤ N) (h : tabB b l L = true) {d : Int} (d0 : -50000 ≤ d) (d1 : d < l) : f_34 N b l L d = some (b + cntD d L, none) := by
  unfold f_34
  rw [known_at hN h, if_neg (by omega), if_neg (by omega), ahd_at (tab_of h) hN]; rfl
end Go.Proofs.YtmdnnlfoljdfpaaDoor.Mir
