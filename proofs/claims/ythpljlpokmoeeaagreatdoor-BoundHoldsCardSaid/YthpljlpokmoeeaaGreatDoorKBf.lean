/- Texts joined. -/
import Derived.Test.YthpljlpokmoeeaaGreatDoorKx0e6d92
import Derived.Test.YthpljlpokmoeeaaGreatDoorKBe
namespace Go.Proofs.YthpljlpokmoeeaaGreatDoor.Mir
open Go Go.RowKit
set_option maxRecDepth 100000
def gI (L : List Int) (i : Nat) : Int := L.getD i 0
def okD (l : Int) (L : List Int) (i : Nat) : Bool := !decide (gI L i < -50000) && (!decide (gI L i ≥ l) && !(decide ((i : Int) > 0) && decide (gI L (i - 1) ≥ gI L i)))
def allD (l : Int) (L : List Int) : Nat → Nat → Bool
 | _, 0 => true
 | i, k + 1 => okD l L i && allD l L (i + 1) k
def tabB (b l : Int) (L : List Int) : Bool := (decide (b ≥ 0) && (decide (b ≤ 100) && (decide (l ≥ -50000) && (decide (l ≤ 50000) && decide ((L.length : Int) ≤ 32))))) && allD l L 0 L.length
theorem lcheck_loop (N : Nat) {b l : Int} {L : List Int} (hL : L.length ≤ 1000000) : ∀ (k M i : Nat), i + k = L.length → k < M → iter (b_187_0 N) M ((), L, (L.length : Int), (i : Int), (b, l, L)) = bif allD l L i k then some (.inr ()) else some (.inl (some 1)) := by
 intro k
 induction k with
 | zero =>
  intro M i hi hM
  obtain ⟨M, rfl⟩ : ∃ m, M = m + 1 := ⟨M - 1, by omega⟩
  show b_187_0 N (iter (b_187_0 N) M) _ = _
  unfold b_187_0
  simp only
  rw [decide_eq_false (show ¬ (i : Int) < (L.length : Int) by omega)]; rfl
 | succ k ih =>
  intro M i hi hM
  obtain ⟨M, rfl⟩ : ∃ m, M = m + 1 := ⟨M - 1, by omega⟩
  have ih' := ih M (i + 1) (by omega) (by omega)
  show b_187_0 N (iter (b_187_0 N) M) _ = _
  generalize iter (b_187_0 N) M = I at ih' ⊢
  unfold b_187_0
  simp only
  rw [decide_eq_true (show (i : Int) < (L.length : Int) by omega), decide_eq_true (show 0 ≤ (i : Int) ∧ (i : Int) < (L.length : Int) by omega), wi64 (n := (i : Int) + 1) (by omega) (by omega), show (i : Int) + 1 = ((i + 1 : Nat) : Int) by omega, ih']
  simp only [cond_true, Int.toNat_natCast]
  show _ = bif (okD l L i && allD l L (i + 1) k) then _ else _
  unfold okD
  show (bif decide (gI L i < -50000) then _ else (bif decide (gI L i ≥ l) then _ else _)) = _
  generalize decide (gI L i < -50000) = t3
  generalize decide (gI L i ≥ l) = t4
  by_cases h0 : (i : Int) > 0
  ·rw [decide_eq_true h0, wi64 (n := (i : Int) - 1) (by omega) (by omega), decide_eq_true (show 0 ≤ (i : Int) - 1 ∧ (i : Int) - 1 < (L.length : Int) by omega), show ((i : Int) - 1).toNat = i - 1 by omega]
   show (bif t3 then _ else (bif t4 then _ else (bif decide (gI L (i - 1) ≥ gI L i) then _ else _))) = _
   generalize decide (gI L (i - 1) ≥ gI L i) = t5
   cases t3 <;> cases t4 <;> cases t5 <;> rfl
  ·rw [decide_eq_false h0]
   cases t3 <;> cases t4 <;> rfl
theorem not_le_dec (x y : Int) : decide (x < y) = !decide (x ≥ y) := by
 by_cases h : x < y
 ·rw [decide_eq_true h, decide_eq_false (by omega)]; rfl
 ·rw [decide_eq_false h, decide_eq_true (by omega)]; rfl
theorem not_ge_dec (x y : Int) : decide (x > y) = !decide (x ≤ y) := by
 by_cases h : x > y
 ·rw [decide_eq_true h, decide_eq_false (by omega)]; rfl
 ·rw [decide_eq_false h, decide_eq_true (by omega)]; rfl
theorem lcheck_at {N : Nat} {b l : Int} {L : List Int} (hL : L.length ≤ 1000000) (hN : L.length < N) : f_187 N b l L = some (bif tabB b l L then none else some 1) := by
 have h := lcheck_loop N (b := b) (l := l) hL L.length N 0 (by omega) hN
 have h' : l_187_0 N ((), L, (L.length : Int), 0, (b, l, L)) = bif allD l L 0 L.length then some (.inr ()) else some (.inl (some 1)) := h
 unfold f_187 tabB
 rw [h', not_le_dec b 0, not_ge_dec b 100, not_le_dec l (-50000), not_ge_dec l 50000, not_ge_dec (L.length : Int) 32]
 cases decide (b ≥ 0) <;> cases decide (b ≤ 100) <;> cases decide (l ≥ -50000) <;> cases decide (l ≤ 50000) <;> cases decide ((L.length : Int) ≤ 32) <;> cases allD l L 0 L.length <;> rfl
structure Tab (b l : Int) (L : List Int) : Prop where
 b0 : 0 ≤ b
 b1 : b ≤ 100
 l0 : -50000 ≤ l
 l1 : l ≤ 50000
 len : L.length ≤ 32
 lo : ∀ i, i < L.length → -50000 ≤ gI L i
 hi : ∀ i, i < L.length → gI L i < l
 srt : ∀ i j, i < j → j < L.length → gI L i < gI L j
theorem allD_at {l : Int} {L : List Int} : ∀ {k i : Nat}, allD l L i k = true → ∀ j, i ≤ j → j < i + k → okD l L j = true
 | 0, _, _, j, h1, h2 => by omega
 | k + 1, i, h, j, h1, h2 => by
  simp only [allD, Bool.and_eq_true] at h
  by_cases hj : j = i
  ·subst hj; exact h.1
  ·exact allD_at h.2 j (by omega) (by omega)
theorem okD_step {l : Int} {L : List Int} {i : Nat} (h : okD l L (i + 1) = true) : gI L i < gI L (i + 1) := by
 unfold okD at h
 simp only [Bool.and_eq_true] at h
 have h5 := h.2.2
 rw [decide_eq_true (show ((i + 1 : Nat) : Int) > 0 by omega), Nat.add_sub_cancel] at h5
 simp only [Bool.true_and, Bool.not_eq_true', decide_eq_false_iff_not] at h5
 omega
theorem tab_of {b l : Int} {L : List Int} (h : tabB b l L = true) : Tab b l L := by
 unfold tabB at h
 simp only [Bool.and_eq_true, decide_eq_true_eq] at h
 obtain ⟨⟨h1, h2, h3, h4, h5⟩, h6⟩ := h
 have ok : ∀ i, i < L.length → okD l L i = true := fun i hi => allD_at h6 i (by omega) (by omega)
 refine ⟨by omega, by omega, by omega, by omega, by omega, fun i hi => ?_, fun i hi => ?_, fun i j => ?_⟩
 ·have := ok i hi
  unfold okD at this
  simp only [Bool.and_eq_true, Bool.not_eq_true', decide_eq_false_iff_not] at this
  omega
 ·have := ok i hi
  unfold okD at this
  simp only [Bool.and_eq_true, Bool.not_eq_true', decide_eq_false_iff_not] at this
  omega
 ·induction j with
  | zero => intro h1; omega
  | succ j ih =>
   intro h1 h2
   have a := okD_step (ok (j + 1) h2)
   by_cases hj : i = j
   ·subst hj; exact a
   ·exact Int.lt_trans (ih (by omega) (by omega)) a
def cntD (d : Int) : List Int → Nat
 | [] => 0
 | x :: r => (if x < d then 1 else 0) + cntD d r
theorem cntD_le (d : Int) : ∀ L, cntD d L ≤ L.length
 | [] => Nat.le_refl _
 | x :: r => by
  have := cntD_le d r
  simp only [cntD, List.length_cons]
  split <;> omega
def secD (b : Int) (L : List Int) (d : Int) : Int := 86400 * d + b + cntD d L
theorem cnt_uniq (d : Int) : ∀ (L : List Int) (m : Nat), m ≤ L.length → (∀ i, i < m → gI L i < d) → (∀ i, m ≤ i → i < L.length → d ≤ gI L i) → cntD d L = m
 | [], m, h, _, _ => by simp at h; simp [cntD, h]
 | x :: r, 0, h, _, h2 => by
  have hx := h2 0 (Nat.le_refl _) (by simp)
  have ih := cnt_uniq d r 0 (Nat.zero_le _) (fun i hi => by omega) (fun i _ hi => h2 (i + 1) (Nat.zero_le _) (by simp; omega))
  have hx' : d ≤ x := hx
  simp only [cntD]
  rw [if_neg (by omega), ih]
 | x :: r, m + 1, h, h1, h2 => by
  have hx := h1 0 (by omega)
  have ih := cnt_uniq d r m (by simp at h; omega) (fun i hi => h1 (i + 1) (by omega)) (fun i h3 hi => h2 (i + 1) (by omega) (by simp; omega))
  have hx' : x < d := hx
  simp only [cntD]
  rw [if_pos hx', ih]; omega
theorem cnt_mono {d e : Int} (h : d ≤ e) : ∀ L, cntD d L ≤ cntD e L
 | [] => Nat.le_refl _
 | x :: r => by
  have := cnt_mono h r
  simp only [cntD]
  split <;> split <;> omega
theorem secD_step (b : Int) (L : List Int) (d : Int) : secD b L d + 86400 ≤ secD b L (d + 1) := by
 have := cnt_mono (show d ≤ d + 1 by omega) L
 unfold secD; omega
theorem secD_mono (b : Int) (L : List Int) {d e : Int} (h : d ≤ e) : secD b L d ≤ secD b L e := by
 have := cnt_mono h L
 unfold secD; omega
theorem secD_lt {b : Int} {L : List Int} {d e : Int} (h : secD b L d < secD b L e) : d < e := by
 rcases Int.lt_or_le d e with h1 | h1
 ·exact h1
 ·have := secD_mono b L h1; omega
theorem less_at (N : Nat) (a b : Int) : f_226 N a b = some (decide (a < b)) := by
 unfold f_226 f_220
 simp only [bne_self_eq_false, Option.bind_some, cond_false]
theorem lmid_eq {i j : Nat} (h : i + j < 4000000) : IntKind.i64.wrap ((IntKind.u64.wrap (IntKind.i64.wrap ((i : Int) + (j : Int)))) / 2 ^ (min (Int.toNat 1) IntKind.u64.bits)) = (((i + j) / 2 : Nat) : Int) := by
 have e : (2 : Int) ^ (min (Int.toNat 1) IntKind.u64.bits) = 2 := by decide
 rw [e, wi64 (n := (i : Int) + (j : Int)) (by omega) (by omega), wu64 (by omega) (by omega), wi64 (by omega) (by omega)]
 omega
theorem bsi_loop (N : Nat) {L : List Int} {t : Int} (hL : L.length ≤ 1000000) (hs : ∀ i j, i < j → j < L.length → gI L i < gI L j) : ∀ (k M i j : Nat), i + k = j → j ≤ L.length → k < M → (∀ q, q < i → gI L q < t) → (∀ q, j ≤ q → q < L.length → t ≤ gI L q) →
  iter (b_217_0 N) M (L, t, (L.length : Int), (i : Int), (j : Int)) = some (L, t, (L.length : Int), (cntD t L : Int)) := by
 intro k
 induction k using Nat.strongRecOn with
 | ind k ih =>
  intro M i j hk hj hM hlo hhi
  obtain ⟨M, rfl⟩ : ∃ m, M = m + 1 := ⟨M - 1, by omega⟩
  by_cases hij : i < j
  rotate_left
  ·obtain rfl : i = j := by omega
   rw [cnt_uniq t L i hj hlo hhi]
   show b_217_0 N (iter (b_217_0 N) M) _ = _
   unfold b_217_0
   simp only
   rw [decide_eq_false (show ¬ (i : Int) < (i : Int) by omega)]; rfl
  ·have hm1 : i ≤ (i + j) / 2 := by omega
   have hm2 : (i + j) / 2 < j := by omega
   have e0 : ∀ I, b_217_0 N I (L, t, (L.length : Int), (i : Int), (j : Int)) = bif decide (gI L ((i + j) / 2) < t) then I (L, t, (L.length : Int), (((i + j) / 2 + 1 : Nat) : Int), (j : Int)) else I (L, t, (L.length : Int), (i : Int), (((i + j) / 2 : Nat) : Int)) := fun I => by
    unfold b_217_0
    simp only
    rw [lmid_eq (by omega), decide_eq_true (show (i : Int) < (j : Int) by omega), decide_eq_true (show 0 ≤ (((i + j) / 2 : Nat) : Int) ∧ (((i + j) / 2 : Nat) : Int) < (L.length : Int) by omega), less_at, wi64 (n := (((i + j) / 2 : Nat) : Int) + 1) (by omega) (by omega), Int.toNat_natCast]
    rfl
   show b_217_0 N (iter (b_217_0 N) M) (L, t, (L.length : Int), (i : Int), (j : Int)) = _
   rw [e0]
   by_cases h : gI L ((i + j) / 2) < t
   ·rw [decide_eq_true h]
    exact ih (j - ((i + j) / 2 + 1)) (by omega) M ((i + j) / 2 + 1) j (by omega) hj (by omega) (fun q hq => by
     by_cases hq2 : q = (i + j) / 2
     ·subst hq2; exact h
     ·exact Int.lt_trans (hs q ((i + j) / 2) (by omega) (by omega)) h) hhi
   ·rw [decide_eq_false h]
    exact ih ((i + j) / 2 - i) (by omega) M i ((i + j) / 2) (by omega) (by omega) (by omega) hlo (fun q h1 h2 => by
     by_cases hq2 : q = (i + j) / 2
     ·subst hq2; omega
     ·have := hs ((i + j) / 2) q (by omega) h2
      omega)
theorem bsi_at {N : Nat} {L : List Int} (t : Int) (hL : L.length ≤ 1000000) (hN : L.length < N) (hs : ∀ i j, i < j → j < L.length → gI L i < gI L j) : ∃ f, f_217 N L t = some ((cntD t L : Int), f) := by
 have h := bsi_loop N (t := t) hL hs L.length N 0 L.length (by omega) (Nat.le_refl _) hN (fun q hq => by omega) (fun q h1 h2 => by omega)
 have h' : l_217_0 N (L, t, (L.length : Int), 0, (L.length : Int)) = some (L, t, (L.length : Int), (cntD t L : Int)) := h
 unfold f_217
 rw [h']
 simp only [Option.bind_some]
 by_cases hm : (cntD t L : Int) < (L.length : Int)
 ·rw [decide_eq_true hm, decide_eq_true (show 0 ≤ (cntD t L : Int) ∧ (cntD t L : Int) < (L.length : Int) by omega)]
  simp only [cond_true]
  cases (L.getD (Int.toNat (cntD t L : Int)) 0 == t) with
  | true => exact ⟨true, rfl⟩
  | false =>
   unfold f_227
   simp only [bne_self_eq_false, Option.bind_some, cond_false]
   exact ⟨false, rfl⟩
 ·rw [decide_eq_false hm]; exact ⟨false, rfl⟩
theorem ahd_at {N : Nat} {b l : Int} {L : List Int} (T : Tab b l L) (hN : 33 ≤ N) (d : Int) : f_204 N b l L d = some (b + cntD d L) := by
 have h1 := T.len
 have h2 := T.b0
 have h3 := T.b1
 obtain ⟨f, hf⟩ := bsi_at (N := N) d (by omega) (by omega) T.srt
 have h4 := cntD_le d L
 unfold f_204
 rw [hf]
 simp only [Option.bind_some]
 rw [wi64 (by omega) (by omega)]
theorem begin_at {N : Nat} {b l : Int} {L : List Int} (T : Tab b l L) (hN : 33 ≤ N) {d : Int} (d0 : -1000000 ≤ d) (d1 : d ≤ 1000000) : f_202 N b l L d = some (secD b L d) := by
 have h1 := T.len
 have h2 := T.b0
 have h3 := T.b1
 have h4 := cntD_le d L
 unfold f_202
 rw [ahd_at T hN]
 simp only [Option.bind_some]
 have e : d * 86400 + (b + (cntD d L : Int)) = secD b L d := by unfold secD; omega
 rw [wi64 (n := d * 86400) (by omega) (by omega), wi64 (by omega) (by omega), e]
theorem div9_at (N : Nat) {a : Int} (h : -9223372036854775808 ≤ a) (h2 : a < 9223372036854775808) : f_94 N a 1000000000 = some (a / 1000000000, a % 1000000000, none) := by
 unfold f_94
 rcases Int.lt_or_le a 0 with h0 | h0
 ·obtain ⟨n, rfl⟩ : ∃ n, a = -n := ⟨-a, by omega⟩
  rw [Int.neg_tdiv, Int.neg_tmod, Int.tdiv_eq_ediv_of_nonneg (by omega), Int.tmod_eq_emod_of_nonneg (by omega)]
  by_cases h3 : n % 1000000000 = 0
  ·rw [decide_eq_false (show ¬ -(n % 1000000000) < 0 by omega), wi64 (n := -(n / 1000000000)) (by omega) (by omega)]
   show some (_, _, none) = _
   rw [show -(n / 1000000000) = -n / 1000000000 by omega, show -(n % 1000000000) = -n % 1000000000 by omega]
  ·rw [decide_eq_true (show -(n % 1000000000) < 0 by omega), wi64 (n := -(n / 1000000000)) (by omega) (by omega), wi64 (n := -(n / 1000000000) - 1) (by omega) (by omega), wi64 (n := -(n % 1000000000) + 1000000000) (by omega) (by omega)]
   show some (_, _, none) = _
   rw [show -(n / 1000000000) - 1 = -n / 1000000000 by omega, show -(n % 1000000000) + 1000000000 = -n % 1000000000 by omega]
 ·rw [Int.tdiv_eq_ediv_of_nonneg h0, Int.tmod_eq_emod_of_nonneg h0, decide_eq_false (show ¬ a % 1000000000 < 0 by omega), wi64 (n := a / 1000000000) (by omega) (by omega)]
  rfl
theorem div864_at (N : Nat) {a : Int} (h : -9223372036854775808 ≤ a) (h2 : a < 9223372036854775808) : f_94 N a 86400 = some (a / 86400, a % 86400, none) := by
 unfold f_94
 rcases Int.lt_or_le a 0 with h0 | h0
 ·obtain ⟨n, rfl⟩ : ∃ n, a = -n := ⟨-a, by omega⟩
  rw [Int.neg_tdiv, Int.neg_tmod, Int.tdiv_eq_ediv_of_nonneg (by omega), Int.tmod_eq_emod_of_nonneg (by omega)]
  by_cases h3 : n % 86400 = 0
  ·rw [decide_eq_false (show ¬ -(n % 86400) < 0 by omega), wi64 (n := -(n / 86400)) (by omega) (by omega)]
   show some (_, _, none) = _
   rw [show -(n / 86400) = -n / 86400 by omega, show -(n % 86400) = -n % 86400 by omega]
  ·rw [decide_eq_true (show -(n % 86400) < 0 by omega), wi64 (n := -(n / 86400)) (by omega) (by omega), wi64 (n := -(n / 86400) - 1) (by omega) (by omega), wi64 (n := -(n % 86400) + 86400) (by omega) (by omega)]
   show some (_, _, none) = _
   rw [show -(n / 86400) - 1 = -n / 86400 by omega, show -(n % 86400) + 86400 = -n % 86400 by omega]
 ·rw [Int.tdiv_eq_ediv_of_nonneg h0, Int.tmod_eq_emod_of_nonneg h0, decide_eq_false (show ¬ a % 86400 < 0 by omega), wi64 (n := a / 86400) (by omega) (by omega)]
  rfl
def dayS (b : Int) (L : List Int) (s : Int) : Int := if secD b L (s / 86400) ≤ s then s / 86400 else s / 86400 - 1
theorem dayS_spec {b l : Int} {L : List Int} (T : Tab b l L) (s : Int) : secD b L (dayS b L s) ≤ s ∧ s < secD b L (dayS b L s + 1) := by
 have h1 := T.len
 have h2 := T.b0
 have h3 := T.b1
 have h5 := cntD_le (s / 86400 - 1) L
 unfold dayS
 by_cases h : secD b L (s / 86400) ≤ s
 ·rw [if_pos h]
  refine ⟨h, ?_⟩
  unfold secD; omega
 ·rw [if_neg h]
  refine ⟨?_, by rw [Int.sub_add_cancel]; omega⟩
  unfold secD; omega
theorem utc_loop (N : Nat) (hN : 33 ≤ N) {b l : Int} {L : List Int} (T : Tab b l L) {s : Int} (nano : Int) (z : Int × Int × Int) {e : Int} (e0 : -900000 ≤ e) (e1 : secD b L e ≤ s) (e2 : s < secD b L (e + 1)) : ∀ (k M : Nat) (d : Int), d = e + k → d ≤ 900000 → k < M →
  iter (b_188_0 N) M ((), (), s, nano, d, (b, l, L), z) = some ((), (), s, nano, e, (b, l, L), z) := by
 intro k
 induction k with
 | zero =>
  intro M d hd h2 hM
  obtain ⟨M, rfl⟩ : ∃ m, M = m + 1 := ⟨M - 1, by omega⟩
  obtain rfl : d = e := by omega
  show b_188_0 N (iter (b_188_0 N) M) _ = _
  unfold b_188_0
  simp only
  rw [begin_at T hN (by omega) (by omega)]
  simp only [Option.bind_some]
  rw [decide_eq_false (show ¬ s < secD b L d by omega)]; rfl
 | succ k ih =>
  intro M d hd h2 hM
  obtain ⟨M, rfl⟩ : ∃ m, M = m + 1 := ⟨M - 1, by omega⟩
  have ih' := ih M (d - 1) (by omega) (by omega) (by omega)
  have hs : s < secD b L d := Int.lt_of_lt_of_le e2 (secD_mono b L (by omega))
  show b_188_0 N (iter (b_188_0 N) M) _ = _
  generalize iter (b_188_0 N) M = I at ih' ⊢
  unfold b_188_0
  simp only
  rw [begin_at T hN (by omega) (by omega)]
  simp only [Option.bind_some]
  rw [decide_eq_true hs, wi64 (n := d - 1) (by omega) (by omega), ih']; rfl
def utcE (b l : Int) (L : List Int) (tai : Int) : Int :=
 if tai ≤ -4611686018427387904 ∨ tai ≥ 4611686018427387904 then 2 else if tai / 1000000000 < secD b L (-50000) then 2 else if tai / 1000000000 ≥ secD b L l then 10 else 0
theorem utc_at {N : Nat} (hN : 33 ≤ N) {b l : Int} {L : List Int} (h : tabB b l L = true) {tai : Int} (t0 : -9223372036854775808 ≤ tai) (t1 : tai < 9223372036854775808) :
  f_188 N b l L tai = some (if utcE b l L tai = 0 then ((dayS b L (tai / 1000000000), tai / 1000000000 - secD b L (dayS b L (tai / 1000000000)), tai % 1000000000), none) else ((0, 0, 0), some (utcE b l L tai))) := by
 have T := tab_of h
 have h1 := T.len
 have l0 := T.l0
 have l1 := T.l1
 unfold f_188
 rw [lcheck_at (by omega) (by omega), h, div9_at N t0 t1]
 simp only [cond_true, Option.bind_some, Option.isNone_none, Bool.not_true, cond_false]
 by_cases g1 : tai ≤ -4611686018427387904
 ·have hE : utcE b l L tai = 2 := by unfold utcE; rw [if_pos (.inl g1)]
  rw [decide_eq_true g1, hE]; rfl
 rw [decide_eq_false g1, cond_false]
 by_cases g2 : tai ≥ 4611686018427387904
 ·have hE : utcE b l L tai = 2 := by unfold utcE; rw [if_pos (.inr g2)]
  rw [decide_eq_true g2, hE]; rfl
 rw [decide_eq_false g2, cond_false, begin_at T hN (by omega) (by omega)]
 simp only [Option.bind_some]
 by_cases g3 : tai / 1000000000 < secD b L (-50000)
 ·have hE : utcE b l L tai = 2 := by unfold utcE; rw [if_neg (by omega), if_pos g3]
  rw [decide_eq_true g3, hE]; rfl
 rw [decide_eq_false g3, cond_false, begin_at T hN (by omega) (by omega)]
 simp only [Option.bind_some]
 by_cases g4 : tai / 1000000000 ≥ secD b L l
 ·have hE : utcE b l L tai = 10 := by unfold utcE; rw [if_neg (by omega), if_neg g3, if_pos g4]
  rw [decide_eq_true g4, hE]; rfl
 have hE : utcE b l L tai = 0 := by unfold utcE; rw [if_neg (by omega), if_neg g3, if_neg g4]
 rw [hE, decide_eq_false g4, cond_false, div864_at N (by omega) (by omega)]
 simp only [Option.bind_some, Option.isNone_none, Bool.not_true, cond_false]
 obtain ⟨s1, s2⟩ := dayS_spec T (tai / 1000000000)
 have hd : dayS b L (tai / 1000000000) = tai / 1000000000 / 86400 ∨ dayS b L (tai / 1000000000) = tai / 1000000000 / 86400 - 1 := by unfold dayS; split <;> omega
 have hb : -900000 ≤ tai / 1000000000 / 86400 ∧ tai / 1000000000 / 86400 ≤ 800000 := by omega
 have hlp := utc_loop N hN T (tai % 1000000000) (0, 0, 0) (by omega) s1 s2 (tai / 1000000000 / 86400 - dayS b L (tai / 1000000000)).toNat N (tai / 1000000000 / 86400) (by omega) (by omega) (by omega)
 have hlp' : l_188_0 N ((), (), tai / 1000000000, tai % 1000000000, tai / 1000000000 / 86400, (b, l, L), (0, 0, 0)) = some ((), (), tai / 1000000000, tai % 1000000000, dayS b L (tai / 1000000000), (b, l, L), (0, 0, 0)) := hlp
 rw [hlp']
 simp only [Option.bind_some]
 rw [begin_at T hN (by omega) (by omega)]
 simp only [Option.bind_some]
 have hw := secD_step b L (dayS b L (tai / 1000000000))
 have c1 := cntD_le (dayS b L (tai / 1000000000)) L
 have c2 := T.b0
 have c3 := T.b1
 rw [wi64 (n := tai / 1000000000 - _) (by unfold secD; omega) (by unfold secD; omega), if_pos trivial]
theorem known_at {N : Nat} {b l : Int} {L : List Int} (hN : 33 ≤ N) (h : tabB b l L = true) (d : Int) : f_203 N b l L d = some (if d < -50000 then some 2 else if d ≥ l then some 10 else none) := by
 have T := tab_of h
 have h1 := T.len
 unfold f_203
 rw [lcheck_at (by omega) (by omega), h]
 simp only [cond_true, Option.bind_some, Option.isNone_none, Bool.not_true, cond_false]
 by_cases g1 : d < -50000
 ·rw [decide_eq_true g1, if_pos g1]; rfl
 rw [decide_eq_false g1, if_neg g1]
 by_cases g2 : d ≥ l
 ·rw [decide_eq_true g2, if_pos g2]; rfl
 rw [decide_eq_false g2, if_neg g2]; rfl
theorem ahead_at {N : Nat} {b l : Int} {L : List Int} (hN : 33 ≤ N) (h : tabB b l L = true) {d : Int} (d0 : -50000 ≤ d) (d1 : d < l) : f_189 N b l L d = some (b + cntD d L, none) := by
 unfold f_189
 rw [known_at hN h, if_neg (by omega), if_neg (by omega), ahd_at (tab_of h) hN]; rfl
end Go.Proofs.YthpljlpokmoeeaaGreatDoor.Mir
namespace Go.Proofs.YthpljlpokmoeeaaGreatDoor.Mir
open Go Go.RowKit
set_option maxRecDepth 100000
def SmOk (k bf af : Int) : Prop := (0 ≤ bf ∧ bf ≤ 43200 ∧ 0 ≤ af ∧ af ≤ 43200) ∧ ((k = 0 ∧ bf + af = 0) ∨ (k = 1 ∧ bf + af ≥ 1) ∨ (k = 2 ∧ bf + af ≥ 3600))
instance (k bf af : Int) : Decidable (SmOk k bf af) := by unfold SmOk; infer_instance
theorem scheck_at (N : Nat) (k bf af : Int) : f_106 N k bf af = some (if SmOk k bf af then none else some 1) := by
 unfold f_106
 by_cases g1 : bf < 0
 ·rw [decide_eq_true g1, if_neg (by unfold SmOk; omega)]; rfl
 rw [decide_eq_false g1, cond_false]
 by_cases g2 : bf > 43200
 ·rw [decide_eq_true g2, if_neg (by unfold SmOk; omega)]; rfl
 rw [decide_eq_false g2, cond_false]
 by_cases g3 : af < 0
 ·rw [decide_eq_true g3, if_neg (by unfold SmOk; omega)]; rfl
 rw [decide_eq_false g3, cond_false]
 by_cases g4 : af > 43200
 ·rw [decide_eq_true g4, if_neg (by unfold SmOk; omega)]; rfl
 rw [decide_eq_false g4, cond_false, wi64 (n := bf + af) (by omega) (by omega)]
 by_cases k0 : k = 0
 ·subst k0
  rw [beq_self_eq_true, cond_true]
  by_cases h : bf + af = 0
  ·rw [h, beq_self_eq_true, if_pos (by unfold SmOk; omega)]; rfl
  ·rw [beq_false_of_ne h, if_neg (by unfold SmOk; omega)]; rfl
 rw [beq_false_of_ne k0, cond_false]
 by_cases k1 : k = 1
 ·subst k1
  rw [beq_self_eq_true, cond_true]
  by_cases h : bf + af > 0
  ·rw [decide_eq_true h, if_pos (by unfold SmOk; omega)]; rfl
  ·rw [decide_eq_false h, if_neg (by unfold SmOk; omega)]; rfl
 rw [beq_false_of_ne k1, cond_false]
 by_cases k2 : k = 2
 ·subst k2
  rw [beq_self_eq_true, cond_true]
  by_cases h : bf + af ≥ 3600
  ·rw [decide_eq_true h, if_pos (by unfold SmOk; omega)]; rfl
  ·rw [decide_eq_false h, if_neg (by unfold SmOk; omega)]; rfl
 rw [beq_false_of_ne k2, if_neg (by unfold SmOk; omega)]; rfl
def endW (b : Int) (L : List Int) (i : Nat) : Int := (gI L i + 1) * 86400 + b + i + 1
theorem endW_lim {b l : Int} {L : List Int} (T : Tab b l L) {i : Nat} (hi : i < L.length) : -4321000000 ≤ endW b L i ∧ endW b L i ≤ 4321000000 := by
 have a := T.lo i hi
 have c := T.hi i hi
 have := T.l1
 have := T.len
 have := T.b0
 have := T.b1
 unfold endW; omega
theorem swind_at (N : Nat) {b l : Int} {L : List Int} (T : Tab b l L) (k : Int) {bf af : Int} (f0 : 0 ≤ bf) (f1 : bf ≤ 43200) (a0 : 0 ≤ af) (a1 : af ≤ 43200) {i : Nat} (hi : i < L.length) : f_149 N k bf af b l L (i : Int) = some (endW b L i - 1 - bf, endW b L i + af) := by
 have a := T.lo i hi
 have c := T.hi i hi
 have d1 := T.l1
 have d2 := T.len
 have d3 := T.b0
 have d4 := T.b1
 unfold f_149
 rw [decide_eq_true (show 0 ≤ (i : Int) ∧ (i : Int) < (L.length : Int) by omega), cond_true, Int.toNat_natCast]
 show some (IntKind.i64.wrap (IntKind.i64.wrap (IntKind.i64.wrap (IntKind.i64.wrap (IntKind.i64.wrap (IntKind.i64.wrap (IntKind.i64.wrap (gI L i + 1) * 86400) + b) + (i : Int)) + 1) - 1) - bf), IntKind.i64.wrap (IntKind.i64.wrap (IntKind.i64.wrap (IntKind.i64.wrap (IntKind.i64.wrap (IntKind.i64.wrap (gI L i + 1) * 86400) + b) + (i : Int)) + 1) + af)) = _
 have e : IntKind.i64.wrap (IntKind.i64.wrap (IntKind.i64.wrap (IntKind.i64.wrap (IntKind.i64.wrap (gI L i + 1) * 86400) + b) + (i : Int)) + 1) = endW b L i := by
  rw [wi64 (n := gI L i + 1) (by omega) (by omega), wi64 (n := (gI L i + 1) * 86400) (by omega) (by omega), wi64 (n := (gI L i + 1) * 86400 + b) (by omega) (by omega), wi64 (n := (gI L i + 1) * 86400 + b + (i : Int)) (by omega) (by omega), wi64 (by omega) (by omega)]
  rfl
 have hl := endW_lim T hi
 rw [e, wi64 (n := endW b L i - 1) (by omega) (by omega), wi64 (n := endW b L i - 1 - bf) (by omega) (by omega), wi64 (n := endW b L i + af) (by omega) (by omega)]
theorem cnt_next {b l : Int} {L : List Int} (T : Tab b l L) {i : Nat} (hi : i < L.length) : cntD (gI L i + 1) L = i + 1 := by
 refine cnt_uniq _ L (i + 1) (by omega) (fun q hq => ?_) (fun q h1 h2 => ?_)
 ·by_cases h : q = i
  ·subst h; omega
  ·have := T.srt q i (by omega) hi; omega
 ·have := T.srt i q (by omega) h2; omega
theorem cnt_here {b l : Int} {L : List Int} (T : Tab b l L) {i : Nat} (hi : i < L.length) : cntD (gI L i) L = i := by
 refine cnt_uniq _ L i (by omega) (fun q hq => T.srt q i hq hi) (fun q h1 h2 => ?_)
 by_cases h : q = i
 ·subst h; omega
 ·have := T.srt i q (by omega) h2; omega
def badW (k bf af b : Int) (L : List Int) (i : Nat) : Bool := decide (k ≠ 0) && decide (endW b L i - 1 - bf < endW b L (i - 1) + af)
def fitW_ (k bf af b : Int) (L : List Int) : Nat → Nat → Bool
 | _, 0 => true
 | i, n + 1 => !badW k bf af b L i && fitW_ k bf af b L (i + 1) n
theorem sfits_loop (N : Nat) {b l : Int} {L : List Int} (T : Tab b l L) {k bf af : Int} (f0 : 0 ≤ bf) (f1 : bf ≤ 43200) (a0 : 0 ≤ af) (a1 : af ≤ 43200) : ∀ (n M i : Nat), 1 ≤ i → i + n = L.length → n < M →
  iter (b_147_0 N) M ((), (), endW b L (i - 1) + af, (L.length : Int), (i : Int), (k, bf, af), (b, l, L)) = bif fitW_ k bf af b L i n then some (.inr ()) else some (.inl (some 9)) := by
 intro n
 have hlen := T.len
 induction n with
 | zero =>
  intro M i h1 hi hM
  obtain ⟨M, rfl⟩ : ∃ m, M = m + 1 := ⟨M - 1, by omega⟩
  show b_147_0 N (iter (b_147_0 N) M) _ = _
  unfold b_147_0
  simp only
  rw [decide_eq_false (show ¬ (i : Int) < (L.length : Int) by omega)]; rfl
 | succ n ih =>
  intro M i h1 hi hM
  obtain ⟨M, rfl⟩ : ∃ m, M = m + 1 := ⟨M - 1, by omega⟩
  have ih' := ih M (i + 1) (by omega) (by omega) (by omega)
  rw [Nat.add_sub_cancel] at ih'
  show b_147_0 N (iter (b_147_0 N) M) _ = _
  generalize iter (b_147_0 N) M = I at ih' ⊢
  unfold b_147_0
  simp only
  rw [decide_eq_true (show (i : Int) < (L.length : Int) by omega), swind_at N T k f0 f1 a0 a1 (by omega), wi64 (n := (i : Int) + 1) (by omega) (by omega), show (i : Int) + 1 = ((i + 1 : Nat) : Int) by omega]
  simp only [cond_true, Option.bind_some]
  rw [ih']
  show _ = bif (!(decide (k ≠ 0) && decide (endW b L i - 1 - bf < endW b L (i - 1) + af)) && fitW_ k bf af b L (i + 1) n) then _ else _
  by_cases hk : k = 0
  ·subst hk
   rw [bne_self_eq_false, decide_eq_false (show ¬ ((0 : Int) ≠ 0) by simp)]; rfl
  ·rw [bne_iff_ne.2 hk, decide_eq_true hk]
   cases decide (endW b L i - 1 - bf < endW b L (i - 1) + af) <;> rfl
def fitsE (k bf af b l : Int) (L : List Int) : Int := if SmOk k bf af ∧ tabB b l L = true then (bif fitW_ k bf af b L 1 (L.length - 1) then 0 else 9) else 1
theorem sfits_at {N : Nat} (hN : 100 ≤ N) {b l : Int} {L : List Int} (hL : L.length ≤ 40) (k bf af : Int) : f_147 N k bf af b l L = some (if fitsE k bf af b l L = 0 then none else some (fitsE k bf af b l L)) := by
 unfold f_147
 rw [scheck_at]
 by_cases hs : SmOk k bf af
 rotate_left
 ·have hE : fitsE k bf af b l L = 1 := by unfold fitsE; rw [if_neg (fun h => hs h.1)]
  rw [if_neg hs, hE]; rfl
 rw [if_pos hs]
 simp only [Option.bind_some, Option.isNone_none, Bool.not_true, cond_false]
 rw [lcheck_at (by omega) (by omega)]
 cases ht : tabB b l L with
 | false =>
  have hE : fitsE k bf af b l L = 1 := by unfold fitsE; rw [if_neg (fun h => by rw [ht] at h; cases h.2)]
  rw [hE]; rfl
 | true =>
  have T := tab_of ht
  have hlen := T.len
  have hE : fitsE k bf af b l L = bif fitW_ k bf af b L 1 (L.length - 1) then 0 else 9 := by unfold fitsE; rw [if_pos ⟨hs, ht⟩]
  rw [hE]
  simp only [cond_true, Option.bind_some, Option.isNone_none, Bool.not_true, cond_false]
  have hs' := hs
  unfold SmOk at hs'
  obtain ⟨⟨f0, f1, a0, a1⟩, _⟩ := hs'
  have hlp : l_147_0 N ((), (), -9223372036854775808, (L.length : Int), 0, (k, bf, af), (b, l, L)) = bif fitW_ k bf af b L 1 (L.length - 1) then some (.inr ()) else some (.inl (some 9)) := by
   obtain ⟨M, rfl⟩ : ∃ m, N = m + 1 := ⟨N - 1, by omega⟩
   show b_147_0 (M + 1) (iter (b_147_0 (M + 1)) M) ((), (), -9223372036854775808, (L.length : Int), ((0 : Nat) : Int), (k, bf, af), (b, l, L)) = _
   by_cases h0 : L.length = 0
   ·unfold b_147_0
    simp only
    rw [decide_eq_false (show ¬ ((0 : Nat) : Int) < (L.length : Int) by omega), h0]; rfl
   ·have hlim := endW_lim T (show 0 < L.length by omega)
    have hl := sfits_loop (M + 1) T (k := k) f0 f1 a0 a1 (L.length - 1) M 1 (Nat.le_refl _) (by omega) (by omega)
    rw [Nat.sub_self] at hl
    rw [← hl]
    generalize iter (b_147_0 (M + 1)) M = I
    unfold b_147_0
    simp only
    rw [decide_eq_true (show ((0 : Nat) : Int) < (L.length : Int) by omega), swind_at (M + 1) T k f0 f1 a0 a1 (show 0 < L.length by omega)]
    simp only [cond_true, Option.bind_some]
    rw [decide_eq_false (show ¬ endW b L 0 - 1 - bf < -9223372036854775808 by omega)]
    cases (k != 0) <;> rfl
  rw [hlp]
  cases fitW_ k bf af b L 1 (L.length - 1) <;> rfl
def lenS (bf af : Int) : Int := (bf + 1 + af) * 1000000000
def softQ (Ln g : Int) : Int := g * (2000000000 * g / Ln)
def lagV (k Ln g : Int) : Int :=
 if k = 1 then 1000000000 - (Ln - g) * 1000000000 / Ln
 else if g ≥ Ln / 2 then 1000000000 - softQ Ln (Ln - g) / Ln
 else if softQ Ln g % Ln > 0 then softQ Ln g / Ln + 1 else softQ Ln g / Ln
def LagOk (k bf af g : Int) : Prop := SmOk k bf af ∧ k ≠ 0 ∧ 0 ≤ g ∧ g ≤ lenS bf af
instance (k bf af g : Int) : Decidable (LagOk k bf af g) := by unfold LagOk; infer_instance
theorem i64B_t {x : Int} (h0 : -9223372036854775808 ≤ x) (h1 : x < 9223372036854775808) : i64B x = true := decide_eq_true ⟨h0, h1⟩
theorem part_le {a g Ln : Int} (a0 : 0 ≤ a) (g0 : 0 ≤ g) (h : g ≤ Ln) (hL : 0 < Ln) : 0 ≤ a * g / Ln ∧ a * g / Ln ≤ a := by
 refine ⟨Int.ediv_nonneg (Int.mul_nonneg a0 g0) (by omega), ?_⟩
 have h1 := Int.ediv_le_ediv hL (Int.mul_le_mul_of_nonneg_left h a0)
 rwa [Int.mul_ediv_cancel _ (by omega)] at h1
theorem softQ_lim {Ln g : Int} (g0 : 0 ≤ g) (h : g ≤ Ln) (hL : 0 < Ln) (hL2 : Ln ≤ 86401000000000) : 0 ≤ 2000000000 * g / Ln ∧ 2000000000 * g / Ln ≤ 2000000000 ∧ 0 ≤ softQ Ln g ∧ softQ Ln g ≤ 172802000000000000000000 ∧ 0 ≤ softQ Ln g / Ln ∧ softQ Ln g / Ln ≤ 2000000000 := by
 obtain ⟨r0, r1⟩ := part_le (a := 2000000000) (by decide) g0 h hL
 have q0 : 0 ≤ softQ Ln g := Int.mul_nonneg g0 r0
 have q1 : softQ Ln g ≤ 86401000000000 * 2000000000 := Int.mul_le_mul (by omega) r1 r0 (by decide)
 have q2 := part_le (a := 2000000000 * g / Ln) r0 g0 h hL
 have e : softQ Ln g = 2000000000 * g / Ln * g := Int.mul_comm _ _
 rw [e]
 rw [e] at q0 q1
 exact ⟨r0, r1, q0, by omega, q2.1, Int.le_trans q2.2 r1⟩
theorem soft_at (N : Nat) {Ln g : Int} (g0 : 0 ≤ g) (h : g ≤ Ln) (hL : 0 < Ln) (hL2 : Ln ≤ 86401000000000) : f_191 N g Ln = some (softQ Ln g / Ln, softQ Ln g % Ln, none) := by
 obtain ⟨r0, r1, q0, q1, s0, s1⟩ := softQ_lim g0 h hL hL2
 have e1 : mdF 2000000000 g Ln = some (2000000000 * g / Ln, none) := by
  unfold mdF fitP
  rw [i64B_t (x := 2000000000) (by decide) (by decide), i64B_t (x := g) (by omega) (by omega), i64B_t (x := Ln) (by omega) (by omega), decide_eq_false (by omega), i64B_t (x := 2000000000 * g / Ln) (by omega) (by omega)]; rfl
 have e2 : wmulF g (2000000000 * g / Ln) = some (hlD (softQ Ln g)) := by
  unfold wmulF
  rw [i64B_t (x := g) (by omega) (by omega), i64B_t (x := 2000000000 * g / Ln) (by omega) (by omega)]; rfl
 have e3 : wdivF (((hlD (softQ Ln g)).1, (hlD (softQ Ln g)).2), Ln) = some (hlD (softQ Ln g / Ln), softQ Ln g % Ln, none) := by
  unfold wdivF
  have hv : hlV ((hlD (softQ Ln g)).1, (hlD (softQ Ln g)).2) = softQ Ln g := hlD_hlV _
  have u : u64B (hlD (softQ Ln g)).2 = true := u64B_iff.2 (by unfold hlD; simp only; omega)
  have w : i64B (hlD (softQ Ln g)).1 = true := i64B_t (by unfold hlD; simp only; omega) (by unfold hlD; simp only; omega)
  show (bif i64B (hlD (softQ Ln g)).1 && (u64B (hlD (softQ Ln g)).2 && i64B Ln) then some (bif decide (Ln < 1) then ((0, 0), 0, some 1) else (hlD (hlV ((hlD (softQ Ln g)).1, (hlD (softQ Ln g)).2) / Ln), hlV ((hlD (softQ Ln g)).1, (hlD (softQ Ln g)).2) % Ln, none)) else none) = _
  rw [hv, u, w, i64B_t (x := Ln) (by omega) (by omega), decide_eq_false (show ¬ Ln < 1 by omega)]; rfl
 have e4 : wintF ((hlD (softQ Ln g / Ln)).1, (hlD (softQ Ln g / Ln)).2) = some (softQ Ln g / Ln, none) := by
  unfold wintF fitP
  have hv : hlV ((hlD (softQ Ln g / Ln)).1, (hlD (softQ Ln g / Ln)).2) = softQ Ln g / Ln := hlD_hlV _
  have u : u64B (hlD (softQ Ln g / Ln)).2 = true := u64B_iff.2 (by unfold hlD; simp only; omega)
  have w : i64B (hlD (softQ Ln g / Ln)).1 = true := i64B_t (by unfold hlD; simp only; omega) (by unfold hlD; simp only; omega)
  simp only [hv]
  rw [u, w, i64B_t (x := softQ Ln g / Ln) (by omega) (by omega)]; rfl
 unfold f_191
 rw [e1]
 simp only [Option.bind_some, Option.isNone_none, Bool.not_true, cond_false]
 rw [e2]
 simp only [Option.bind_some]
 rw [e3]
 simp only [Option.bind_some, Option.isNone_none, Bool.not_true, cond_false]
 rw [e4]; rfl
theorem smOk_lim {k bf af : Int} (h : SmOk k bf af) : 0 ≤ bf ∧ bf ≤ 43200 ∧ 0 ≤ af ∧ af ≤ 43200 ∧ 1000000000 ≤ lenS bf af ∧ lenS bf af ≤ 86401000000000 ∧ 0 ≤ k ∧ k ≤ 2 := by
 unfold SmOk at h
 unfold lenS; omega
theorem slag_at (N : Nat) (k bf af g : Int) : f_150 N k bf af g = some (if LagOk k bf af g then (lagV k (lenS bf af) g, none) else (0, some 1)) := by
 unfold f_150 f_190
 simp only [Option.bind_some]
 rw [scheck_at]
 by_cases hs : SmOk k bf af
 rotate_left
 ·rw [if_neg hs, if_neg (fun h => hs h.1)]; rfl
 obtain ⟨f0, f1, a0, a1, l0, l1, k0, k1⟩ := smOk_lim hs
 rw [if_pos hs, wi64 (n := bf + 1) (by omega) (by omega), wi64 (n := bf + 1 + af) (by omega) (by omega), wi64 (n := (bf + 1 + af) * 1000000000) (by omega) (by omega)]
 change Option.bind (some none) _ = _
 simp only [Option.bind_some, Option.isNone_none, Bool.not_true, cond_false]
 rw [show (bf + 1 + af) * 1000000000 = lenS bf af from rfl]
 generalize hLn : lenS bf af = Ln at l0 l1
 by_cases hk : k = 0
 ·rw [hk, beq_self_eq_true, if_neg (fun h => h.2.1 rfl)]; rfl
 rw [beq_false_of_ne hk, cond_false]
 by_cases g0 : g < 0
 ·rw [decide_eq_true g0, if_neg (by unfold LagOk; omega)]; rfl
 rw [decide_eq_false g0, cond_false]
 by_cases g1 : g > Ln
 ·rw [decide_eq_true g1, if_neg (by unfold LagOk; omega)]; rfl
 rw [decide_eq_false g1, cond_false, if_pos ⟨hs, hk, by omega, by omega⟩]
 unfold lagV
 by_cases hk1 : k = 1
 ·obtain ⟨p0, p1⟩ := part_le (a := 1000000000) (g := Ln - g) (Ln := Ln) (by decide) (by omega) (by omega) (by omega)
  rw [Int.mul_comm] at p0 p1
  have e1 : mdF (Ln - g) 1000000000 Ln = some ((Ln - g) * 1000000000 / Ln, none) := by
   unfold mdF fitP
   rw [i64B_t (x := 1000000000) (by decide) (by decide), i64B_t (x := Ln - g) (by omega) (by omega), i64B_t (x := Ln) (by omega) (by omega), decide_eq_false (by omega), i64B_t (x := (Ln - g) * 1000000000 / Ln) (by omega) (by omega)]; rfl
  rw [hk1, beq_self_eq_true, cond_true, if_pos rfl, wi64 (n := Ln - g) (by omega) (by omega), e1]
  simp only [Option.bind_some]
  rw [wi64 (by omega) (by omega)]
 rw [beq_false_of_ne hk1, cond_false, if_neg hk1, Int.tdiv_eq_ediv_of_nonneg (by omega), wi64 (n := Ln / 2) (by omega) (by omega)]
 by_cases hg : g ≥ Ln / 2
 ·obtain ⟨r0, r1, q0, q1, s0, s1⟩ := softQ_lim (g := Ln - g) (Ln := Ln) (by omega) (by omega) (by omega) l1
  rw [decide_eq_true hg, cond_true, if_pos hg, wi64 (n := Ln - g) (by omega) (by omega), soft_at N (by omega) (by omega) (by omega) l1]
  simp only [Option.bind_some]
  rw [wi64 (by omega) (by omega)]
 ·obtain ⟨r0, r1, q0, q1, s0, s1⟩ := softQ_lim (g := g) (Ln := Ln) (by omega) (by omega) (by omega) l1
  rw [decide_eq_false hg, cond_false, if_neg hg, soft_at N (by omega) (by omega) (by omega) l1]
  simp only [Option.bind_some]
  by_cases hr : softQ Ln g % Ln > 0
  ·rw [decide_eq_true hr, if_pos hr, cond_true, wi64 (by omega) (by omega)]
  ·rw [decide_eq_false hr, if_neg hr, cond_false]
theorem fitsE_zero {k bf af b l : Int} {L : List Int} (h : fitsE k bf af b l L = 0) : SmOk k bf af ∧ tabB b l L = true := by
 unfold fitsE at h
 by_cases hc : SmOk k bf af ∧ tabB b l L = true
 ·exact hc
 ·rw [if_neg hc] at h; cases h
end Go.Proofs.YthpljlpokmoeeaaGreatDoor.Mir
namespace Go.Proofs.YthpljlpokmoeeaaGreatDoor.Mir
open Go Go.RowKit
set_option maxRecDepth 100000
theorem utcE_zero {b l : Int} {L : List Int} {tai : Int} (h : utcE b l L tai = 0) : (-4611686018427387904 < tai ∧ tai < 4611686018427387904) ∧ secD b L (-50000) ≤ tai / 1000000000 ∧ tai / 1000000000 < secD b L l := by
 unfold utcE at h
 by_cases g1 : tai ≤ -4611686018427387904 ∨ tai ≥ 4611686018427387904
 ·rw [if_pos g1] at h; cases h
 rw [if_neg g1] at h
 by_cases g2 : tai / 1000000000 < secD b L (-50000)
 ·rw [if_pos g2] at h; cases h
 rw [if_neg g2] at h
 by_cases g3 : tai / 1000000000 ≥ secD b L l
 ·rw [if_pos g3] at h; cases h
 exact ⟨by omega, by omega, by omega⟩
theorem day_lim {b l : Int} {L : List Int} (T : Tab b l L) {tai : Int} (h : utcE b l L tai = 0) : -50000 ≤ dayS b L (tai / 1000000000) ∧ dayS b L (tai / 1000000000) < l := by
 obtain ⟨_, h1, h2⟩ := utcE_zero h
 obtain ⟨s1, s2⟩ := dayS_spec T (tai / 1000000000)
 have a := secD_lt (Int.lt_of_le_of_lt h1 s2)
 have c := secD_lt (Int.lt_of_le_of_lt s1 h2)
 omega
def outV (b : Int) (L : List Int) (tai : Int) : Int := tai - (b + cntD (dayS b L (tai / 1000000000)) L) * 1000000000
theorem plain_at {N : Nat} (hN : 33 ≤ N) {b l : Int} {L : List Int} (h : tabB b l L = true) {tai : Int} (t0 : -9223372036854775808 ≤ tai) (t1 : tai < 9223372036854775808) : f_148 N b l L tai = some (if utcE b l L tai = 0 then (outV b L tai, none) else (0, some (utcE b l L tai))) := by
 have T := tab_of h
 unfold f_148
 rw [utc_at hN h t0 t1]
 by_cases hE : utcE b l L tai = 0
 rotate_left
 ·rw [if_neg hE, if_neg hE]; rfl
 rw [if_pos hE, if_pos hE]
 obtain ⟨d0, d1⟩ := day_lim T hE
 obtain ⟨⟨u0, u1⟩, _⟩ := utcE_zero hE
 simp only [Option.bind_some, Option.isNone_none, Bool.not_true, cond_false]
 rw [ahead_at hN h d0 d1]
 simp only [Option.bind_some, Option.isNone_none, Bool.not_true, cond_false]
 have c1 := cntD_le (dayS b L (tai / 1000000000)) L
 have c2 := T.len
 have c3 := T.b0
 have c4 := T.b1
 rw [wi64 (n := (b + (cntD (dayS b L (tai / 1000000000)) L : Int)) * 1000000000) (by omega) (by omega), wi64 (n := tai - _) (by omega) (by omega)]
 rfl
def fromN (bf b : Int) (L : List Int) (i : Nat) : Int := (endW b L i - 1 - bf) * 1000000000
def untilN (af b : Int) (L : List Int) (i : Nat) : Int := (endW b L i + af) * 1000000000
def winF (bf af b : Int) (L : List Int) (tai : Int) : Nat → Nat → Option Nat
 | _, 0 => none
 | i, n + 1 => if fromN bf b L i ≤ tai ∧ tai < untilN af b L i then some i else winF bf af b L tai (i + 1) n
theorem winF_succ (bf af b : Int) (L : List Int) (tai : Int) (i n : Nat) : winF bf af b L tai i (n + 1) = if fromN bf b L i ≤ tai ∧ tai < untilN af b L i then some i else winF bf af b L tai (i + 1) n := rfl
def atI (k bf af b : Int) (L : List Int) (tai : Int) (i : Nat) : Int := tai - (b + i) * 1000000000 - lagV k (lenS bf af) (tai - fromN bf b L i)
theorem lagV_lim {k Ln g : Int} (l0 : 1000000000 ≤ Ln) (l1 : Ln ≤ 86401000000000) (g0 : 0 ≤ g) (g1 : g ≤ Ln) : -1000000000 ≤ lagV k Ln g ∧ lagV k Ln g ≤ 2000000001 := by
 obtain ⟨_, _, _, _, s0, s1⟩ := softQ_lim (g := g) (Ln := Ln) g0 g1 (by omega) l1
 obtain ⟨_, _, _, _, s2, s3⟩ := softQ_lim (g := Ln - g) (Ln := Ln) (by omega) (by omega) (by omega) l1
 obtain ⟨p0, p1⟩ := part_le (a := 1000000000) (g := Ln - g) (Ln := Ln) (by decide) (by omega) (by omega) (by omega)
 rw [Int.mul_comm] at p0 p1
 unfold lagV
 split
 ·omega
 ·split
  ·omega
  ·split <;> omega
theorem lagOk_in {k bf af b : Int} {L : List Int} {tai : Int} {i : Nat} (hs : SmOk k bf af) (hk : k ≠ 0) (h : fromN bf b L i ≤ tai ∧ tai < untilN af b L i) : LagOk k bf af (tai - fromN bf b L i) := by
 unfold fromN untilN at h
 refine ⟨hs, hk, by unfold fromN; omega, ?_⟩
 unfold lenS fromN; omega
theorem sat_loop (N : Nat) {b l : Int} {L : List Int} (T : Tab b l L) {k bf af : Int} (hs : SmOk k bf af) (hk : k ≠ 0) {tai : Int} (t0 : -4611686018427387904 < tai) (t1 : tai < 4611686018427387904) (o : Int) : ∀ (n M i : Nat), i + n = L.length → n < M →
  iter (b_79_0 N) M (tai, (), (), o, (L.length : Int), (i : Int), (k, bf, af), (b, l, L)) = some (match winF bf af b L tai i n with | some j => .inl (atI k bf af b L tai j, none) | none => .inr o) := by
 obtain ⟨f0, f1, a0, a1, l0, l1, _⟩ := smOk_lim hs
 have hlen := T.len
 have b0 := T.b0
 have b1 := T.b1
 intro n
 induction n with
 | zero =>
  intro M i hi hM
  obtain ⟨M, rfl⟩ : ∃ m, M = m + 1 := ⟨M - 1, by omega⟩
  show b_79_0 N (iter (b_79_0 N) M) _ = _
  unfold b_79_0
  simp only
  rw [decide_eq_false (show ¬ (i : Int) < (L.length : Int) by omega)]; rfl
 | succ n ih =>
  intro M i hi hM
  obtain ⟨M, rfl⟩ : ∃ m, M = m + 1 := ⟨M - 1, by omega⟩
  have ih' := ih M (i + 1) (by omega) (by omega)
  have hl := endW_lim T (show i < L.length by omega)
  have eF : IntKind.i64.wrap ((endW b L i - 1 - bf) * 1000000000) = fromN bf b L i := wi64 (by omega) (by omega)
  have eU : IntKind.i64.wrap ((endW b L i + af) * 1000000000) = untilN af b L i := wi64 (by omega) (by omega)
  have hF : fromN bf b L i = (endW b L i - 1 - bf) * 1000000000 := rfl
  have hU : untilN af b L i = (endW b L i + af) * 1000000000 := rfl
  show b_79_0 N (iter (b_79_0 N) M) _ = _
  generalize iter (b_79_0 N) M = I at ih' ⊢
  unfold b_79_0
  simp only
  rw [decide_eq_true (show (i : Int) < (L.length : Int) by omega), swind_at N T k f0 f1 a0 a1 (by omega), wi64 (n := (i : Int) + 1) (by omega) (by omega), show (i : Int) + 1 = ((i + 1 : Nat) : Int) by omega]
  simp only [cond_true, Option.bind_some]
  rw [eF, eU, ih', winF_succ]
  by_cases h1 : tai < fromN bf b L i
  ·rw [decide_eq_true h1, cond_true, if_neg (by omega)]
  rw [decide_eq_false h1, cond_false]
  by_cases h2 : tai ≥ untilN af b L i
  ·rw [decide_eq_true h2, cond_true, if_neg (by omega)]
  have hin : fromN bf b L i ≤ tai ∧ tai < untilN af b L i := by omega
  have hok := lagOk_in hs hk hin
  have hlg := lagV_lim (k := k) (g := tai - fromN bf b L i) l0 l1 hok.2.2.1 hok.2.2.2
  rw [decide_eq_false h2, cond_false, if_pos hin, wi64 (n := tai - fromN bf b L i) (by omega) (by omega), slag_at, if_pos hok]
  simp only [Option.bind_some, Option.isNone_none, Bool.not_true, cond_false]
  rw [wi64 (n := b + (i : Int)) (by omega) (by omega), wi64 (n := (b + (i : Int)) * 1000000000) (by omega) (by omega), wi64 (n := tai - (b + (i : Int)) * 1000000000) (by omega) (by omega), wi64 (by omega) (by omega)]
  rfl
def atV (k bf af b : Int) (L : List Int) (tai : Int) : Int := if k = 0 then outV b L tai else match winF bf af b L tai 0 L.length with | some j => atI k bf af b L tai j | none => outV b L tai
theorem sat_at {N : Nat} (hN : 100 ≤ N) {b l : Int} {L : List Int} (hL : L.length ≤ 40) (k bf af : Int) {tai : Int} (t0 : -9223372036854775808 ≤ tai) (t1 : tai < 9223372036854775808) :
  f_79 N k bf af b l L tai = some (if fitsE k bf af b l L = 0 then (if utcE b l L tai = 0 then (atV k bf af b L tai, none) else (0, some (utcE b l L tai))) else (0, some (fitsE k bf af b l L))) := by
 unfold f_79
 rw [sfits_at hN hL]
 by_cases hE : fitsE k bf af b l L = 0
 rotate_left
 ·rw [if_neg hE, if_neg hE]; rfl
 obtain ⟨hs, ht⟩ := fitsE_zero hE
 rw [if_pos hE, if_pos hE]
 simp only [Option.bind_some, Option.isNone_none, Bool.not_true, cond_false]
 rw [plain_at (by omega) ht t0 t1]
 by_cases hU : utcE b l L tai = 0
 rotate_left
 ·rw [if_neg hU, if_neg hU]; rfl
 rw [if_pos hU, if_pos hU]
 simp only [Option.bind_some, Option.isNone_none, Bool.not_true, cond_false]
 unfold atV
 by_cases hk : k = 0
 ·rw [if_pos hk, hk]; rfl
 obtain ⟨⟨u0, u1⟩, _⟩ := utcE_zero hU
 have hlp := sat_loop N (tab_of ht) hs hk u0 u1 (outV b L tai) L.length N 0 (by omega) (by omega)
 have hlp' : l_79_0 N (tai, (), (), outV b L tai, (L.length : Int), 0, (k, bf, af), (b, l, L)) = some (match winF bf af b L tai 0 L.length with | some j => .inl (atI k bf af b L tai j, none) | none => .inr (outV b L tai)) := hlp
 rw [beq_false_of_ne hk, cond_false, hlp', if_neg hk]
 cases winF bf af b L tai 0 L.length <;> rfl
end Go.Proofs.YthpljlpokmoeeaaGreatDoor.Mir
namespace Go.Proofs.YthpljlpokmoeeaaGreatDoor.Mir
open Go Go.RowKit
set_option maxRecDepth 100000
theorem softQ_half {Ln h : Int} (h0 : 0 ≤ h) (h1 : 2 * h ≤ Ln) (hL : 0 < Ln) : 0 ≤ softQ Ln h / Ln ∧ softQ Ln h / Ln ≤ 500000000 := by
 obtain ⟨r0, _⟩ := part_le (a := 2000000000) (g := h) (Ln := Ln) (by decide) h0 (by omega) hL
 have r1 : 2000000000 * h / Ln ≤ 1000000000 := by
  have e := Int.ediv_le_ediv hL (show 2000000000 * h ≤ 1000000000 * Ln by omega)
  rwa [Int.mul_ediv_cancel _ (by omega)] at e
 have q0 : 0 ≤ softQ Ln h := Int.mul_nonneg h0 r0
 have q1 : softQ Ln h ≤ h * 1000000000 := Int.mul_le_mul_of_nonneg_left r1 h0
 refine ⟨Int.ediv_nonneg q0 (by omega), ?_⟩
 have e := Int.ediv_le_ediv hL (show softQ Ln h ≤ 500000000 * Ln by omega)
 rwa [Int.mul_ediv_cancel _ (by omega)] at e
theorem lagV_01 {k Ln g : Int} (l0 : 1000000000 ≤ Ln) (l2 : Ln % 2 = 0) (g0 : 0 ≤ g) (g1 : g ≤ Ln) : 0 ≤ lagV k Ln g ∧ lagV k Ln g ≤ 1000000000 := by
 obtain ⟨p0, p1⟩ := part_le (a := 1000000000) (g := Ln - g) (Ln := Ln) (by decide) (by omega) (by omega) (by omega)
 rw [Int.mul_comm] at p0 p1
 unfold lagV
 split
 ·omega
 ·split
  ·obtain ⟨s0, s1⟩ := softQ_half (Ln := Ln) (h := Ln - g) (by omega) (by omega) (by omega)
   omega
  ·obtain ⟨s0, s1⟩ := softQ_half (Ln := Ln) (h := g) (by omega) (by omega) (by omega)
   split <;> omega
theorem lenS_even (bf af : Int) : lenS bf af % 2 = 0 := by unfold lenS; omega
theorem cnt_in {b l : Int} {L : List Int} (T : Tab b l L) {bf af tai : Int} (f0 : 0 ≤ bf) (f1 : bf ≤ 43200) (a0 : 0 ≤ af) (a1 : af ≤ 43200) {i : Nat} (hi : i < L.length) (h : fromN bf b L i ≤ tai ∧ tai < untilN af b L i) : cntD (dayS b L (tai / 1000000000)) L = i ∨ cntD (dayS b L (tai / 1000000000)) L = i + 1 := by
 unfold fromN untilN at h
 obtain ⟨s1, s2⟩ := dayS_spec T (tai / 1000000000)
 have hs : endW b L i - 1 - bf ≤ tai / 1000000000 ∧ tai / 1000000000 < endW b L i + af := by omega
 have e0 : secD b L (gI L i) = endW b L i - 86401 := by unfold secD endW; rw [cnt_here T hi]; omega
 have e1 : secD b L (gI L i + 1) = endW b L i := by unfold secD endW; rw [cnt_next T hi]; omega
 have e2 := secD_step b L (gI L i + 1)
 have d0 := secD_lt (show secD b L (gI L i) < secD b L (dayS b L (tai / 1000000000) + 1) by omega)
 have d1 := secD_lt (show secD b L (dayS b L (tai / 1000000000)) < secD b L (gI L i + 1 + 1) by omega)
 by_cases hd : dayS b L (tai / 1000000000) = gI L i
 ·rw [hd]; exact .inl (cnt_here T hi)
 ·rw [show dayS b L (tai / 1000000000) = gI L i + 1 by omega]; exact .inr (cnt_next T hi)
theorem off_in {b l : Int} {L : List Int} (T : Tab b l L) {k bf af tai : Int} (hs : SmOk k bf af) (hk : k ≠ 0) {i : Nat} (hi : i < L.length) (h : fromN bf b L i ≤ tai ∧ tai < untilN af b L i) : -1000000000 ≤ atI k bf af b L tai i - outV b L tai ∧ atI k bf af b L tai i - outV b L tai ≤ 1000000000 := by
 obtain ⟨f0, f1, a0, a1, l0, l1, _⟩ := smOk_lim hs
 have hok := lagOk_in hs hk h
 obtain ⟨g0, g1⟩ := lagV_01 (k := k) l0 (lenS_even bf af) hok.2.2.1 hok.2.2.2
 unfold atI outV
 rcases cnt_in T f0 f1 a0 a1 hi h with e | e <;> rw [e] <;> omega
theorem winF_some {bf af b : Int} {L : List Int} {tai : Int} : ∀ {n i j : Nat}, winF bf af b L tai i n = some j → i ≤ j ∧ j < i + n ∧ fromN bf b L j ≤ tai ∧ tai < untilN af b L j
 | 0, _, _, h => by cases h
 | n + 1, i, j, h => by
  rw [winF_succ] at h
  by_cases hc : fromN bf b L i ≤ tai ∧ tai < untilN af b L i
  ·rw [if_pos hc] at h
   obtain rfl := Option.some.inj h
   exact ⟨by omega, by omega, hc.1, hc.2⟩
  ·rw [if_neg hc] at h
   obtain ⟨h1, h2, h3⟩ := winF_some h
   exact ⟨by omega, by omega, h3⟩
end Go.Proofs.YthpljlpokmoeeaaGreatDoor.Mir
namespace Go.Proofs.YthpljlpokmoeeaaGreatDoor.Mir
open Go Go.RowKit
set_option maxRecDepth 100000
end Go.Proofs.YthpljlpokmoeeaaGreatDoor.Mir
namespace Go.Proofs.YthpljlpokmoeeaaGreatDoor.Mir
open Go Go.RowKit
set_option maxRecDepth 100000
theorem bif_t {A : Type} {c : Bool} {x y : A} (h : c = true) : (bif c then x else y) = x := by rw [h]; rfl
theorem bif_f {A : Type} {c : Bool} {x y : A} (h : c = false) : (bif c then x else y) = y := by rw [h]; rfl
theorem tchkT_at {N : Nat} (hN : 3000 ≤ N) {t : TenT} (h : TFit t) : f_22 N t.1 t.2.1 t.2.2.1 t.2.2.2.1 t.2.2.2.2.1 t.2.2.2.2.2.1 t.2.2.2.2.2.2.1 t.2.2.2.2.2.2.2.1 t.2.2.2.2.2.2.2.2.1 t.2.2.2.2.2.2.2.2.2.1 t.2.2.2.2.2.2.2.2.2.2.1 t.2.2.2.2.2.2.2.2.2.2.2.1 t.2.2.2.2.2.2.2.2.2.2.2.2.1 t.2.2.2.2.2.2.2.2.2.2.2.2.2.1 t.2.2.2.2.2.2.2.2.2.2.2.2.2.2.1 t.2.2.2.2.2.2.2.2.2.2.2.2.2.2.2.1 t.2.2.2.2.2.2.2.2.2.2.2.2.2.2.2.2.1 t.2.2.2.2.2.2.2.2.2.2.2.2.2.2.2.2.2 = some (bif mayTT t then none else some 1) := tchk_at hN _ _ _ _ _ _ _ _ _ _ _ _ _ _ _ _ h.zL h.ta
theorem tcop_at (N : Nat) (t : TenT) (h : (t.2.2.2.2.2.2.2.2.2.2.2.1).length ≤ 1000) : f_75 N t.1 t.2.1 t.2.2.1 t.2.2.2.1 t.2.2.2.2.1 t.2.2.2.2.2.1 t.2.2.2.2.2.2.1 t.2.2.2.2.2.2.2.1 t.2.2.2.2.2.2.2.2.1 t.2.2.2.2.2.2.2.2.2.1 t.2.2.2.2.2.2.2.2.2.2.1 t.2.2.2.2.2.2.2.2.2.2.2.1 t.2.2.2.2.2.2.2.2.2.2.2.2.1 t.2.2.2.2.2.2.2.2.2.2.2.2.2.1 t.2.2.2.2.2.2.2.2.2.2.2.2.2.2.1 t.2.2.2.2.2.2.2.2.2.2.2.2.2.2.2.1 t.2.2.2.2.2.2.2.2.2.2.2.2.2.2.2.2.1 t.2.2.2.2.2.2.2.2.2.2.2.2.2.2.2.2.2 = some t := by
 unfold f_75
 rw [decide_eq_true (show 0 ≤ (0 : Int) ∧ (0 : Int) ≤ ((t.2.2.2.2.2.2.2.2.2.2.2.1).length : Int) by omega), decide_eq_true (show (0 : Int) = (0 : Int) from rfl), decide_eq_true (show 0 ≤ (0 : Int) ∧ (0 : Int) ≤ (0 : Int) by omega), decide_eq_true (show ((List.drop (Int.toNat (0 : Int)) (List.take (Int.toNat (0 : Int)) (t.2.2.2.2.2.2.2.2.2.2.2.1))).length + (t.2.2.2.2.2.2.2.2.2.2.2.1).length) * 32 ≤ 140737488355328 by simp; omega)]
 simp only [cond_true]
 rw [show List.drop (Int.toNat (0 : Int)) (List.take (Int.toNat (0 : Int)) (t.2.2.2.2.2.2.2.2.2.2.2.1)) ++ (t.2.2.2.2.2.2.2.2.2.2.2.1) = (t.2.2.2.2.2.2.2.2.2.2.2.1) by simp]
structure TMay (t : TenT) : Prop where
 q : qmayB (t.2.2.2.2.2.1) = true
 u : umayB (t.2.2.2.2.2.2.1) (t.2.2.2.2.2.2.2.1) = true
 z : mayZ (t.2.2.2.2.2.2.2.2.2.1) (t.2.2.2.2.2.2.2.2.2.2.1) (t.2.2.2.2.2.2.2.2.2.2.2.1) = true
 p : pauseB (t.2.2.2.2.2.2.2.2.2.2.2.2.1) (t.2.2.2.2.2.2.2.2.2.2.2.2.2.1) (t.2.2.2.2.2.2.2.2.2.2.2.2.2.2.1) = true
 f : floorB (t.2.2.2.2.2.2.2.2.2.2.2.2.2.2.2.1) (t.2.2.2.2.2.2.2.2.2.2.2.2.2.2.2.2.1) (t.2.2.2.2.2.1) = true
 s : smayB (t.2.2.1) (t.2.2.2.1) (t.2.2.2.2.1) = true
theorem mayTT_ok {t : TenT} (h : mayTT t = true) : TMay t := by
 simp only [mayTT, mayT, mayP, Bool.and_eq_true] at h
 exact ⟨h.2.1.2.1, h.2.1.2.2.1, h.2.1.2.2.2, h.2.2.1, h.2.2.2.1, h.2.1.1⟩
def satD (k bf af b l : Int) (L : List Int) (v : Int) : Int × Option Int := if fitsE k bf af b l L = 0 then (if utcE b l L v = 0 then (atV k bf af b L v, none) else (0, some (utcE b l L v))) else (0, some (fitsE k bf af b l L))
def viewT (t : TenT) (tai : Int) : Int × Option Int := viewD (t.2.2.2.2.2.2.2.2.2.2.2.2.1) (t.2.2.2.2.2.2.2.2.2.2.2.2.2.1) (t.2.2.2.2.2.2.2.2.2.2.2.2.2.2.1) tai
def trueD (t : TenT) (b l : Int) (L : List Int) (tai : Int) : Int × Option Int :=
 if mayTT t = true then (match (viewT t tai).2 with | some e => (0, some e) | none => satD (t.2.2.1) (t.2.2.2.1) (t.2.2.2.2.1) b l L (viewT t tai).1) else (0, some 1)
theorem viewD_rng {on : Bool} {a lost t : Int} (h : (viewD on a lost t).2 = none) : -4611686018427387904 < (viewD on a lost t).1 ∧ (viewD on a lost t).1 < 4611686018427387904 := by
 unfold viewD at h ⊢
 split at h
 ·cases h
 ·split at h
  ·rename_i h1 h2
   rw [if_neg h1, if_pos h2]
   exact timeB_rng h2
  ·cases h
theorem ttrue_at {N : Nat} (hN : 3000 ≤ N) {t : TenT} (h : TFit t) {b l : Int} {L : List Int} (hL : L.length ≤ 40) {tai : Int} (ht : R64 tai) : f_25 N t.1 t.2.1 t.2.2.1 t.2.2.2.1 t.2.2.2.2.1 t.2.2.2.2.2.1 t.2.2.2.2.2.2.1 t.2.2.2.2.2.2.2.1 t.2.2.2.2.2.2.2.2.1 t.2.2.2.2.2.2.2.2.2.1 t.2.2.2.2.2.2.2.2.2.2.1 t.2.2.2.2.2.2.2.2.2.2.2.1 t.2.2.2.2.2.2.2.2.2.2.2.2.1 t.2.2.2.2.2.2.2.2.2.2.2.2.2.1 t.2.2.2.2.2.2.2.2.2.2.2.2.2.2.1 t.2.2.2.2.2.2.2.2.2.2.2.2.2.2.2.1 t.2.2.2.2.2.2.2.2.2.2.2.2.2.2.2.2.1 t.2.2.2.2.2.2.2.2.2.2.2.2.2.2.2.2.2 b l L tai = some (trueD t b l L tai) := by
 unfold f_25 trueD
 rw [tchkT_at hN h]
 simp only [Option.bind_some]
 cases hm : mayTT t with
 | false => rfl
 | true =>
  have hp := pauseB_rng (mayTT_ok hm).p
  simp only [cond_true, Option.isNone_none, Bool.not_true, cond_false, if_true]
  refine (bindP _ _ _ (pauview_at N (t.2.2.2.2.2.2.2.2.2.2.2.2.1) h.ta ht ⟨by omega, by omega⟩)).trans ?_
  have hr := fun h => viewD_rng (on := t.2.2.2.2.2.2.2.2.2.2.2.2.1) (a := t.2.2.2.2.2.2.2.2.2.2.2.2.2.1) (lost := t.2.2.2.2.2.2.2.2.2.2.2.2.2.2.1) (t := tai) h
  unfold viewT
  generalize viewD (t.2.2.2.2.2.2.2.2.2.2.2.2.1) (t.2.2.2.2.2.2.2.2.2.2.2.2.2.1) (t.2.2.2.2.2.2.2.2.2.2.2.2.2.2.1) tai = V at hr ⊢
  obtain ⟨v, e⟩ := V
  cases e with
  | some e => rfl
  | none =>
   have hr := hr rfl
   simp only [Option.isNone_none, Bool.not_true, cond_false] at hr ⊢
   refine (bindP _ _ _ (sat_at (N := N) (by omega) hL _ _ _ (tai := v) (by omega) (by omega))).trans ?_
   rfl
def coarseD (t : TenT) (v : Int) : Int × Option Int :=
 match (fuzzD (t.2.2.2.2.2.2.1) (t.2.2.2.2.2.2.2.1) (t.2.1) v).2 with
 | some e => (0, some e)
 | none => if qmayB (t.2.2.2.2.2.1) = true then fit64 ((fuzzD (t.2.2.2.2.2.2.1) (t.2.2.2.2.2.2.2.1) (t.2.1) v).1 / (t.2.2.2.2.2.1) * (t.2.2.2.2.2.1)) else (0, some 1)
theorem fit64_rng {s : Int} (h : (fit64 s).2 = none) : (fit64 s).1 = s ∧ R64 s := by
 unfold fit64 at h ⊢
 cases hb : rB s with
 | true => exact ⟨rfl, rB_iff.1 hb⟩
 | false => rw [hb] at h; cases h
theorem fuzzD_rng {w c : Int} {k : List Int} {v : Int} (h : (fuzzD w c k v).2 = none) : R64 (fuzzD w c k v).1 ∧ v - w ≤ (fuzzD w c k v).1 ∧ (fuzzD w c k v).1 ≤ v := by
 unfold fuzzD at h ⊢
 split at h
 ·rename_i hu
  rw [if_pos hu]
  have hn := numS_rng k (v / c) (umayB_rng hu).1.1
  obtain ⟨h1, h2⟩ := fit64_rng h
  rw [h1]
  exact ⟨h2, by omega, by omega⟩
 ·cases h
theorem coarse_at {N : Nat} (hN : 3000 ≤ N) {t : TenT} (hk : TKey t) {v : Int} (hv : R64 v) : f_74 N t.1 t.2.1 t.2.2.1 t.2.2.2.1 t.2.2.2.2.1 t.2.2.2.2.2.1 t.2.2.2.2.2.2.1 t.2.2.2.2.2.2.2.1 t.2.2.2.2.2.2.2.2.1 t.2.2.2.2.2.2.2.2.2.1 t.2.2.2.2.2.2.2.2.2.2.1 t.2.2.2.2.2.2.2.2.2.2.2.1 t.2.2.2.2.2.2.2.2.2.2.2.2.1 t.2.2.2.2.2.2.2.2.2.2.2.2.2.1 t.2.2.2.2.2.2.2.2.2.2.2.2.2.2.1 t.2.2.2.2.2.2.2.2.2.2.2.2.2.2.2.1 t.2.2.2.2.2.2.2.2.2.2.2.2.2.2.2.2.1 t.2.2.2.2.2.2.2.2.2.2.2.2.2.2.2.2.2 v = some (coarseD t v) := by
 unfold f_74 coarseD
 refine (bindP _ _ _ (uat_at (N := N) (by omega) (t.2.2.2.2.2.2.1) (t.2.2.2.2.2.2.2.1) hk.by_ hk.len hv)).trans ?_
 have hr := fun h => fuzzD_rng (w := t.2.2.2.2.2.2.1) (c := t.2.2.2.2.2.2.2.1) (k := t.2.1) (v := v) h
 generalize fuzzD (t.2.2.2.2.2.2.1) (t.2.2.2.2.2.2.2.1) (t.2.1) v = V at hr ⊢
 obtain ⟨n, e⟩ := V
 cases e with
 | some e => rfl
 | none =>
  simp only [Option.isNone_none, Bool.not_true, cond_false]
  refine (bindP _ _ _ (qdown_at N (q := t.2.2.2.2.2.1) (hr rfl).1)).trans ?_
  rfl
theorem satI_add {a x y : Int} (ha : 0 ≤ a) (hx : 0 ≤ x) (hy : 0 ≤ y) : satI (satI (a + x) + y) = satI (a + x + y) := by
 unfold satI
 rw [if_neg (show ¬ a + x < -9223372036854775808 by omega)]
 split
 ·rw [if_neg (by omega), if_neg (show ¬ a + x + y < -9223372036854775808 by omega), if_pos (show a + x + y > 9223372036854775807 by omega)]
  split <;> omega
 ·rfl
def boundD (k w q host raised : Int) : Int := satI ((if k = 0 then satI (satI (host + (w + q - 1)) + 1000000000) else satI (host + (w + q - 1))) + raised)
theorem off_at' (N : Nat) {t : TenT} (hm : TMay t) {host raised : Int} (hh : R64 host) (hr : R64 raised) : f_77 N t.1 t.2.1 t.2.2.1 t.2.2.2.1 t.2.2.2.2.1 t.2.2.2.2.2.1 t.2.2.2.2.2.2.1 t.2.2.2.2.2.2.2.1 t.2.2.2.2.2.2.2.2.1 t.2.2.2.2.2.2.2.2.2.1 t.2.2.2.2.2.2.2.2.2.2.1 t.2.2.2.2.2.2.2.2.2.2.2.1 t.2.2.2.2.2.2.2.2.2.2.2.2.1 t.2.2.2.2.2.2.2.2.2.2.2.2.2.1 t.2.2.2.2.2.2.2.2.2.2.2.2.2.2.1 t.2.2.2.2.2.2.2.2.2.2.2.2.2.2.2.1 t.2.2.2.2.2.2.2.2.2.2.2.2.2.2.2.2.1 t.2.2.2.2.2.2.2.2.2.2.2.2.2.2.2.2.2 host raised = some (boundD (t.2.2.1) (t.2.2.2.2.2.2.1) (t.2.2.2.2.2.1) host raised) := by
 have hq := qmayB_rng hm.q
 have hu := umayB_rng hm.u
 unfold f_77 boundD
 rw [wi64 (n := (t.2.2.2.2.2.2.1) + (t.2.2.2.2.2.1)) (by omega) (by omega), wi64 (n := (t.2.2.2.2.2.2.1) + (t.2.2.2.2.2.1) - 1) (by omega) (by omega), naddsat_at N hh ⟨by omega, by omega⟩]
 simp only [Option.bind_some]
 by_cases h0 : (t.2.2.1) = 0
 ·rw [if_pos h0, show ((t.2.2.1) == 0) = true by simpa using h0]
  simp only [cond_true]
  rw [naddsat_at N (satI_rng _) ⟨by omega, by omega⟩]
  simp only [Option.bind_some]
  rw [naddsat_at N (satI_rng _) hr]; rfl
 ·rw [if_neg h0, show ((t.2.2.1) == 0) = false by simpa using h0]
  simp only [cond_false]
  rw [naddsat_at N (satI_rng _) hr]; rfl
abbrev ReadT := Int × Int × Int × Int
def withFloor (t : TenT) (s : Bool) (v : Int) : TenT := (t.1, t.2.1, t.2.2.1, t.2.2.2.1, t.2.2.2.2.1, t.2.2.2.2.2.1, t.2.2.2.2.2.2.1, t.2.2.2.2.2.2.2.1, t.2.2.2.2.2.2.2.2.1, t.2.2.2.2.2.2.2.2.2.1, t.2.2.2.2.2.2.2.2.2.2.1, t.2.2.2.2.2.2.2.2.2.2.2.1, t.2.2.2.2.2.2.2.2.2.2.2.2.1, t.2.2.2.2.2.2.2.2.2.2.2.2.2.1, t.2.2.2.2.2.2.2.2.2.2.2.2.2.2.1, s, v, t.2.2.2.2.2.2.2.2.2.2.2.2.2.2.2.2.2)
def toldD (t : TenT) (n off : Int) : ReadT × TenT × Option Int :=
 if (t.2.2.1) = 0 then ((n, boundD (t.2.2.1) (t.2.2.2.2.2.2.1) (t.2.2.2.2.2.1) off 0, 0, off), t, none)
 else ((raiseD (t.2.2.2.2.2.2.2.2.2.2.2.2.2.2.2.1) (t.2.2.2.2.2.2.2.2.2.2.2.2.2.2.2.2.1) n, boundD (t.2.2.1) (t.2.2.2.2.2.2.1) (t.2.2.2.2.2.1) off (satI (raiseD (t.2.2.2.2.2.2.2.2.2.2.2.2.2.2.2.1) (t.2.2.2.2.2.2.2.2.2.2.2.2.2.2.2.2.1) n - n)), satI (raiseD (t.2.2.2.2.2.2.2.2.2.2.2.2.2.2.2.1) (t.2.2.2.2.2.2.2.2.2.2.2.2.2.2.2.2.1) n - n), off), withFloor t true (raiseD (t.2.2.2.2.2.2.2.2.2.2.2.2.2.2.2.1) (t.2.2.2.2.2.2.2.2.2.2.2.2.2.2.2.2.1) n), none)
def readD (t : TenT) (b l : Int) (L : List Int) (tai off : Int) : ReadT × TenT × Option Int :=
 if mayTT t = true then (if off < 0 then ((0, 0, 0, 0), ten0, some 1) else bif (t.2.2.2.2.2.2.2.2.2.2.2.2.1) then ((0, 0, 0, 0), ten0, some 16) else
  match (trueD t b l L tai).2 with
  | some e => ((0, 0, 0, 0), ten0, some e)
  | none => (match (coarseD t (trueD t b l L tai).1).2 with
   | some e => ((0, 0, 0, 0), ten0, some e)
   | none => toldD t (coarseD t (trueD t b l L tai).1).1 off))
 else ((0, 0, 0, 0), ten0, some 1)
theorem atV_rng {k bf af b l : Int} {L : List Int} {v : Int} (hE : fitsE k bf af b l L = 0) (hU : utcE b l L v = 0) : R64 (atV k bf af b L v) := by
 obtain ⟨hs, ht⟩ := fitsE_zero hE
 have T := tab_of ht
 obtain ⟨⟨u0, u1⟩, _⟩ := utcE_zero hU
 have hlim := cntD_le (dayS b L (v / 1000000000)) L
 have hb := T.b0
 have hb1 := T.b1
 have hl := T.len
 have ho : -4611686218427387904 < outV b L v ∧ outV b L v < 4611686218427387904 := by unfold outV; omega
 unfold atV
 split
 ·exact ⟨by omega, by omega⟩
 ·rename_i hk
  split
  ·rename_i j hj
   obtain ⟨_, w2, w3⟩ := winF_some hj
   have := off_in T hs hk (i := j) (by omega) w3
   exact ⟨by omega, by omega⟩
  ·exact ⟨by omega, by omega⟩
theorem trueD_rng {t : TenT} {b l : Int} {L : List Int} {tai : Int} (h : (trueD t b l L tai).2 = none) : R64 (trueD t b l L tai).1 := by
 unfold trueD satD at h ⊢
 split at h
 ·rename_i hm
  rw [if_pos hm]
  split at h
  ·cases h
  ·rename_i hv
   split at h
   ·rename_i hE
    rw [if_pos hE]
    split at h
    ·rename_i hU
     rw [if_pos hU]
     exact atV_rng hE hU
    ·cases h
   ·cases h
 ·cases h
theorem coarseD_rng {t : TenT} {v : Int} (h : (coarseD t v).2 = none) : R64 (coarseD t v).1 := by
 unfold coarseD at h ⊢
 split at h
 ·cases h
 ·rename_i hf
  split at h
  ·rename_i hq
   rw [if_pos hq]
   obtain ⟨h1, h2⟩ := fit64_rng h
   rw [h1]; exact h2
  ·cases h
theorem tread_at {N : Nat} (hN : 3000 ≤ N) {t : TenT} (h : TFit t) (hk : TKey t) {b l : Int} {L : List Int} (hL : L.length ≤ 40) {tai off : Int} (ht : R64 tai) (ho : R64 off) : f_24 N t.1 t.2.1 t.2.2.1 t.2.2.2.1 t.2.2.2.2.1 t.2.2.2.2.2.1 t.2.2.2.2.2.2.1 t.2.2.2.2.2.2.2.1 t.2.2.2.2.2.2.2.2.1 t.2.2.2.2.2.2.2.2.2.1 t.2.2.2.2.2.2.2.2.2.2.1 t.2.2.2.2.2.2.2.2.2.2.2.1 t.2.2.2.2.2.2.2.2.2.2.2.2.1 t.2.2.2.2.2.2.2.2.2.2.2.2.2.1 t.2.2.2.2.2.2.2.2.2.2.2.2.2.2.1 t.2.2.2.2.2.2.2.2.2.2.2.2.2.2.2.1 t.2.2.2.2.2.2.2.2.2.2.2.2.2.2.2.2.1 t.2.2.2.2.2.2.2.2.2.2.2.2.2.2.2.2.2 b l L tai off = some (readD t b l L tai off) := by
 unfold f_24 readD
 rw [tchkT_at hN h]
 simp only [Option.bind_some]
 cases hm : mayTT t with
 | false => rfl
 | true =>
  have hM := mayTT_ok hm
  simp only [cond_true, Option.isNone_none, Bool.not_true, cond_false, if_true]
  by_cases h0 : off < 0
  ·rw [decide_eq_true h0, if_pos h0]; rfl
  ·rw [decide_eq_false h0, if_neg h0]
   simp only [cond_false]
   rcases Bool.eq_false_or_eq_true (t.2.2.2.2.2.2.2.2.2.2.2.2.1) with hon | hon
   ·rw [bif_t hon, bif_t hon]; rfl
   ·rw [bif_f hon, bif_f hon]
    refine (bindP _ _ _ (ttrue_at hN h hL ht)).trans ?_
    have hr := fun h => trueD_rng (t := t) (b := b) (l := l) (L := L) (tai := tai) h
    generalize trueD t b l L tai = V at hr ⊢
    obtain ⟨v, e⟩ := V
    cases e with
    | some e => rfl
    | none =>
     have hv := hr rfl
     simp only [Option.isNone_none, Bool.not_true, cond_false] at hv ⊢
     refine (bindP _ _ _ (coarse_at hN hk hv)).trans ?_
     have hr := fun h => coarseD_rng (t := t) (v := v) h
     generalize coarseD t v = C at hr ⊢
     obtain ⟨n, e⟩ := C
     cases e with
     | some e => rfl
     | none =>
      have hn := hr rfl
      simp only [Option.isNone_none, Bool.not_true, cond_false] at hn ⊢
      refine (bindP _ _ _ (tcop_at N t h.zL)).trans ?_
      unfold toldD
      by_cases hk0 : (t.2.2.1) = 0
      ·rw [if_pos hk0, show ((t.2.2.1) != 0) = false by simpa using hk0]
       simp only [cond_false]
       refine (bindP _ _ _ (off_at' N hM ho (raised := 0) ⟨by decide, by decide⟩)).trans ?_
       rfl
      ·rw [if_neg hk0, show ((t.2.2.1) != 0) = true by simpa using hk0]
       simp only [cond_true]
       refine (bindP _ _ _ (ftake_at N (t.2.2.2.2.2.2.2.2.2.2.2.2.2.2.2.1) h.tl hn)).trans ?_
       refine (bindP _ _ _ (off_at' N hM ho (satI_rng _))).trans ?_
       rfl
end Go.Proofs.YthpljlpokmoeeaaGreatDoor.Mir
namespace Go.Proofs.YthpljlpokmoeeaaGreatDoor.Mir
open Go Go.RowKit
set_option maxRecDepth 100000
theorem r64_0 : R64 0 := ⟨by decide, by decide⟩
end Go.Proofs.YthpljlpokmoeeaaGreatDoor.Mir
namespace Go.Proofs.YthpljlpokmoeeaaGreatDoor.Mir
open Go Go.RowKit
set_option maxRecDepth 100000
end Go.Proofs.YthpljlpokmoeeaaGreatDoor.Mir
namespace Go.Proofs.YthpljlpokmoeeaaGreatDoor.Mir
open Go Go.RowKit
set_option maxRecDepth 100000
structure TBig29 (t : TenT) : Prop where
 zL : (t.2.2.2.2.2.2.2.2.2.2.2.1).length ≤ 60
 zn : (t.2.2.2.2.2.2.2.2.2.1).size ≤ 200
 rn : ∀ i, i < (t.2.2.2.2.2.2.2.2.2.2.2.1).length → (gR (t.2.2.2.2.2.2.2.2.2.2.2.1) i).2.2.size ≤ 200
 n : (t.1).size ≤ 100
theorem TBig29.fit {t : TenT} (h : TBig29 t) (ha : R64 (t.2.2.2.2.2.2.2.2.2.2.2.2.2.1)) (hl : R64 (t.2.2.2.2.2.2.2.2.2.2.2.2.2.2.2.2.1)) : TFit t :=
 ⟨by have := h.n; omega, by have := h.zn; omega, by have := h.zL; omega, fun i hi => by have := h.rn i hi; omega, ha, hl⟩
end Go.Proofs.YthpljlpokmoeeaaGreatDoor.Mir
namespace Go.Proofs.YthpljlpokmoeeaaGreatDoor.Mir
open Go Go.RowKit
set_option maxRecDepth 100000
theorem readD_none {t : TenT} {b l : Int} {L : List Int} {tai off : Int} (h : (readD t b l L tai off).2.2 = none) :
  mayTT t = true ∧ 0 ≤ off ∧ t.2.2.2.2.2.2.2.2.2.2.2.2.1 = false ∧ (trueD t b l L tai).2 = none ∧ (coarseD t (trueD t b l L tai).1).2 = none ∧ readD t b l L tai off = toldD t (coarseD t (trueD t b l L tai).1).1 off := by
 unfold readD at h ⊢
 by_cases hm : mayTT t = true
 ·rw [if_pos hm] at h ⊢
  by_cases h0 : off < 0
  ·rw [if_pos h0] at h; cases h
  ·rw [if_neg h0] at h ⊢
   rcases Bool.eq_false_or_eq_true (t.2.2.2.2.2.2.2.2.2.2.2.2.1) with hon | hon
   ·rw [bif_t hon] at h; cases h
   ·rw [bif_f hon] at h ⊢
    generalize trueD t b l L tai = V at h ⊢
    obtain ⟨v, e'⟩ := V
    cases e' with
    | some e' => cases h
    | none =>
     simp only at h ⊢
     generalize coarseD t v = C at h ⊢
     obtain ⟨n, e'⟩ := C
     cases e' with
     | some e' => cases h
     | none => exact ⟨hm, by omega, hon, trivial, rfl, rfl⟩
 ·rw [if_neg hm] at h; cases h
end Go.Proofs.YthpljlpokmoeeaaGreatDoor.Mir
namespace Go.Proofs.YthpljlpokmoeeaaGreatDoor.Mir
open Go Go.RowKit
set_option maxRecDepth 100000
structure On (x : TenT) (last : Int) (any : Bool) : Prop where
 may : mayTT x = true
 fit : TFit x
 key : TKey x
 low : any = true → x.2.2.2.2.2.2.2.2.2.2.2.2.2.2.2.1 = true ∧ last ≤ x.2.2.2.2.2.2.2.2.2.2.2.2.2.2.2.2.1
end Go.Proofs.YthpljlpokmoeeaaGreatDoor.Mir
namespace Go.Proofs.YthpljlpokmoeeaaGreatDoor.Mir
open Go Go.RowKit
set_option maxRecDepth 100000
theorem sureB {q : Option Bool} (h : q = some true) : (q.bind fun r => some r) = some true := by rw [h]; rfl
theorem blsure_at (n : Nat) : f_9 (n + 3000) = some true := by kernel_rfl
theorem hold_tail {N : Nat} (hN : 3000 ≤ N) {p : PageT} (w : PageW p) (hp : pageB p = true) {how : PolT} (hh : HowOk how) (hm : mayPT how = true) (limit : Int) (hs : f_9 N = some true) :
  (Option.bind (f_14 N p.1 p.2.1 p.2.2.1 p.2.2.2.1 p.2.2.2.2.1 p.2.2.2.2.2.1 p.2.2.2.2.2.2.1 p.2.2.2.2.2.2.2.1 p.2.2.2.2.2.2.2.2.1 p.2.2.2.2.2.2.2.2.2 how.1 how.2.1 how.2.2.1 how.2.2.2.1 how.2.2.2.2.1 how.2.2.2.2.2.1 how.2.2.2.2.2.2.1 how.2.2.2.2.2.2.2.1 how.2.2.2.2.2.2.2.2.1 how.2.2.2.2.2.2.2.2.2 limit) fun r => bif !(Option.isNone r.2) then (Option.bind (f_17 N r.2) fun s => bif (s == 13) then (Option.bind (f_9 N) fun u => some u) else some false)
   else (Option.bind (f_12 N p.1 p.2.1 p.2.2.1 p.2.2.2.1 p.2.2.2.2.1 p.2.2.2.2.2.1 p.2.2.2.2.2.2.1 p.2.2.2.2.2.2.2.1 p.2.2.2.2.2.2.2.2.1 p.2.2.2.2.2.2.2.2.2 (IntKind.i64.wrap (p.2.1 + r.1)) how.1 how.2.1 how.2.2.1 how.2.2.2.1 how.2.2.2.2.1 how.2.2.2.2.2.1 how.2.2.2.2.2.2.1 how.2.2.2.2.2.2.2.1 how.2.2.2.2.2.2.2.2.1 how.2.2.2.2.2.2.2.2.2 0) fun a => bif !(Option.isNone a.2) then some false else (Option.bind (f_18 N a.1.1 a.1.2.1 a.1.2.2.1 a.1.2.2.2.1 a.1.2.2.2.2.1 a.1.2.2.2.2.2.1 a.1.2.2.2.2.2.2) fun b => bif decide (b > limit) then some false else bif decide (r.1 < 0) then some false else bif decide (r.1 > p.2.2.2.2.2.2.2.2.2) then some false
    else (Option.bind (f_12 N p.1 p.2.1 p.2.2.1 p.2.2.2.1 p.2.2.2.2.1 p.2.2.2.2.2.1 p.2.2.2.2.2.2.1 p.2.2.2.2.2.2.2.1 p.2.2.2.2.2.2.2.2.1 p.2.2.2.2.2.2.2.2.2 (IntKind.i64.wrap (IntKind.i64.wrap (p.2.1 + r.1) + 1)) how.1 how.2.1 how.2.2.1 how.2.2.2.1 how.2.2.2.2.1 how.2.2.2.2.2.1 how.2.2.2.2.2.2.1 how.2.2.2.2.2.2.2.1 how.2.2.2.2.2.2.2.2.1 how.2.2.2.2.2.2.2.2.2 0) fun c => bif !(Option.isNone c.2) then (Option.bind (f_9 N) fun u => some u) else (Option.bind (f_18 N c.1.1 c.1.2.1 c.1.2.2.1 c.1.2.2.2.1 c.1.2.2.2.2.1 c.1.2.2.2.2.2.1 c.1.2.2.2.2.2.2) fun d => bif decide (d > limit) then (Option.bind (f_9 N) fun u => some u) else some false))))) = some true := by
 obtain ⟨r, A, hr⟩ := bage_at hN w hh limit
 have k := pageB_ok hp
 have kb := k.base
 have kc := k.cap
 refine (bindP _ _ _ hr).trans ?_
 unfold AgeIs at A
 rcases A with ⟨a1, _⟩ | ⟨_, a2, _⟩ | ⟨_, _, _, ha⟩ | ⟨_, _, n, a3, ha⟩
 ·exact absurd (a1.symm.trans hp) (by decide)
 ·exact absurd (a2.symm.trans hm) (by decide)
 ·subst ha
  simp only [Option.isNone_some, Bool.not_false, cond_true]
  refine (bindP _ _ _ (num_at30 N _)).trans ?_
  exact sureB hs
 ·subst ha
  obtain ⟨n0, g1, g2⟩ := a3
  have hcap := goodB_cap g1
  simp only [Option.isNone_none, Bool.not_true, cond_false]
  rw [wi64 (n := p.2.1 + n) (by omega) (by omega), wi64 (n := p.2.1 + n + 1) (by omega) (by omega)]
  refine (bindP _ _ _ (bof_at hN w ⟨by omega, by omega⟩ hh.l 0)).trans ?_
  have hR := partsD_R (p := p) (c := p.2.1 + n) (how := how) r64_0
  have hR2 := partsD_R (p := p) (c := p.2.1 + n + 1) (how := how) r64_0
  unfold goodB at g1 g2
  rw [show p.2.1 + (n + 1) = p.2.1 + n + 1 by omega] at g2
  generalize partsD p (p.2.1 + n) how 0 = V at hR g1 ⊢
  obtain ⟨v, e⟩ := V
  cases e with
  | some e => cases g1
  | none =>
   simp only [Option.isNone_none, Bool.true_and, decide_eq_true_eq, Bool.not_true, cond_false] at hR g1 ⊢
   refine (bindP _ _ _ (bsump_at hN hR)).trans ?_
   rw [decide_eq_false (show ¬ sumP v > limit by omega), decide_eq_false (show ¬ n < 0 by omega), decide_eq_false (show ¬ n > p.2.2.2.2.2.2.2.2.2 by omega)]
   simp only [cond_false]
   refine (bindP _ _ _ (bof_at hN w ⟨by omega, by omega⟩ hh.l 0)).trans ?_
   generalize partsD p (p.2.1 + n + 1) how 0 = U at hR2 g2 ⊢
   obtain ⟨u, e⟩ := U
   cases e with
   | some e => exact sureB hs
   | none =>
    simp only [Option.isNone_none, Bool.true_and, decide_eq_false_iff_not, Bool.not_true, cond_false] at hR2 g2 ⊢
    refine (bindP _ _ _ (bsump_at hN hR2)).trans ?_
    rw [decide_eq_true (show sumP u > limit by omega)]
    exact sureB hs
theorem told_parts {p : PageT} {t : TenT} (k : PageOk p) (hM : TMay t) {n : Int} (r : Int) (h0 : 0 ≤ n) (h1 : n ≤ 1125899906842624) (hpl : (plainD p n).2 = none) :
  sumP (partsV p (polT t) n r) = boundD t.2.2.1 t.2.2.2.2.2.2.1 t.2.2.2.2.2.1 (offD p n) r ∧ sumL [p.2.2.2.1, ageD p n, fitD p n + 4] = offD p n := by
 have ha := ageD_rng k h0 hpl
 obtain ⟨q0, q1⟩ := fit_rng (s := p.2.2.2.2.2.2.2.1) h0 h1
 have ke := k.err
 have hq := qmayB_rng hM.q
 have hu := umayB_rng hM.u
 have e3 : satI (satI (satI (0 + p.2.2.2.1) + ageD p n) + (fitD p n + 4)) = offD p n := by
  unfold offD
  rw [Int.zero_add, satI_in (s := p.2.2.2.1) ⟨by omega, by omega⟩]
 have ho : 0 ≤ offD p n := by
  unfold offD
  exact satI_nn (by have := satI_nn (a := p.2.2.2.1 + ageD p n) (by omega); unfold fitD; omega)
 refine ⟨?_, e3⟩
 show satI (satI (satI (satI (satI (satI (satI (0 + p.2.2.2.1) + ageD p n) + (fitD p n + 4)) + t.2.2.2.2.2.2.1) + (t.2.2.2.2.2.1 - 1)) + (if t.2.2.1 = 0 then 1000000000 else 0)) + r) = _
 rw [e3]
 generalize offD p n = o at ho
 unfold boundD
 rw [satI_add ho hu.1.1 (by omega), show o + t.2.2.2.2.2.2.1 + (t.2.2.2.2.2.1 - 1) = o + (t.2.2.2.2.2.2.1 + t.2.2.2.2.2.1 - 1) by omega]
 split
 ·rfl
 ·rw [Int.add_zero, satI_in (satI_rng _)]
theorem bholds_holds (F : Nat) {p : PageT} (w : PageW p) {t : TenT} (hk : TKey t) (ha : R64 (t.2.2.2.2.2.2.2.2.2.2.2.2.2.1)) (hl : R64 (t.2.2.2.2.2.2.2.2.2.2.2.2.2.2.2.2.1)) {of : List Int} (o0 : R64 (of.getD (Int.toNat 0) 0))
  (hzL : (t.2.2.2.2.2.2.2.2.2.2.2.1).length ≤ 4398046511104) (hF : (t.2.2.2.2.2.2.2.2.2.2.2.1).length < F) (h3 : 3000 ≤ F) (hs : f_9 F = some true) :
  f_7 F p.1 p.2.1 p.2.2.1 p.2.2.2.1 p.2.2.2.2.1 p.2.2.2.2.2.1 p.2.2.2.2.2.2.1 p.2.2.2.2.2.2.2.1 p.2.2.2.2.2.2.2.2.1 p.2.2.2.2.2.2.2.2.2 t.1 t.2.1 t.2.2.1 t.2.2.2.1 t.2.2.2.2.1 t.2.2.2.2.2.1 t.2.2.2.2.2.2.1 t.2.2.2.2.2.2.2.1 t.2.2.2.2.2.2.2.2.1 t.2.2.2.2.2.2.2.2.2.1 t.2.2.2.2.2.2.2.2.2.2.1 t.2.2.2.2.2.2.2.2.2.2.2.1 t.2.2.2.2.2.2.2.2.2.2.2.2.1 t.2.2.2.2.2.2.2.2.2.2.2.2.2.1 t.2.2.2.2.2.2.2.2.2.2.2.2.2.2.1 t.2.2.2.2.2.2.2.2.2.2.2.2.2.2.2.1 t.2.2.2.2.2.2.2.2.2.2.2.2.2.2.2.2.1 t.2.2.2.2.2.2.2.2.2.2.2.2.2.2.2.2.2 of = some true := by
 unfold f_7
 refine (bindP _ p _ rfl).trans ?_
 refine (bindP _ _ _ (tgive_at30 t hzL hF)).trans ?_
 obtain ⟨g, hg, hB⟩ := tbig_at30 (N := F) t (by omega)
 refine (bindP _ _ _ hg).trans ?_
 cases g with
 | true => exact sureB hs
 | false =>
 simp only [cond_false]
 have h := (hB rfl).fit ha hl
 refine (bindP _ _ _ (pgchk_at F w)).trans ?_
 cases hp : pageB p with
 | false => exact sureB hs
 | true =>
 simp only [cond_true, Option.isNone_none, Bool.not_true, cond_false]
 refine (bindP _ _ _ (tchkT_at h3 h)).trans ?_
 cases hm : mayTT t with
 | false => exact sureB hs
 | true =>
 simp only [cond_true, Option.isNone_none, Bool.not_true, cond_false]
 have hM := mayTT_ok hm
 have hmP : mayPT (polT t) = true := by simp only [mayTT, mayT, Bool.and_eq_true] at hm; exact hm.2.1
 have hh : HowOk (polT t) := ⟨h.zL, h.zn, h.rn⟩
 have tail := hold_tail h3 w hp hh hmP (of.getD (Int.toNat 1) 0) hs
 generalize of.getD (Int.toNat 0) 0 = c at o0 ⊢
 generalize of.getD (Int.toNat 1) 0 = limit at tail ⊢
 refine (bindP _ _ _ (ahtime_at F w o0)).trans ?_
 have ht := fun h => timeD_none (p := p) (c := c) h
 have htd := fun r h2 h3 => partsD_ok (p := p) (c := c) (how := polT t) (r := r) hmP h2 h3
 generalize timeD p c = T at ht htd ⊢
 obtain ⟨a, b, e⟩ := T
 cases e with
 | some e => exact tail
 | none =>
  obtain ⟨_, hb, hcap, hat, hpl, hT⟩ := ht rfl
  have k := pageB_ok hp
  have kb := k.base
  have kc := k.cap
  have hc2 := o0.2
  obtain ⟨hT1, hT2⟩ := Prod.mk.inj hT
  obtain ⟨hT2, _⟩ := Prod.mk.inj hT2
  have hra : R64 a := by
   rw [hT1]
   have kt := k.tai
   unfold atD at hat ⊢
   have hx := fun h => scaleD_nn (m := p.2.2.2.2.1) (s := p.2.2.2.2.2.1) (n := c - p.2.1) (by omega) h
   generalize scaleD p.2.2.2.2.1 p.2.2.2.2.2.1 (c - p.2.1) = V at hat hx ⊢
   obtain ⟨x, f⟩ := V
   cases f with
   | some f => cases hat
   | none =>
    have hx := hx rfl
    simp only at hat hx ⊢
    by_cases h9 : 4611686018427387904 ≤ p.2.2.1 + x
    ·rw [if_pos h9] at hat; cases hat
    ·rw [if_neg h9]; exact ⟨by simp only; omega, by simp only; omega⟩
  have hrb : R64 b := by rw [hT2]; exact satI_rng _
  simp only [Option.isNone_none, cond_true]
  refine (bindP _ _ _ (tread_at h3 h hk (L := []) (by simp) hra hrb)).trans ?_
  have r2 := fun h => readD_none (t := t) (b := 0) (l := 50000) (L := []) (tai := a) (off := b) h
  generalize readD t 0 50000 [] a b = R at r2 ⊢
  obtain ⟨⟨R1, R2, R3, R4⟩, R5, e⟩ := R
  cases e with
  | some e => exact tail
  | none =>
   obtain ⟨_, hb0, _, _, hC, hD⟩ := r2 rfl
   have hcr := coarseD_rng hC
   generalize (coarseD t (trueD t 0 50000 [] a).1).1 = n at hD hcr
   have hq : 0 ≤ R3 ∧ R64 R3 ∧ R4 = b ∧ R2 = boundD t.2.2.1 t.2.2.2.2.2.2.1 t.2.2.2.2.2.1 b R3 := by
    unfold toldD at hD
    by_cases hk0 : t.2.2.1 = 0
    ·rw [if_pos hk0] at hD
     obtain ⟨hD1, _⟩ := Prod.mk.inj hD
     obtain ⟨_, hD1⟩ := Prod.mk.inj hD1
     obtain ⟨hD2, hD1⟩ := Prod.mk.inj hD1
     obtain ⟨hD3, hD4⟩ := Prod.mk.inj hD1
     rw [hD2, hD3, hD4]
     exact ⟨Int.le_refl 0, r64_0, rfl, rfl⟩
    ·rw [if_neg hk0] at hD
     obtain ⟨hD1, _⟩ := Prod.mk.inj hD
     obtain ⟨_, hD1⟩ := Prod.mk.inj hD1
     obtain ⟨hD2, hD1⟩ := Prod.mk.inj hD1
     obtain ⟨hD3, hD4⟩ := Prod.mk.inj hD1
     rw [hD2, hD3, hD4]
     exact ⟨satI_nn (by have := raiseD_ge t.2.2.2.2.2.2.2.2.2.2.2.2.2.2.2.1 t.2.2.2.2.2.2.2.2.2.2.2.2.2.2.2.2.1 n; omega), satI_rng _, rfl, rfl⟩
   obtain ⟨q1, q2, q3, q4⟩ := hq
   have hto : toldB p c (polT t) R2 R3 R4 = true := by
    obtain ⟨t1, t2⟩ := told_parts k hM (n := c - p.2.1) R3 (by omega) (by omega) hpl
    unfold toldB
    rw [htd R3 q1 rfl]
    simp only [Option.isNone_none, Bool.true_and]
    rw [t1, q4, q3, hT2, beq_self_eq_true, Bool.true_and]
    show (sumL [p.2.2.2.1, ageD p (c - p.2.1), fitD p (c - p.2.1) + 4] == _) = true
    rw [t2, beq_self_eq_true]
   simp only [Option.isNone_none, cond_true]
   refine (bindP _ _ _ (btold_at h3 w o0 hh.l q2 R1 R2 R4)).trans ?_
   rw [hto, q3]
   simp only [Bool.not_true, cond_false, bne_self_eq_false]
   exact tail
end Go.Proofs.YthpljlpokmoeeaaGreatDoor.Mir
namespace Go.Proofs.YthpljlpokmoeeaaGreatDoor
open Go Go.RowKit Mir
theorem laid_Q {w : World} (hL : LaidW w) : ∀ q ∈ Mir.laidL, w.cell? ⟨q.1, q.2.1, none⟩ = some q.2.2 := fun q hq => by
 obtain rfl := List.mem_singleton.1 hq
 exact hL
theorem by_int {n : Int} (hw : (Lit.int .u8 n).wf = true) : 0 ≤ n ∧ n < 256 := by
 have := wf_range hw
 have c0 : IntKind.u8.min = 0 := by decide
 have c1 : IntKind.u8.max = 255 := by decide
 omega
theorem len_ok' {n : Nat} (h : n * bySL [.int .i64, .int .i64, .str] ≤ reachBytes) : n ≤ 4398046511104 := by
 have h : n * 32 ≤ reachBytes := h
 have : reachBytes = 140737488351232 := by decide
 omega
theorem i64_ok {n : Int} (hw : (Lit.int .i64 n).wf = true) : -9223372036854775808 ≤ n ∧ n < 9223372036854775808 := by
 have := wf_range hw
 have c0 : IntKind.i64.min = -9223372036854775808 := by decide
 have c1 : IntKind.i64.max = 9223372036854775807 := by decide
 omega
theorem repL_arr {g : Gh} : ∀ {cs : List C} {vs : List Value}, RepL g cs vs → ∀ k n xs, C.arr k n xs ∈ cs → xs.length = n
 | [], _, _, _, _, _, h => by cases h
 | c :: cs, vs, hr, k, n, xs, h => by
  rcases List.mem_cons.1 h with rfl | hm
  ·simp only [RepL] at hr
   obtain ⟨r, h1, _⟩ := hr
   exact h1
  ·clear h
   cases c <;> (simp only [RepL] at hr; first | (obtain ⟨_, r, _, _, h3⟩ := hr; exact repL_arr h3 k n xs hm) | (obtain ⟨r, _, _, h3⟩ := hr; exact repL_arr h3 k n xs hm))
theorem repA_arr {g : Gh} {cs : List C} {v : Value} (h : RepA g (.agg cs) v) {k : IntKind} {n : Nat} {xs : List Int} (hm : C.arr k n xs ∈ cs) : xs.length = n := by
 simp only [RepA] at h
 obtain ⟨vs, _, h⟩ := h
 exact repL_arr h k n xs hm
end Go.Proofs.YthpljlpokmoeeaaGreatDoor
namespace Go.Proofs.YthpljlpokmoeeaaGreatDoor
open Go Go.RowKit Mir
abbrev tenSh : List Sh := [.str, .arr .u8 16, .int .i64, .int .i64, .int .i64, .int .i64, .int .i64, .int .i64, .bool, .str, .int .i64, .sl [.int .i64, .int .i64, .str], .bool, .int .i64, .int .i64, .bool, .int .i64, .int .i64]
structure TArg (t : TenT) : Prop where
 key : TKey t
 ta : R64 (t.2.2.2.2.2.2.2.2.2.2.2.2.2.1)
 tl : R64 (t.2.2.2.2.2.2.2.2.2.2.2.2.2.2.2.2.1)
 zL : (t.2.2.2.2.2.2.2.2.2.2.2.1).length ≤ 4398046511104
theorem targ_ok {w : World} {y : TL tenSh} (k : OkL _ y) {v : Value} (e : RepA (gW w) (.agg (encL _ y)) v) : TArg y := by
 obtain ⟨t1, key, t3, t4, t5, t6, t7, t8, t9, t10, t11, L, t13, t14, t15, t16, t17, t18⟩ := y
 have hk := repA_arr e (k := .u8) (n := 16) (xs := key) (by simp [encL, encS])
 simp only [OkL, OkS] at k
 obtain ⟨_, hkey, _, _, _, _, _, _, _, _, _, hL, _, h14, _, _, h17, _⟩ := k
 exact ⟨⟨hk, fun x hx => by_int (hkey x hx)⟩, i64_ok h14, i64_ok h17, len_ok' hL.2.1⟩
end Go.Proofs.YthpljlpokmoeeaaGreatDoor
namespace Go.Proofs.YthpljlpokmoeeaaGreatDoor
open Go Go.RowKit Mir
abbrev pgSh : List Sh := [.int .i64, .int .i64, .int .i64, .int .i64, .int .u32, .int .i64, .int .u32, .int .i64, .int .i64, .int .i64]
theorem u32_ok {n : Int} (hw : (Lit.int .u32 n).wf = true) : 0 ≤ n ∧ n < 4294967296 := by
 have := wf_range hw
 have c0 : IntKind.u32.min = 0 := by decide
 have c1 : IntKind.u32.max = 4294967295 := by decide
 omega
theorem page_ok {y : TL pgSh} (k : OkL _ y) : PageW y := by
 obtain ⟨p1, p2, p3, p4, p5, p6, p7, p8, p9, p10⟩ := y
 simp only [OkL, OkS] at k
 obtain ⟨_, h2, h3, _, h5, h6, h7, h8, _, _⟩ := k
 exact ⟨i64_ok h2, i64_ok h3, u32_ok h5, i64_ok h6, u32_ok h7, i64_ok h8⟩
theorem arr_r64b {xs : List Int} (h : ∀ x ∈ xs, (Lit.int .i64 x).wf = true) (i : Nat) : R64 (xs.getD i 0) := by
 rw [List.getD_eq_getElem?_getD]
 cases hg : xs[i]? with
 | none => exact ⟨by decide, by decide⟩
 | some x => exact i64_ok (h x (List.mem_of_getElem? hg))
end Go.Proofs.YthpljlpokmoeeaaGreatDoor
namespace Go.Proofs.YthpljlpokmoeeaaGreatDoor
open Go Go.RowKit Mir
set_option maxRecDepth 100000 in
theorem law_BoundHolds_row (w : World) (hL : LaidW w) {v0 v1 v2 : Value} {y0 : TL pgSh} (k0 : OkL _ y0) (e0 : RepA (gW w) (.agg (encL _ y0)) v0) {y1 : TL tenSh} (k1 : OkL _ y1) (e1 : RepA (gW w) (.agg (encL _ y1)) v1)
  {y2 : TL [.arr .i64 2]} (k2 : OkL _ y2) (e2 : RepA (gW w) (.agg (encL [.arr .i64 2] y2)) v2) :
  Calls Tryz.prog 7 #[v0, v1, v2] w fun e w' => e = .returned (.bool true) ∧ Below w.heap.size w w' := by
 have a0 := page_ok k0
 have a1 := targ_ok k1 e1
 simp only [OkL, OkS] at k2
 have hh := bholds_holds (List.length (α := Rul) (y1.2.2.2.2.2.2.2.2.2.2.2.1) + 3000) a0 a1.key a1.ta a1.tl (of := y2) (arr_r64b k2 _) a1.zL (show List.length (α := Rul) (y1.2.2.2.2.2.2.2.2.2.2.2.1) < _ by omega) (by omega) (blsure_at _)
 generalize List.length (α := Rul) (y1.2.2.2.2.2.2.2.2.2.2.2.1) = m at hh
 have hr : (S_7 (m + 3000)).run [.agg (encL pgSh y0), .agg (encL tenSh y1), .agg (encL [.arr .i64 2] y2)] [] = f_7 (m + 3000) y0.1 y0.2.1 y0.2.2.1 y0.2.2.2.1 y0.2.2.2.2.1 y0.2.2.2.2.2.1 y0.2.2.2.2.2.2.1 y0.2.2.2.2.2.2.2.1 y0.2.2.2.2.2.2.2.2.1 y0.2.2.2.2.2.2.2.2.2 y1.1 y1.2.1 y1.2.2.1 y1.2.2.2.1 y1.2.2.2.2.1 y1.2.2.2.2.2.1 y1.2.2.2.2.2.2.1 y1.2.2.2.2.2.2.2.1 y1.2.2.2.2.2.2.2.2.1 y1.2.2.2.2.2.2.2.2.2.1 y1.2.2.2.2.2.2.2.2.2.2.1 y1.2.2.2.2.2.2.2.2.2.2.2.1 y1.2.2.2.2.2.2.2.2.2.2.2.2.1 y1.2.2.2.2.2.2.2.2.2.2.2.2.2.1 y1.2.2.2.2.2.2.2.2.2.2.2.2.2.2.1 y1.2.2.2.2.2.2.2.2.2.2.2.2.2.2.2.1 y1.2.2.2.2.2.2.2.2.2.2.2.2.2.2.2.2.1 y1.2.2.2.2.2.2.2.2.2.2.2.2.2.2.2.2.2 y2 := by kernel_rfl
 have ho : ((S_7 (m + 3000)).out [.agg (encL pgSh y0), .agg (encL tenSh y1), .agg (encL [.arr .i64 2] y2)] [] true).1 = .a (.one (Mir.boolC true)) := by kernel_rfl
 exact calls_open (vs := [v0, v1, v2]) (s_7 (m + 3000)) (by kernel_rfl) Tryz.func7 (by kernel_rfl) (by kernel_rfl) (hr.trans hh)
  ⟨v0, _, rfl, e0, v1, _, rfl, e1, v2, _, rfl, e2, rfl⟩ (laid_Q hL) (fun g x h => by rw [ho] at h; exact h)
end Go.Proofs.YthpljlpokmoeeaaGreatDoor
