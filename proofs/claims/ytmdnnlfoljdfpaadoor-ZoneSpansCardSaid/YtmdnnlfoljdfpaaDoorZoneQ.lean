/- Zones: the rule that holds at a second. -/
import Derived.Test.YtmdnnlfoljdfpaaDoorZoneP
namespace Go.Proofs.YtmdnnlfoljdfpaaDoor.Mir
open Go Go.RowKit
set_option maxRecDepth 100000

def Srt (L : List Rul) : Prop := ∀ i j, i < j → j < L.length → (gR L i).1 < (gR L j).1
theorem allFrom_at {L : List Rul} : ∀ {k i : Nat}, allFrom L i k = true → ∀ j, i ≤ j → j < i + k → okAt L j = true
  | 0, _, _, j, h1, h2 => by omega
  | k + 1, i, h, j, h1, h2 => by
    simp only [allFrom, Bool.and_eq_true] at h
    by_cases hj : j = i
    · subst hj; exact h.1
    · exact allFrom_at h.2 j (by omega) (by omega)
theorem okAt_step {L : List Rul} {i : Nat} (h : okAt L (i + 1) = true) : (gR L i).1 < (gR L (i + 1)).1 := by
  unfold okAt at h
  simp only [Bool.and_eq_true] at h
  have h5 := h.2.2.2.2
  rw [decide_eq_true (show ((i + 1 : Nat) : Int) > 0 by omega), Nat.add_sub_cancel] at h5
  simp only [Bool.true_and, Bool.not_eq_true', decide_eq_false_iff_not] at h5
  omega
theorem srt_of {L : List Rul} (h : allFrom L 0 L.length = true) : Srt L := by
  intro i j
  induction j with
  | zero => intro h1; omega
  | succ j ih =>
    intro h1 h2
    have a := okAt_step (allFrom_at h (j + 1) (by omega) (by omega))
    by_cases hj : i = j
    · subst hj; exact a
    · exact Int.lt_trans (ih (by omega) (by omega)) a
/-- So many rules are not above a second. -/
structure Cut (L : List Rul) (s : Int) (n : Nat) : Prop where
  le : n ≤ L.length
  lo : ∀ i, i < n → (gR L i).1 ≤ s
  hi : ∀ i, n ≤ i → i < L.length → s < (gR L i).1
theorem Cut.uniq {L : List Rul} {s : Int} {n m : Nat} (a : Cut L s n) (b : Cut L s m) : n = m := by
  rcases Nat.lt_trichotomy n m with h | h | h
  · have h1 := b.lo n h
    have h2 := a.hi n (Nat.le_refl _) (by have := b.le; omega)
    omega
  · exact h
  · have h1 := a.lo m h
    have h2 := b.hi m (Nat.le_refl _) (by have := a.le; omega)
    omega
theorem cmp_at (N : Nat) (a b : Int) (s : ByteArray) (t : Int) : f_82 N a b s t = some (if a < t then -1 else if a > t then 1 else 0) := by
  unfold f_82 f_83 f_108
  simp only [bne_self_eq_false, Option.bind_some, cond_false]
  by_cases h : a < t
  · rw [decide_eq_true h, if_pos h]; rfl
  · rw [decide_eq_false h, if_neg h]
    by_cases h2 : a > t
    · rw [decide_eq_true h2, if_pos h2]; rfl
    · rw [decide_eq_false h2, if_neg h2]; rfl
theorem mid_eq {i j : Nat} (h : i + j < 4000000) : IntKind.i64.wrap ((IntKind.u64.wrap (IntKind.i64.wrap ((i : Int) + (j : Int)))) / 2 ^ (min (Int.toNat 1) IntKind.u64.bits)) = (((i + j) / 2 : Nat) : Int) := by
  have e : (2 : Int) ^ (min (Int.toNat 1) IntKind.u64.bits) = 2 := by decide
  rw [e, wi64 (n := (i : Int) + (j : Int)) (by omega) (by omega), wu64 (by omega) (by omega), wi64 (by omega) (by omega)]
  omega
theorem bs_loop (N : Nat) {L : List Rul} {t : Int} (hL : L.length ≤ 1000000) (hs : Srt L) : ∀ (k M i j : Nat), i + k = j → j ≤ L.length → k < M → (∀ q, q < i → (gR L q).1 < t) → (∀ q, j ≤ q → q < L.length → t ≤ (gR L q).1) →
    ∃ m : Nat, m ≤ L.length ∧ (∀ q, q < m → (gR L q).1 < t) ∧ (∀ q, m ≤ q → q < L.length → t ≤ (gR L q).1) ∧ iter (b_81c82_0 N) M (L, t, (), (L.length : Int), (i : Int), (j : Int)) = some (L, t, (), (L.length : Int), (m : Int)) := by
  intro k
  induction k using Nat.strongRecOn with
  | ind k ih =>
    intro M i j hk hj hM hlo hhi
    obtain ⟨M, rfl⟩ : ∃ m, M = m + 1 := ⟨M - 1, by omega⟩
    by_cases hij : i < j
    rotate_left
    · obtain rfl : i = j := by omega
      refine ⟨i, hj, hlo, hhi, ?_⟩
      show b_81c82_0 N (iter (b_81c82_0 N) M) _ = _
      unfold b_81c82_0
      simp only
      rw [decide_eq_false (show ¬ (i : Int) < (i : Int) by omega)]; rfl
    · have hm1 : i ≤ (i + j) / 2 := by omega
      have hm2 : (i + j) / 2 < j := by omega
      have e0 : ∀ I, b_81c82_0 N I (L, t, (), (L.length : Int), (i : Int), (j : Int)) = bif decide ((gR L ((i + j) / 2)).1 < t) then I (L, t, (), (L.length : Int), (((i + j) / 2 + 1 : Nat) : Int), (j : Int)) else I (L, t, (), (L.length : Int), (i : Int), (((i + j) / 2 : Nat) : Int)) := fun I => by
        unfold b_81c82_0
        simp only
        rw [mid_eq (by omega), decide_eq_true (show (i : Int) < (j : Int) by omega), decide_eq_true (show 0 ≤ (((i + j) / 2 : Nat) : Int) ∧ (((i + j) / 2 : Nat) : Int) < (L.length : Int) by omega), cmp_at, wi64 (n := (((i + j) / 2 : Nat) : Int) + 1) (by omega) (by omega), Int.toNat_natCast]
        simp only [cond_true, Option.bind_some]
        show (bif decide ((if (gR L ((i + j) / 2)).1 < t then (-1 : Int) else if (gR L ((i + j) / 2)).1 > t then 1 else 0) < 0) then _ else _) = _
        by_cases h : (gR L ((i + j) / 2)).1 < t
        · rw [if_pos h, decide_eq_true h]; rfl
        · rw [if_neg h, decide_eq_false h]
          by_cases h2 : (gR L ((i + j) / 2)).1 > t
          · rw [if_pos h2]; rfl
          · rw [if_neg h2]; rfl
      show ∃ m : Nat, m ≤ L.length ∧ _ ∧ _ ∧ b_81c82_0 N (iter (b_81c82_0 N) M) (L, t, (), (L.length : Int), (i : Int), (j : Int)) = _
      rw [e0]
      by_cases h : (gR L ((i + j) / 2)).1 < t
      · rw [decide_eq_true h]
        exact ih (j - ((i + j) / 2 + 1)) (by omega) M ((i + j) / 2 + 1) j (by omega) hj (by omega) (fun q hq => by
          by_cases hq2 : q = (i + j) / 2
          · subst hq2; exact h
          · exact Int.lt_trans (hs q ((i + j) / 2) (by omega) (by omega)) h) hhi
      · rw [decide_eq_false h]
        exact ih ((i + j) / 2 - i) (by omega) M i ((i + j) / 2) (by omega) (by omega) (by omega) hlo (fun q h1 h2 => by
          by_cases hq2 : q = (i + j) / 2
          · subst hq2; omega
          · have := hs ((i + j) / 2) q (by omega) h2
            omega)
theorem behind_at {N : Nat} {L : List Rul} (n0 : ByteArray) (f0 : Int) (s : Int) (hL : L.length ≤ 1000000) (hN : L.length < N) (hs : Srt L) : ∃ n, Cut L s n ∧ f_42 N n0 f0 L s = some (n : Int) := by
  obtain ⟨m, h1, h2, h3, h4⟩ := bs_loop N (t := s) hL hs L.length N 0 L.length (by omega) (Nat.le_refl _) hN (fun q hq => by omega) (fun q h1 h2 => by omega)
  have h4' : l_81c82_0 N (L, s, (), (L.length : Int), 0, (L.length : Int)) = some (L, s, (), (L.length : Int), (m : Int)) := h4
  have hb : f_81c82 N L s = some ((m : Int), decide (m < L.length) && ((if (gR L m).1 < s then (-1 : Int) else if (gR L m).1 > s then 1 else 0) == 0)) := by
    unfold f_81c82
    rw [h4']
    simp only [Option.bind_some]
    by_cases hm : m < L.length
    · rw [decide_eq_true (show (m : Int) < (L.length : Int) by omega), decide_eq_true (show 0 ≤ (m : Int) ∧ (m : Int) < (L.length : Int) by omega), cmp_at, decide_eq_true hm, Int.toNat_natCast]
      rfl
    · rw [decide_eq_false (show ¬ (m : Int) < (L.length : Int) by omega), decide_eq_false hm]
      rfl
  unfold f_42
  rw [hb]
  simp only [Option.bind_some]
  by_cases hm : m < L.length
  · by_cases he : (gR L m).1 = s
    · refine ⟨m + 1, ⟨by omega, fun i hi => ?_, fun i h5 h6 => ?_⟩, ?_⟩
      · by_cases hi2 : i = m
        · subst hi2; omega
        · have := h2 i (by omega); omega
      · have := hs m i (by omega) h6; omega
      · rw [decide_eq_true hm, if_neg (by omega), if_neg (by omega), wi64 (by omega) (by omega)]; rfl
    · have hg := h3 m (Nat.le_refl _) hm
      refine ⟨m, ⟨h1, fun i hi => by have := h2 i hi; omega, fun i h5 h6 => ?_⟩, ?_⟩
      · by_cases hi2 : i = m
        · subst hi2; omega
        · have := hs m i (by omega) h6; omega
      · rw [if_neg (by omega), if_pos (by omega), decide_eq_true hm]; rfl
  · refine ⟨m, ⟨h1, fun i hi => by have := h2 i hi; omega, fun i h5 h6 => by omega⟩, ?_⟩
    rw [decide_eq_false hm]; rfl
theorem cut_ex {L : List Rul} (s : Int) (hL : L.length ≤ 1000000) (hs : Srt L) : ∃ n, Cut L s n := by
  obtain ⟨n, h, _⟩ := behind_at ByteArray.empty 0 s hL (Nat.lt_succ_self _) hs
  exact ⟨n, h⟩
/-- What is added behind so many rules, and what that is called. -/
def valZ (n0 : ByteArray) (f0 : Int) (L : List Rul) (n : Nat) : Int × ByteArray := if n = 0 then (f0, n0) else ((gR L (n - 1)).2.1, (gR L (n - 1)).2.2)
theorem may_parts {n : ByteArray} {f : Int} {L : List Rul} (h : mayZ n f L = true) : L.length ≤ 32 ∧ allFrom L 0 L.length = true ∧ nameB n = true ∧ offB f = true := by
  unfold mayZ at h
  simp only [Bool.and_eq_true, decide_eq_true_eq] at h
  exact ⟨by omega, h.2.2.2, h.1, h.2.1⟩
theorem zat_bad {N : Nat} {n : ByteArray} {f : Int} {L : List Rul} (s : Int) (hL : L.length ≤ 1000000) (hN : L.length < N) (h : mayZ n f L = false) : f_13 N n f L s = some (0, ⟨#[]⟩, some 1) := by
  unfold f_13
  rw [check_at hL hN, h]; rfl
theorem zat_at {N : Nat} {n : ByteArray} {f : Int} {L : List Rul} {s : Int} (hN : 33 ≤ N) (h : mayZ n f L = true) {c : Nat} (hc : Cut L s c) : f_13 N n f L s = some ((valZ n f L c).1, (valZ n f L c).2, none) := by
  obtain ⟨hL, ha, _⟩ := may_parts h
  obtain ⟨m, h1, h2⟩ := behind_at (N := N) n f s (by omega) (by omega) (srt_of ha)
  obtain rfl := h1.uniq hc
  have hle := hc.le
  unfold f_13 valZ
  rw [check_at (by omega) (by omega), h]
  simp only [cond_true, Option.bind_some, Option.isNone_none, Bool.not_true, cond_false]
  rw [h2]
  simp only [Option.bind_some]
  by_cases h0 : m = 0
  · subst h0; rfl
  · rw [if_neg h0, beq_false_of_ne (show (m : Int) ≠ 0 by omega), wi64 (by omega) (by omega), decide_eq_true (show 0 ≤ (m : Int) - 1 ∧ (m : Int) - 1 < (L.length : Int) by omega), show ((m : Int) - 1).toNat = m - 1 by omega]
    rfl
theorem znext_bad {N : Nat} {n : ByteArray} {f : Int} {L : List Rul} (s : Int) (hL : L.length ≤ 1000000) (hN : L.length < N) (h : mayZ n f L = false) : f_14 N n f L s = some (0, some 1) := by
  unfold f_14
  rw [check_at hL hN, h]; rfl
theorem znext_at {N : Nat} {n : ByteArray} {f : Int} {L : List Rul} {s : Int} (hN : 33 ≤ N) (h : mayZ n f L = true) {c : Nat} (hc : Cut L s c) : f_14 N n f L s = some (if c < L.length then ((gR L c).1, none) else (0, some 6)) := by
  obtain ⟨hL, ha, _⟩ := may_parts h
  obtain ⟨m, h1, h2⟩ := behind_at (N := N) n f s (by omega) (by omega) (srt_of ha)
  obtain rfl := h1.uniq hc
  have hle := hc.le
  unfold f_14
  rw [check_at (by omega) (by omega), h]
  simp only [cond_true, Option.bind_some, Option.isNone_none, Bool.not_true, cond_false]
  rw [h2]
  simp only [Option.bind_some]
  by_cases h0 : m < L.length
  · rw [if_pos h0, beq_false_of_ne (show (m : Int) ≠ (L.length : Int) by omega), decide_eq_true (show 0 ≤ (m : Int) ∧ (m : Int) < (L.length : Int) by omega), Int.toNat_natCast]
    rfl
  · have e : m = L.length := by omega
    rw [if_neg h0, e, beq_self_eq_true]; rfl
/-! ### the document's -/
theorem rat_loop (N : Nat) {n : ByteArray} {f : Int} {L : List Rul} {s : Int} (hL : L.length ≤ 1000000) {c : Nat} (hc : Cut L s c) : ∀ (k M i : Nat), i + k = L.length → k < M → iter (b_19_0 N) M (s, (), (valZ n f L (min i c)).1, (valZ n f L (min i c)).2, (i : Int), (n, f, L)) = some (valZ n f L c) := by
  intro k
  induction k with
  | zero =>
    intro M i hi hM
    have := hc.le
    obtain ⟨M, rfl⟩ : ∃ m, M = m + 1 := ⟨M - 1, by omega⟩
    show b_19_0 N (iter (b_19_0 N) M) _ = _
    unfold b_19_0
    simp only
    rw [decide_eq_false (show ¬ (i : Int) < (L.length : Int) by omega), Nat.min_eq_right (by omega)]; rfl
  | succ k ih =>
    intro M i hi hM
    obtain ⟨M, rfl⟩ : ∃ m, M = m + 1 := ⟨M - 1, by omega⟩
    have ih' := ih M (i + 1) (by omega) (by omega)
    show b_19_0 N (iter (b_19_0 N) M) _ = _
    generalize iter (b_19_0 N) M = I at ih' ⊢
    unfold b_19_0
    simp only
    rw [decide_eq_true (show (i : Int) < (L.length : Int) by omega), decide_eq_true (show 0 ≤ (i : Int) ∧ (i : Int) < (L.length : Int) by omega), wi64 (n := (i : Int) + 1) (by omega) (by omega), show (i : Int) + 1 = ((i + 1 : Nat) : Int) by omega]
    simp only [cond_true, Int.toNat_natCast]
    show (bif decide ((gR L i).1 ≤ s) then I (s, (), (gR L i).2.1, (gR L i).2.2, ((i + 1 : Nat) : Int), (n, f, L)) else _) = _
    by_cases hi2 : i < c
    · rw [decide_eq_true (hc.lo i hi2), cond_true]
      rw [Nat.min_eq_left (by omega)] at ih'
      unfold valZ at ih' ⊢
      rw [if_neg (Nat.succ_ne_zero i), Nat.add_sub_cancel] at ih'
      exact ih'
    · rw [decide_eq_false (by have := hc.hi i (by omega) (by omega); omega), cond_false]
      rw [Nat.min_eq_right (show c ≤ i by omega)]
      rw [Nat.min_eq_right (show c ≤ i + 1 by omega)] at ih'
      exact ih'
theorem rat_at {N : Nat} {n : ByteArray} {f : Int} {L : List Rul} {s : Int} (hL : L.length ≤ 1000000) (hN : L.length < N) {c : Nat} (hc : Cut L s c) : f_19 N n f L s = some (valZ n f L c) := by
  have h := rat_loop N (n := n) (f := f) hL hc L.length N 0 (by omega) hN
  rw [Nat.min_eq_left (Nat.zero_le _)] at h
  have h' : l_19_0 N (s, (), f, n, 0, (n, f, L)) = some (valZ n f L c) := h
  unfold f_19
  rw [h']; rfl
end Go.Proofs.YtmdnnlfoljdfpaaDoor.Mir
