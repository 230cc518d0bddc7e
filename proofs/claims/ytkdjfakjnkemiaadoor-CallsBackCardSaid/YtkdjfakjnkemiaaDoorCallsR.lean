/- Package calls and the document's chapter 44: answers as bytes, and back; prices; in plain data. -/
import Derived.Test.YtkdjfakjnkemiaaDoorCallsQ
namespace Go.Proofs.YtkdjfakjnkemiaaDoor.Mir
open Go Go.RowKit
set_option maxRecDepth 100000

/-! ### an answer as bytes -/
def tells (b : List Int) (vs : List Int) : List Int := vs.foldl (fun b v => b ++ le 8 (IntKind.u64.wrap v)) b
def tellB (c : Int) (vs : List Int) : List Int := tells ([33] ++ le 2 c) vs
theorem tells_len : ∀ (vs b : List Int), (tells b vs).length = b.length + 8 * vs.length
  | [], b => by simp [tells]
  | v :: vs, b => by
    show (tells (b ++ le 8 (IntKind.u64.wrap v)) vs).length = _
    rw [tells_len vs, List.length_append, le_len, List.length_cons]; omega
theorem tell_loop (N : Nat) (hN : 10 ≤ N) {L : List Int} (hL : L.length = 6) : ∀ (k M i : Nat) (b : List Int), i + k = 6 → k < M → b.length + 8 * k ≤ 1000 →
    iter (b_15_0 N) M (b, L, (i : Int)) = some (tells b (L.drop i)) := by
  intro k
  induction k with
  | zero =>
    intro M i b hi hM _
    obtain ⟨M, rfl⟩ : ∃ m, M = m + 1 := ⟨M - 1, by omega⟩
    show (bif decide ((i : Int) < 6) then _ else some b) = _
    rw [decide_eq_false (by omega), List.drop_eq_nil_of_le (by omega)]; rfl
  | succ k ih =>
    intro M i b hi hM hb
    obtain ⟨M, rfl⟩ : ∃ m, M = m + 1 := ⟨M - 1, by omega⟩
    show (bif decide ((i : Int) < 6) then (bif decide (0 ≤ (i : Int) ∧ (i : Int) < 6 ∧ 6 = 6) then Option.bind (f_64 N b (L.getD (Int.toNat (i : Int)) 0)) (fun r => iter (b_15_0 N) M (r, L, IntKind.i64.wrap ((i : Int) + 1))) else none) else some b) = _
    have hi' : i < L.length := by omega
    rw [decide_eq_true (show (i : Int) < 6 by omega), decide_eq_true (show 0 ≤ (i : Int) ∧ (i : Int) < 6 ∧ 6 = 6 from ⟨by omega, by omega, rfl⟩)]
    simp only [cond_true]
    rw [pi64_at hN (by omega)]
    simp only [Option.bind_some]
    rw [wi64 (by omega) (by omega), Int.toNat_natCast, List.getD_eq_getElem?_getD, List.getElem?_eq_getElem hi']
    have := ih M (i + 1) (b ++ le 8 (IntKind.u64.wrap L[i])) (by omega) (by omega) (by rw [List.length_append, le_len]; omega)
    rw [show ((i + 1 : Nat) : Int) = (i : Int) + 1 by omega] at this
    show iter (b_15_0 N) M (b ++ le 8 (IntKind.u64.wrap L[i]), L, (i : Int) + 1) = _
    rw [this, List.drop_eq_getElem_cons hi']; rfl
def okCode (c : Int) : Bool := decide (0 ≤ c ∧ c ≤ 65535)
theorem tell_at {N : Nat} (hN : 10 ≤ N) (c v1 v2 v3 v4 v5 v6 : Int) : f_15 N c v1 v2 v3 v4 v5 v6 = some (if okCode c = true then (tellB c [v1, v2, v3, v4, v5, v6], none) else ([], some 1)) := by
  unfold f_15 okCode
  by_cases h1 : c < 0
  · rw [decide_eq_true h1, if_neg (by simp; omega)]; rfl
  rw [decide_eq_false h1, cond_false]
  by_cases h2 : c ≥ 65536
  · rw [decide_eq_true h2, if_neg (by simp; omega)]; rfl
  rw [decide_eq_false h2, cond_false, if_pos (decide_eq_true (by omega)), wu16 (by omega) (by omega), pu16_at hN (by simp) (by omega) (by omega)]
  simp only [Option.bind_some]
  have h := tell_loop N hN (L := [v1, v2, v3, v4, v5, v6]) rfl 6 N 0 ([33] ++ le 2 c) rfl (by omega) (by rw [List.length_append, le_len]; simp)
  have h' : l_15_0 N ([33] ++ le 2 c, [v1, v2, v3, v4, v5, v6], 0) = some (tellB c [v1, v2, v3, v4, v5, v6]) := h
  rw [h']; rfl
theorem rtell_at {N : Nat} (hN : 10 ≤ N) (c v1 v2 v3 v4 v5 v6 : Int) : f_16 N c v1 v2 v3 v4 v5 v6 = some (if okCode c = true then (tellB c [v1, v2, v3, v4, v5, v6], 0) else ([], 1)) := by
  unfold f_16 okCode
  by_cases h1 : c < 0
  · rw [decide_eq_true h1, if_neg (by simp; omega)]; rfl
  rw [decide_eq_false h1, cond_false]
  by_cases h2 : c > 65535
  · rw [decide_eq_true h2, if_neg (by simp; omega)]; rfl
  rw [decide_eq_false h2, cond_false, if_pos (decide_eq_true (by omega)), wu64 (n := c) (by omega) (by omega)]
  have put8 : ∀ (b : List Int) (v : Int), b.length ≤ 1000 → f_66 N b (IntKind.u64.wrap v) 8 = some (b ++ le 8 (IntKind.u64.wrap v)) := fun b v hb => put_at (n := 8) hN (by omega) (wu64_lt v).1 (wu64_lt v).2 (by decide)
  rw [show (2 : Int) = ((2 : Nat) : Int) from rfl, put_at hN (by simp) (by omega) (by omega) (by decide)]
  simp only [Option.bind_some]
  rw [put8 _ v1 (by simp [le_len])]
  simp only [Option.bind_some]
  rw [put8 _ v2 (by simp [le_len])]
  simp only [Option.bind_some]
  rw [put8 _ v3 (by simp [le_len])]
  simp only [Option.bind_some]
  rw [put8 _ v4 (by simp [le_len])]
  simp only [Option.bind_some]
  rw [put8 _ v5 (by simp [le_len])]
  simp only [Option.bind_some]
  rw [put8 _ v6 (by simp [le_len])]
  rfl
/-! ### and back -/
/-- What is left behind o bytes. -/
def atO (xs : List Int) (o : Nat) : List Int × Bool := if xs.length < o then ([], true) else (xs.drop o, false)
def valO (xs : List Int) (o n : Nat) : Int := if xs.length < o + n then 0 else ofLe ((xs.drop o).take n)
theorem atO_by {xs : List Int} (h : By xs) (o : Nat) : By (atO xs o).1 := by
  unfold atO; split
  · exact By.nil
  · exact h.drop o
theorem tk_atO (xs : List Int) (o n : Nat) : tk n (atO xs o) = (valO xs o n, atO xs (o + n)) := by
  unfold tk atO valO
  by_cases h1 : xs.length < o
  · rw [if_pos h1, if_pos (.inl rfl), if_pos (by omega), if_pos (by omega)]
  · rw [if_neg h1]
    by_cases h2 : xs.length < o + n
    · rw [if_pos (.inr (by rw [List.length_drop]; omega)), if_pos h2, if_pos h2]
    · rw [if_neg (by simp; omega), if_neg h2, if_neg h2, List.drop_drop]
def hearS (xs : List Int) : Option (Int × Int × Int × Int × Int × Int × Int) :=
  if xs.length = 51 ∧ xs.getD 0 0 = 33 then some (valO xs 1 2, IntKind.i64.wrap (valO xs 3 8), IntKind.i64.wrap (valO xs 11 8), IntKind.i64.wrap (valO xs 19 8), IntKind.i64.wrap (valO xs 27 8), IntKind.i64.wrap (valO xs 35 8), IntKind.i64.wrap (valO xs 43 8)) else none
theorem valO_head {xs : List Int} (h : 1 ≤ xs.length) : valO xs 0 1 = xs.getD 0 0 := by
  unfold valO
  rw [if_neg (by omega)]
  cases xs with
  | nil => simp at h
  | cons x xs => simp [ofLe]
theorem valO_lt {xs : List Int} (h : By xs) (o n : Nat) : 0 ≤ valO xs o n ∧ valO xs o n < 256 ^ n := by
  have := tk_lt (n := n) (s := atO xs o) (atO_by h o)
  rw [tk_atO] at this
  exact this
theorem hear_at {N : Nat} {xs : List Int} (h : By xs) (hl : xs.length ≤ 10000) : f_19 N xs = some (match hearS xs with | some c => (c, none) | none => ((0, 0, 0, 0, 0, 0, 0), some 3)) := by
  have u8 : ∀ o, f_68 N (atO xs o).1 (atO xs o).2 = some (valO xs o 1, atO xs (o + 1)) := fun o => (u8_at N (atO_by h o)).trans (congrArg some (tk_atO xs o 1))
  have u16 : ∀ o, f_71 N (atO xs o).1 (atO xs o).2 = some (valO xs o 2, atO xs (o + 2)) := fun o => (u16_at N (atO_by h o)).trans (congrArg some (tk_atO xs o 2))
  have i64 : ∀ o, f_70 N (atO xs o).1 (atO xs o).2 = some (IntKind.i64.wrap (valO xs o 8), atO xs (o + 8)) := fun o => by
    have := i64_at N (bd := (atO xs o).2) (atO_by h o)
    rw [show tk 8 ((atO xs o).1, (atO xs o).2) = _ from tk_atO xs o 8] at this
    exact this
  have h0 : atO xs 0 = (xs, false) := by unfold atO; rw [if_neg (by omega), List.drop_zero]
  unfold f_19 f_67
  rw [clone_at (by omega)]
  show Option.bind (f_68 N xs false) _ = _
  have e0 := u8 0
  rw [h0] at e0
  rw [e0]
  show Option.bind (f_71 N (atO xs 1).1 (atO xs 1).2) _ = _
  rw [u16 1]
  show Option.bind (f_70 N (atO xs 3).1 (atO xs 3).2) _ = _
  rw [i64 3]
  show Option.bind (f_70 N (atO xs 11).1 (atO xs 11).2) _ = _
  rw [i64 11]
  show Option.bind (f_70 N (atO xs 19).1 (atO xs 19).2) _ = _
  rw [i64 19]
  show Option.bind (f_70 N (atO xs 27).1 (atO xs 27).2) _ = _
  rw [i64 27]
  show Option.bind (f_70 N (atO xs 35).1 (atO xs 35).2) _ = _
  rw [i64 35]
  show Option.bind (f_70 N (atO xs 43).1 (atO xs 43).2) _ = _
  rw [i64 43]
  show (bif (valO xs 0 1 != 33) then _ else Option.bind (f_73 N (atO xs 51).1 (atO xs 51).2) _) = _
  unfold hearS
  by_cases hL : xs.length = 51
  rotate_left
  · rw [if_neg (fun h => hL h.1)]
    cases hb : (valO xs 0 1 != 33) with
    | true => rfl
    | false =>
      rw [cond_false]
      have hd : ∃ s, f_73 N (atO xs 51).1 (atO xs 51).2 = some (some 3, s) := by
        unfold atO f_73
        by_cases h3 : xs.length < 51
        · rw [if_pos h3]; exact ⟨_, rfl⟩
        · rw [if_neg h3]
          refine ⟨(xs.drop 51, false), ?_⟩
          show (bif decide (((xs.drop 51).length : Int) > 0) then _ else _) = _
          rw [decide_eq_true (by rw [List.length_drop]; omega)]; rfl
      obtain ⟨s, hd⟩ := hd
      rw [hd]; rfl
  rw [valO_head (by omega)]
  by_cases h3 : xs.getD 0 0 = 33
  · rw [if_pos ⟨hL, h3⟩, h3, bne_self_eq_false, cond_false]
    have hd : f_73 N (atO xs 51).1 (atO xs 51).2 = some (none, ([], false)) := by
      have : atO xs 51 = ([], false) := by unfold atO; rw [if_neg (by omega), List.drop_eq_nil_of_le (by omega)]
      rw [this]; rfl
    rw [hd]
    have hc := valO_lt h 1 2
    have hc2 : valO xs 1 2 < 65536 := by simpa using hc.2
    show some ((IntKind.i64.wrap (valO xs 1 2), _), _) = _
    rw [wi64 (by omega) (by omega)]
  · rw [if_neg (fun h => h3 h.2), bne_iff_ne.2 h3]; rfl
end Go.Proofs.YtkdjfakjnkemiaaDoor.Mir
