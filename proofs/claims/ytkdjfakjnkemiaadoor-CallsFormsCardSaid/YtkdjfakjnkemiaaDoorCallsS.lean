/- The document's answers back from bytes, prices, and the law of chapter 44's forms, in plain data. -/
import Derived.Test.YtkdjfakjnkemiaaDoorCallsR
namespace Go.Proofs.YtkdjfakjnkemiaaDoor.Mir
open Go Go.RowKit
set_option maxRecDepth 100000

theorem rhear_step (N : Nat) (hN : 10 ≤ N) {xs : List Int} (h : By xs) (hl : xs.length = 51) (z : Int × Int × Int × Int × Int × Int × Int) (A : List Int) (M i : Nat) (hi : i < 6) :
    iter (b_20_0 N) (M + 1) (xs, (), (), (i : Int), z, A) = iter (b_20_0 N) M (xs, (), (), ((i + 1 : Nat) : Int), z, A.set i (IntKind.i64.wrap (valO xs (3 + 8 * i) 8))) := by
  have ew : IntKind.i64.wrap (3 + IntKind.i64.wrap (8 * (i : Int))) = 3 + 8 * (i : Int) := by rw [wi64 (n := 8 * (i : Int)) (by omega) (by omega), wi64 (by omega) (by omega)]
  have et : f_74 N (List.drop (Int.toNat (3 + 8 * (i : Int))) (List.take (Int.toNat (xs.length : Int)) xs)) false 8 = some (atO xs (3 + 8 * i + 8), valO xs (3 + 8 * i) 8) := by
    have := rtake_at hN (xs := (atO xs (3 + 8 * i)).1) (bd := (atO xs (3 + 8 * i)).2) (n := 8) (atO_by h _) (by decide)
    rw [tk_atO] at this
    rw [Int.toNat_natCast, List.take_length, show (3 + 8 * (i : Int)).toNat = 3 + 8 * i by omega]
    unfold atO at this ⊢
    rw [if_neg (by omega)] at this
    exact this
  show (bif decide ((i : Int) < 6) then (bif decide (0 ≤ (xs.length : Int) ∧ (xs.length : Int) ≤ (xs.length : Int)) then (bif decide (0 ≤ IntKind.i64.wrap (3 + IntKind.i64.wrap (8 * (i : Int))) ∧ IntKind.i64.wrap (3 + IntKind.i64.wrap (8 * (i : Int))) ≤ (xs.length : Int)) then Option.bind (f_74 N (List.drop (Int.toNat (IntKind.i64.wrap (3 + IntKind.i64.wrap (8 * (i : Int))))) (List.take (Int.toNat (xs.length : Int)) xs)) false 8) (fun r => bif decide (0 ≤ (i : Int) ∧ (i : Int) < 6) then iter (b_20_0 N) M (xs, (), (), IntKind.i64.wrap ((i : Int) + 1), z, A.set (Int.toNat (i : Int)) (IntKind.i64.wrap r.2)) else none) else none) else none) else some (xs, (), (), z, A)) = _
  rw [ew, et, decide_eq_true (show (i : Int) < 6 by omega), decide_eq_true (show 0 ≤ (xs.length : Int) ∧ (xs.length : Int) ≤ (xs.length : Int) by omega), decide_eq_true (show 0 ≤ 3 + 8 * (i : Int) ∧ 3 + 8 * (i : Int) ≤ (xs.length : Int) by omega), decide_eq_true (show 0 ≤ (i : Int) ∧ (i : Int) < 6 by omega)]
  simp only [cond_true, Option.bind_some]
  rw [wi64 (n := (i : Int) + 1) (by omega) (by omega), Int.toNat_natCast]
  rfl
theorem rhear_at {N : Nat} (hN : 10 ≤ N) {xs : List Int} (h : By xs) : f_20 N xs = some (match hearS xs with | some c => (c, 0) | none => ((0, 0, 0, 0, 0, 0, 0), 3)) := by
  unfold f_20 hearS
  by_cases hL : xs.length = 51
  rotate_left
  · rw [if_neg (fun h => hL h.1), bne_iff_ne.2 (show (xs.length : Int) ≠ 51 by omega)]; rfl
  have e51 : ((xs.length : Int) != 51) = false := by rw [hL]; rfl
  rw [e51, cond_false, decide_eq_true (show 0 ≤ (0 : Int) ∧ (0 : Int) < (xs.length : Int) by omega), cond_true, show Int.toNat 0 = 0 from rfl]
  by_cases h3 : xs.getD 0 0 = 33
  rotate_left
  · rw [if_neg (fun h => h3 h.2), bne_iff_ne.2 h3]; rfl
  rw [if_pos ⟨hL, h3⟩, h3, bne_self_eq_false, cond_false]
  have hlp : l_20_0 N (xs, (), (), 0, (0, 0, 0, 0, 0, 0, 0), [0, 0, 0, 0, 0, 0]) = some (xs, (), (), (0, 0, 0, 0, 0, 0, 0), [IntKind.i64.wrap (valO xs 3 8), IntKind.i64.wrap (valO xs 11 8), IntKind.i64.wrap (valO xs 19 8), IntKind.i64.wrap (valO xs 27 8), IntKind.i64.wrap (valO xs 35 8), IntKind.i64.wrap (valO xs 43 8)]) := by
    obtain ⟨M, rfl⟩ : ∃ m, N = m + 7 := ⟨N - 7, by omega⟩
    show iter (b_20_0 (M + 7)) (M + 6 + 1) (xs, (), (), ((0 : Nat) : Int), (0, 0, 0, 0, 0, 0, 0), [0, 0, 0, 0, 0, 0]) = _
    rw [rhear_step _ hN h hL _ _ _ _ (by decide), rhear_step _ hN h hL _ _ _ _ (by decide), rhear_step _ hN h hL _ _ _ _ (by decide), rhear_step _ hN h hL _ _ _ _ (by decide), rhear_step _ hN h hL _ _ _ _ (by decide), rhear_step _ hN h hL _ _ _ _ (by decide)]
    rfl
  rw [hlp]
  simp only [Option.bind_some]
  rw [decide_eq_true (show 0 ≤ (1 : Int) ∧ (1 : Int) < (xs.length : Int) by omega), decide_eq_true (show 0 ≤ (2 : Int) ∧ (2 : Int) < (xs.length : Int) by omega)]
  simp only [cond_true]
  have g1 : valO xs 1 2 = xs.getD 1 0 + 256 * xs.getD 2 0 := by
    unfold valO
    rw [if_neg (by omega)]
    match xs, hL with
    | a :: b :: c :: r, _ => simp [ofLe]
  have b1 : 0 ≤ xs.getD 1 0 ∧ xs.getD 1 0 < 256 := by
    rw [List.getD_eq_getElem?_getD, List.getElem?_eq_getElem (by omega)]; exact h _ (List.getElem_mem _)
  have b2 : 0 ≤ xs.getD 2 0 ∧ xs.getD 2 0 < 256 := by
    rw [List.getD_eq_getElem?_getD, List.getElem?_eq_getElem (by omega)]; exact h _ (List.getElem_mem _)
  have e1 : IntKind.i64.wrap (IntKind.i64.wrap (xs.getD (Int.toNat 1) 0) + IntKind.i64.wrap (256 * IntKind.i64.wrap (xs.getD (Int.toNat 2) 0))) = valO xs 1 2 := by
    rw [show Int.toNat 1 = 1 from rfl, show Int.toNat 2 = 2 from rfl, wi64 (n := xs.getD 1 0) (by omega) (by omega), wi64 (n := xs.getD 2 0) (by omega) (by omega), wi64 (n := 256 * _) (by omega) (by omega), wi64 (by omega) (by omega), g1]
  rw [e1]
  rfl
/-! ### prices -/
theorem price_loop (N : Nat) (c : Int × ByteArray × List Int × Int) (hl : c.2.2.1.length ≤ 2000) : ∀ (k M i : Nat) (v : Int), i + k = (c.2.2.1.length + 63) / 64 → k < M → 0 ≤ v → v + k ≤ 1000 →
    iter (b_25_0 N) M ((), v, ((64 * i : Nat) : Int), c) = some (v + k) := by
  intro k
  induction k with
  | zero =>
    intro M i v hi hM h0 h1
    obtain ⟨M, rfl⟩ : ∃ m, M = m + 1 := ⟨M - 1, by omega⟩
    show (bif decide (((64 * i : Nat) : Int) < (c.2.2.1.length : Int)) then _ else some v) = _
    rw [decide_eq_false (by omega), cond_false]; congr 1; omega
  | succ k ih =>
    intro M i v hi hM h0 h1
    obtain ⟨M, rfl⟩ : ∃ m, M = m + 1 := ⟨M - 1, by omega⟩
    show (bif decide (((64 * i : Nat) : Int) < (c.2.2.1.length : Int)) then iter (b_25_0 N) M ((), IntKind.i64.wrap (v + 1), IntKind.i64.wrap (((64 * i : Nat) : Int) + 64), c) else some v) = _
    rw [decide_eq_true (by omega), cond_true, wi64 (by omega) (by omega), wi64 (by omega) (by omega), show ((64 * i : Nat) : Int) + 64 = ((64 * (i + 1) : Nat) : Int) by omega, ih M (i + 1) (v + 1) (by omega) (by omega) (by omega) (by omega)]
    congr 1; omega
def priceV (k : Int) (b : List Int) : Int := if k = 0 ∨ k = 1 then k + 1 + (b.length + 63) / 64 else if 2 ≤ k ∧ k ≤ 6 then 8 + (b.length + 63) / 64 else 0
theorem price_at {N : Nat} (k : Int) (s : ByteArray) {b : List Int} (n : Int) (hb : b.length ≤ 2000) : f_24 N k s b n = some (priceV k b) := by
  have e0 : ∀ m : Int, 0 ≤ m → m ≤ 8 → IntKind.i64.wrap (m + IntKind.i64.wrap (Int.tdiv (IntKind.i64.wrap (IntKind.i64.wrap ((b.length : Int) + 64) - 1)) 64)) = m + (b.length + 63) / 64 := by
    intro m h0 h8
    rw [wi64 (n := (b.length : Int) + 64) (by omega) (by omega), wi64 (n := (b.length : Int) + 64 - 1) (by omega) (by omega), Int.tdiv_eq_ediv_of_nonneg (by omega), wi64 (n := _ / _) (by omega) (by omega), wi64 (by omega) (by omega)]
    omega
  unfold f_24 priceV
  rw [e0 1 (by decide) (by decide), e0 2 (by decide) (by decide), e0 8 (by decide) (by decide)]
  by_cases h0 : k = 0
  · subst h0; rfl
  by_cases h1 : k = 1
  · subst h1; rfl
  rw [if_neg (by omega)]
  by_cases h2 : k = 2
  · subst h2; rfl
  by_cases h3 : k = 3
  · subst h3; rfl
  by_cases h4 : k = 4
  · subst h4; rfl
  by_cases h5 : k = 5
  · subst h5; rfl
  by_cases h6 : k = 6
  · subst h6; rfl
  rw [if_neg (by omega), beq_false_of_ne h0, beq_false_of_ne h1, beq_false_of_ne h2, beq_false_of_ne h3, beq_false_of_ne h4, beq_false_of_ne h5, beq_false_of_ne h6]
  rfl
theorem rprice_at {N : Nat} (hN : 100 ≤ N) (k : Int) (s : ByteArray) {b : List Int} (n : Int) (hb : b.length ≤ 2000) : f_25 N k s b n = some (priceV k b) := by
  have hl : ∀ v : Int, 0 ≤ v → v ≤ 100 → l_25_0 N ((), v, 0, (k, s, b, n)) = some (v + (b.length + 63) / 64) := by
    intro v h0 h1
    have := price_loop N (k, s, b, n) hb ((b.length + 63) / 64) N 0 v (by simp) (by omega) h0 (by omega)
    show iter (b_25_0 N) N ((), v, ((64 * 0 : Nat) : Int), (k, s, b, n)) = _
    rw [this]; congr 1
  unfold f_25 priceV
  by_cases h0 : k < 0
  · rw [decide_eq_true h0, if_neg (by omega), if_neg (by omega)]; rfl
  rw [decide_eq_false h0, cond_false]
  by_cases h1 : k > 6
  · rw [decide_eq_true h1, if_neg (by omega), if_neg (by omega)]; rfl
  rw [decide_eq_false h1, cond_false]
  by_cases h2 : k < 2
  · rw [decide_eq_true h2, cond_true, if_pos (by omega), wi64 (by omega) (by omega), hl _ (by omega) (by omega)]; rfl
  · rw [decide_eq_false h2, cond_false, if_neg (by omega), if_pos (by omega), hl _ (by omega) (by omega)]; rfl
/-! ### the law -/
theorem same_self (N : Nat) (k : Int) (s : ByteArray) (b : List Int) (n : Int) : f_22 N k s b n k s b n = some true := by
  unfold f_22
  rw [beq_self_eq_true, beq_self_eq_true, beq_self_eq_true, beq_self_eq_true]; rfl
theorem isAns_self (N : Nat) (a b c d e f g : Int) : f_23 N a b c d e f g a b c d e f g = some true := by
  unfold f_23
  rw [beq_self_eq_true, beq_self_eq_true, beq_self_eq_true, beq_self_eq_true, beq_self_eq_true, beq_self_eq_true, beq_self_eq_true]; rfl
theorem num_none (N : Nat) : f_21 N none = some 0 := rfl
theorem num_some (N : Nat) (e : Int) : f_21 N (some e) = some e := rfl
theorem forms_holds (k : Int) (s : ByteArray) (b : List Int) (n c v1 v2 v3 v4 v5 v6 : Int) (xs : List Int) (hx : By xs) :
    f_3 3000 k s b n c v1 v2 v3 v4 v5 v6 xs = some true := by
  unfold f_3
  by_cases g1 : (s.size : Int) > 400
  · rw [decide_eq_true g1, cond_true, sure_at]; rfl
  rw [decide_eq_false g1, cond_false]
  by_cases g2 : (b.length : Int) > 2000
  · rw [decide_eq_true g2, cond_true, sure_at]; rfl
  rw [decide_eq_false g2, cond_false]
  by_cases g3 : (xs.length : Int) > 1500
  · rw [decide_eq_true g3, cond_true, sure_at]; rfl
  rw [decide_eq_false g3, cond_false, enc_at (by decide), renc_at (by decide), tell_at (by decide), rtell_at (by decide), dec_at (by decide) hx (by omega), rdec_at (by decide) hx (by omega), hear_at hx (by omega), rhear_at (by decide) hx, price_at k s n (by omega), rprice_at (by decide) k s n (by omega), sure_at]
  simp only [Option.bind_some]
  have p1 : ∀ o : Option (List Int), (match o with | some r => (r, (none : Option Int)) | none => (([] : List Int), some 1)).1 = (match o with | some r => (r, (0 : Int)) | none => (([] : List Int), 1)).1 := by intro o; cases o <;> rfl
  cases callB k s b n <;> cases callD xs <;> cases hearS xs <;> by_cases ho : okCode c = true
  all_goals first
    | rw [if_pos ho, if_pos ho]
    | rw [if_neg ho, if_neg ho]
  all_goals simp only [num_none, num_some, same_self, isAns_self, Option.bind_some, beq_self_eq_true, cond_true]
end Go.Proofs.YtkdjfakjnkemiaaDoor.Mir
