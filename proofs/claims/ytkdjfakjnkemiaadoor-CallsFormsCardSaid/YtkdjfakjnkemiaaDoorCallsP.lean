/- Package fields and the document's chapter 5: what each function answers, in plain data. -/
import Derived.Test.YtkdjfakjnkemiaaDoorPlainA
import Derived.Test.YtkdjfakjnkemiaaDoorCallsF
namespace Go.Proofs.YtkdjfakjnkemiaaDoor.Mir
open Go Go.RowKit
set_option maxRecDepth 100000

/-! ### taking -/
/-- A number of n bytes, out of what is left. -/
def tk (n : Nat) (s : List Int × Bool) : Int × (List Int × Bool) := if s.2 = true ∨ s.1.length < n then (0, ([], true)) else (ofLe (s.1.take n), (s.1.drop n, false))
theorem tk_by {n : Nat} {s : List Int × Bool} (h : By s.1) : By (tk n s).2.1 := by
  unfold tk; split
  · exact By.nil
  · exact h.drop n
theorem tk_lt {n : Nat} {s : List Int × Bool} (h : By s.1) : 0 ≤ (tk n s).1 ∧ (tk n s).1 < 256 ^ n := by
  unfold tk; split
  · exact ⟨Int.le_refl _, Int.pow_pos (by decide)⟩
  · rename_i hn
    have := ofLe_lt (h.take n)
    rw [List.length_take, Nat.min_eq_left (by omega)] at this
    exact this
theorem p256 : ∀ m : Fin 9, (256 : Int) ^ m.val ≤ 18446744073709551616 := by decide +kernel
theorem numV_at {zs : List Int} (h : By zs) (hl : zs.length ≤ 8) : numV zs = ofLe zs := by
  have key : ∀ k, k ≤ zs.length → (upTo (backAt zs zs.length) k).foldl numStep 0 = ofLe (zs.drop (zs.length - k)) := by
    intro k
    induction k with
    | zero => intro _; simp [upTo, ofLe]
    | succ k ih =>
      intro hk
      rw [upTo_succ, List.foldl_append, ih (by omega)]
      have hi : zs.length - (k + 1) < zs.length := by omega
      have e : zs.drop (zs.length - (k + 1)) = zs[zs.length - (k + 1)] :: zs.drop (zs.length - k) := by
        rw [List.drop_eq_getElem_cons hi, show zs.length - (k + 1) + 1 = zs.length - k by omega]
      have hb := ofLe_lt (h.drop (zs.length - (k + 1)))
      rw [e] at hb ⊢
      rw [List.length_cons, List.length_drop, show zs.length - (zs.length - k) + 1 = k + 1 by omega] at hb
      have hp : (256 : Int) ^ (k + 1) ≤ 18446744073709551616 := by
        exact p256 ⟨k + 1, by omega⟩
      have hc := h zs[zs.length - (k + 1)] (List.getElem_mem hi)
      have hv := (ofLe_lt (h.drop (zs.length - k))).1
      simp only [ofLe] at hb ⊢
      show bits .or .u64 (IntKind.u64.wrap (ofLe (zs.drop (zs.length - k)) * 256)) (IntKind.u64.wrap (zs[zs.length - 1 - k]?.getD 0)) = _
      have eg : zs[zs.length - 1 - k]?.getD 0 = zs[zs.length - (k + 1)] := by
        rw [show zs.length - 1 - k = zs.length - (k + 1) by omega, List.getElem?_eq_getElem hi]; rfl
      rw [eg, wu64 (by omega) (by omega), wu64 (by omega) (by omega), or256 _ _ hv hc.1 hc.2 (by omega)]
      omega
  have := key zs.length (Nat.le_refl _)
  rw [Nat.sub_self, List.drop_zero] at this
  exact this
theorem rdF_at {xs : List Int} {bd : Bool} {n : Nat} (h : By xs) (h1 : 1 ≤ n) (h8 : n ≤ 8) : rdF n xs bd = some ((tk n (xs, bd)).1, (tk n (xs, bd)).2.1, (tk n (xs, bd)).2.2) := by
  unfold rdF tk
  rw [decide_eq_true (by omega)]
  simp only [cond_true, Int.toNat_natCast]
  by_cases hb : bd = true ∨ xs.length < n
  · rw [if_pos hb]
    have : (bd || decide ((xs.length : Int) < (n : Int))) = true := by
      rcases hb with rfl | hb
      · rfl
      · rw [decide_eq_true (by omega)]; simp
    rw [this]; rfl
  · rw [if_neg hb]
    have : (bd || decide ((xs.length : Int) < (n : Int))) = false := by
      have h2 := not_or.1 hb
      rw [decide_eq_false (by omega)]
      simpa using h2.1
    rw [this, cond_false, numV_at (h.take n) (by rw [List.length_take]; omega)]
theorem u8_at (N : Nat) {xs : List Int} {bd : Bool} (h : By xs) : f_68 N xs bd = some (tk 1 (xs, bd)) := by
  unfold f_68
  rw [show (1 : Int) = ((1 : Nat) : Int) from rfl, rdF_at h (by decide) (by decide)]
  have := tk_lt (n := 1) (s := (xs, bd)) h
  simp only [Option.bind_some]
  rw [wu8 this.1 (by simpa using this.2)]
theorem u16_at (N : Nat) {xs : List Int} {bd : Bool} (h : By xs) : f_71 N xs bd = some (tk 2 (xs, bd)) := by
  unfold f_71
  rw [show (2 : Int) = ((2 : Nat) : Int) from rfl, rdF_at h (by decide) (by decide)]
  have := tk_lt (n := 2) (s := (xs, bd)) h
  simp only [Option.bind_some]
  rw [wu16 this.1 (by simpa using this.2)]
theorem i64_at (N : Nat) {xs : List Int} {bd : Bool} (h : By xs) : f_70 N xs bd = some (IntKind.i64.wrap (tk 8 (xs, bd)).1, (tk 8 (xs, bd)).2) := by
  unfold f_70
  rw [show (8 : Int) = ((8 : Nat) : Int) from rfl, rdF_at h (by decide) (by decide)]
  rfl
/-- A text, out of what is left. -/
def txt (s : List Int × Bool) : ByteArray × (List Int × Bool) :=
  if (tk 1 s).2.2 = true ∨ ((tk 1 s).2.1.length : Int) < (tk 1 s).1 then (bytesS [], ([], true)) else (bytesS ((tk 1 s).2.1.take (tk 1 s).1.toNat), ((tk 1 s).2.1.drop (tk 1 s).1.toNat, false))
theorem txt_by {s : List Int × Bool} (h : By s.1) : By (txt s).2.1 := by
  unfold txt; split
  · exact By.nil
  · exact (tk_by h).drop _
theorem text_at (N : Nat) {xs : List Int} {bd : Bool} (h : By xs) : f_69 N xs bd = some (txt (xs, bd)) := by
  unfold f_69
  rw [u8_at N h]
  have hl := tk_lt (n := 1) (s := (xs, bd)) h
  simp only [Option.bind_some]
  unfold txt
  generalize tk 1 (xs, bd) = r at *
  obtain ⟨v, ys, b⟩ := r
  simp only at hl ⊢
  have h2 : v < 256 := by simpa using hl.2
  rw [wi64 (by omega) (by omega)]
  unfold f_95
  cases b with
  | true => rfl
  | false =>
    simp only [cond_false, Bool.false_eq_true, false_or]
    by_cases hc : (ys.length : Int) < v
    · rw [if_pos hc, decide_eq_true (show v > (ys.length : Int) from hc)]; rfl
    · rw [if_neg hc, decide_eq_false (show ¬ v > (ys.length : Int) from hc), decide_eq_true (by omega), decide_eq_true (by omega), decide_eq_true (by omega)]
      simp
/-! ### the document's taking -/
theorem rtake_loop (N : Nat) {xs : List Int} {n : Nat} (h : By xs) (h8 : n ≤ 8) (hn : n ≤ xs.length) (bd : Bool) (z : List Int) (zb : Bool) : ∀ (k M : Nat), k ≤ n → k < M →
    iter (b_74_0 N) M ((n : Int), (), (), ofLe ((xs.take n).drop k), (k : Int) - 1, (xs, bd), (z, zb)) = some ((n : Int), (), (), ofLe (xs.take n), (xs, bd), (z, zb)) := by
  intro k
  induction k with
  | zero =>
    intro M _ hM
    obtain ⟨M, rfl⟩ : ∃ m, M = m + 1 := ⟨M - 1, by omega⟩
    show b_74_0 N (iter (b_74_0 N) M) _ = _
    unfold b_74_0
    simp
  | succ k ih =>
    intro M hk hM
    obtain ⟨M, rfl⟩ : ∃ m, M = m + 1 := ⟨M - 1, by omega⟩
    show b_74_0 N (iter (b_74_0 N) M) _ = _
    unfold b_74_0
    have hi : k < xs.length := by omega
    have ek : ((k + 1 : Nat) : Int) - 1 = (k : Int) := by omega
    have hb := ofLe_lt ((h.take n).drop k)
    have e : (xs.take n).drop k = xs[k] :: (xs.take n).drop (k + 1) := by
      rw [List.drop_eq_getElem_cons (by rw [List.length_take]; omega)]; simp
    rw [List.length_drop, List.length_take, Nat.min_eq_left hn] at hb
    have hp : (256 : Int) ^ (n - k) ≤ 18446744073709551616 := p256 ⟨n - k, by omega⟩
    have hc := h xs[k] (List.getElem_mem hi)
    have hv := (ofLe_lt ((h.take n).drop (k + 1))).1
    have eo : ofLe ((xs.take n).drop k) = xs[k] + 256 * ofLe ((xs.take n).drop (k + 1)) := by rw [e]; rfl
    simp only [ek]
    rw [decide_eq_true (show (k : Int) ≥ 0 by omega), decide_eq_true (show 0 ≤ (k : Int) ∧ (k : Int) < (xs.length : Int) by omega)]
    simp only [cond_true, Int.toNat_natCast]
    have eg : xs.getD k 0 = xs[k] := by rw [List.getD_eq_getElem?_getD, List.getElem?_eq_getElem hi]; rfl
    rw [eg, wu64 (n := 256 * _) (by omega) (by omega), wu64 (n := xs[k]) (by omega) (by omega), wu64 (by omega) (by omega), wi64 (by omega) (by omega)]
    have := ih M (by omega) (by omega)
    rw [eo] at this
    rw [show 256 * ofLe ((xs.take n).drop (k + 1)) + xs[k] = xs[k] + 256 * ofLe ((xs.take n).drop (k + 1)) by omega]
    exact this
theorem rtake_at {N : Nat} {xs : List Int} {bd : Bool} {n : Nat} (hN : 10 ≤ N) (h : By xs) (h8 : n ≤ 8) : f_74 N xs bd n = some ((tk n (xs, bd)).2, (tk n (xs, bd)).1) := by
  unfold f_74 tk
  cases bd with
  | true => rfl
  | false =>
    simp only [cond_false, Bool.false_eq_true, false_or]
    by_cases hc : xs.length < n
    · rw [if_pos hc, decide_eq_true (by omega)]; rfl
    · rw [if_neg hc, decide_eq_false (by omega), cond_false]
      have hl := rtake_loop N h h8 (by omega) false [] false n N (Nat.le_refl _) (by omega)
      rw [show (xs.take n).drop n = [] by simp] at hl
      rw [wi64 (by omega) (by omega)]
      have hl' : l_74_0 N ((n : Int), (), (), 0, (n : Int) - 1, (xs, false), (([] : List Int), false)) = some ((n : Int), (), (), ofLe (xs.take n), (xs, false), ([], false)) := hl
      rw [hl']
      simp only [Option.bind_some]
      rw [decide_eq_true (show 0 ≤ (xs.length : Int) ∧ (xs.length : Int) ≤ (xs.length : Int) by omega), decide_eq_true (show 0 ≤ (n : Int) ∧ (n : Int) ≤ (xs.length : Int) by omega)]
      simp
theorem rwords_at {N : Nat} {xs : List Int} {bd : Bool} (hN : 10 ≤ N) (h : By xs) (hx : xs.length < 1000000) : f_75 N xs bd = some ((txt (xs, bd)).2, (txt (xs, bd)).1) := by
  unfold f_75
  rw [show (1 : Int) = ((1 : Nat) : Int) from rfl, rtake_at hN h (by decide)]
  have hl := tk_lt (n := 1) (s := (xs, bd)) h
  have hz : (tk 1 (xs, bd)).2.1.length ≤ xs.length := by
    unfold tk; split <;> simp
  simp only [Option.bind_some]
  unfold txt
  generalize tk 1 (xs, bd) = r at *
  obtain ⟨v, ys, b⟩ := r
  simp only at hl hz ⊢
  have h2 : v < 256 := by simpa using hl.2
  cases b with
  | true => rfl
  | false =>
    simp only [cond_false, Bool.false_eq_true, false_or]
    rw [wu64 (by omega) (by omega)]
    by_cases hc : (ys.length : Int) < v
    · rw [if_pos hc, decide_eq_true hc]; rfl
    · rw [if_neg hc, decide_eq_false hc, decide_eq_true (show 0 ≤ (ys.length : Int) ∧ (ys.length : Int) ≤ (ys.length : Int) by omega), decide_eq_true (show 0 ≤ v ∧ v ≤ (ys.length : Int) by omega), decide_eq_true (show 0 ≤ (0 : Int) ∧ (0 : Int) ≤ v by omega)]
      simp
/-! ### numbers behind bytes -/
theorem num_loop (N : Nat) {v : Int} {n : Nat} (_ : 0 ≤ v) (h8 : n ≤ 8) : ∀ (k M i : Nat) (b : List Int), i + k = n → k < M → b.length + k ≤ 1000008 →
    iter (b_92_0 N) M (v, b, (n : Int), (i : Int)) = some (b ++ le k (v / 256 ^ i)) := by
  intro k
  induction k with
  | zero =>
    intro M i b hi hM _
    obtain ⟨M, rfl⟩ : ∃ m, M = m + 1 := ⟨M - 1, by omega⟩
    show (bif decide ((i : Int) < (n : Int)) then _ else some b) = _
    rw [decide_eq_false (by omega)]
    simp [le]
  | succ k ih =>
    intro M i b hi hM hb
    obtain ⟨M, rfl⟩ : ∃ m, M = m + 1 := ⟨M - 1, by omega⟩
    have ei : v / 2 ^ (min (Int.toNat (IntKind.i64.wrap (8 * (i : Int)))) IntKind.u64.bits) = v / 256 ^ i := by
      rw [wi64 (by omega) (by omega), show (8 * (i : Int)).toNat = 8 * i by omega, show IntKind.u64.bits = 64 from rfl, Nat.min_eq_left (by omega), Int.pow_mul]
      rfl
    show (bif decide ((i : Int) < (n : Int)) then (bif decide (IntKind.i64.wrap (8 * (i : Int)) < 0) then none else (bif decide ((b.length + ([(IntKind.u8.wrap (v / 2 ^ (min (Int.toNat (IntKind.i64.wrap (8 * (i : Int)))) IntKind.u64.bits)))] : List Int).length) * 1 ≤ 140737488355328) then iter (b_92_0 N) M (v, b ++ [(IntKind.u8.wrap (v / 2 ^ (min (Int.toNat (IntKind.i64.wrap (8 * (i : Int)))) IntKind.u64.bits)))], (n : Int), IntKind.i64.wrap ((i : Int) + 1)) else none)) else some b) = _
    have hlen : ∀ z : Int, (b.length + ([z] : List Int).length) * 1 ≤ 140737488355328 := fun z => by simp only [List.length_singleton]; omega
    have hneg : ¬ IntKind.i64.wrap (8 * (i : Int)) < 0 := by rw [wi64 (by omega) (by omega)]; omega
    rw [ei, decide_eq_true (show (i : Int) < (n : Int) by omega), decide_eq_false hneg, decide_eq_true (hlen _)]
    simp only [cond_true, cond_false]
    rw [wi64 (n := (i : Int) + 1) (by omega) (by omega), IntKind.wrap_u8]
    have := ih M (i + 1) (b ++ [v / 256 ^ i % 256]) (by omega) (by omega) (by rw [List.length_append, List.length_singleton]; omega)
    rw [show ((i + 1 : Nat) : Int) = (i : Int) + 1 by omega] at this
    rw [this, List.append_assoc]
    have e2 : v / 256 ^ (i + 1) = v / 256 ^ i / 256 := by rw [Int.pow_succ, Int.ediv_ediv_of_nonneg (Int.pow_nonneg (by decide))]
    rw [e2]; rfl
theorem clone_at {b : List Int} (hb : b.length ≤ 1000000) : cloneF [.int .u8] 1 b = some b := by
  unfold cloneF
  rw [decide_eq_true (show (0 + List.length (α := Int) b) * 1 ≤ 140737488355328 by omega)]; rfl
theorem num_at {N : Nat} {b : List Int} {v : Int} {n : Nat} (hN : 10 ≤ N) (hb : b.length ≤ 1000000) (h0 : 0 ≤ v) (h8 : n ≤ 8) : f_92 N b v n = some (b ++ le n v) := by
  unfold f_92
  rw [clone_at hb]
  have := num_loop N (v := v) h0 h8 n N 0 b (by omega) (by omega) (by omega)
  simp only [Int.pow_zero, Int.ediv_one] at this
  simp only [Option.bind_some]
  have h' : l_92_0 N (v, b, (n : Int), 0) = some (b ++ le n v) := this
  rw [h']; rfl
theorem put_loop (N : Nat) {n : Nat} (h8 : n ≤ 8) : ∀ (k M i : Nat) (v : Int) (b : List Int), i + k = n → k < M → 0 ≤ v → v < 18446744073709551616 → b.length + k ≤ 1000008 →
    iter (b_66_0 N) M (v, (n : Int), b, (i : Int)) = some (b ++ le k v) := by
  intro k
  induction k with
  | zero =>
    intro M i v b hi hM _ _ _
    obtain ⟨M, rfl⟩ : ∃ m, M = m + 1 := ⟨M - 1, by omega⟩
    show (bif decide ((i : Int) < (n : Int)) then _ else some b) = _
    rw [decide_eq_false (by omega)]
    simp [le]
  | succ k ih =>
    intro M i v b hi hM h0 h1 hb
    obtain ⟨M, rfl⟩ : ∃ m, M = m + 1 := ⟨M - 1, by omega⟩
    have e1 : Int.tmod v 256 = v % 256 := Int.tmod_eq_emod_of_nonneg h0
    have e2 : Int.tdiv v 256 = v / 256 := Int.tdiv_eq_ediv_of_nonneg h0
    have hlen : ∀ z : Int, (b.length + ([z] : List Int).length) * 1 ≤ 140737488355328 := fun z => by simp only [List.length_singleton]; omega
    show (bif decide ((i : Int) < (n : Int)) then (bif decide ((b.length + ([IntKind.u8.wrap (Int.tmod v 256)] : List Int).length) * 1 ≤ 140737488355328) then iter (b_66_0 N) M (IntKind.u64.wrap (Int.tdiv v 256), (n : Int), b ++ [IntKind.u8.wrap (Int.tmod v 256)], IntKind.i64.wrap ((i : Int) + 1)) else none) else some b) = _
    rw [e1, e2, decide_eq_true (show (i : Int) < (n : Int) by omega), decide_eq_true (hlen _), wu8 (by omega) (by omega), wu64 (by omega) (by omega), wi64 (by omega) (by omega)]
    simp only [cond_true]
    have := ih M (i + 1) (v / 256) (b ++ [v % 256]) (by omega) (by omega) (by omega) (by omega) (by rw [List.length_append, List.length_singleton]; omega)
    rw [show ((i + 1 : Nat) : Int) = (i : Int) + 1 by omega] at this
    rw [this, List.append_assoc]; rfl
theorem put_at {N : Nat} {b : List Int} {v : Int} {n : Nat} (hN : 10 ≤ N) (hb : b.length ≤ 1000000) (h0 : 0 ≤ v) (h1 : v < 18446744073709551616) (h8 : n ≤ 8) : f_66 N b v n = some (b ++ le n v) := by
  unfold f_66
  have h := put_loop N h8 n N 0 v b (by omega) (by omega) h0 h1 (by omega)
  have h' : l_66_0 N (v, (n : Int), [] ++ b, 0) = some (b ++ le n v) := h
  rw [decide_eq_true (show (List.length ([] : List Int) + b.length) * 1 ≤ 140737488355328 by simp only [List.length_nil]; omega), cond_true, h']; rfl
theorem pu16_at {N : Nat} {b : List Int} {v : Int} (hN : 10 ≤ N) (hb : b.length ≤ 1000000) (h0 : 0 ≤ v) (h1 : v < 65536) : f_63 N b v = some (b ++ le 2 v) := by
  unfold f_63
  rw [wu64 h0 (by omega), show (2 : Int) = ((2 : Nat) : Int) from rfl, num_at hN hb h0 (by decide)]; rfl
theorem pi64_at {N : Nat} {b : List Int} {v : Int} (hN : 10 ≤ N) (hb : b.length ≤ 1000000) : f_64 N b v = some (b ++ le 8 (IntKind.u64.wrap v)) := by
  unfold f_64
  rw [show (8 : Int) = ((8 : Nat) : Int) from rfl, num_at hN hb (wu64_lt v).1 (by decide)]; rfl
theorem bytesL_len (s : ByteArray) : (bytesL s).length = s.size := by unfold bytesL; rw [List.length_map]; rfl
theorem bytesL_by (s : ByteArray) : By (bytesL s) := fun x hx => by
  obtain ⟨b, _, rfl⟩ := List.mem_map.1 hx
  have := b.toNat_lt
  omega
theorem ftext_at {N : Nat} {b : List Int} {s : ByteArray} (hN : 10 ≤ N) (hb : b.length ≤ 100000) : f_62 N b s = if s.size > 255 then some ([], some 5) else some (b ++ le 1 (s.size : Int) ++ bytesL s, none) := by
  unfold f_62
  by_cases h : s.size > 255
  · rw [if_pos h, decide_eq_true (by omega)]; rfl
  · rw [if_neg h, decide_eq_false (by omega), cond_false, wu64 (by omega) (by omega), show (1 : Int) = ((1 : Nat) : Int) from rfl, num_at hN (by omega) (by omega) (by decide)]
    simp only [Option.bind_some]
    rw [decide_eq_true (show (List.length (b ++ le 1 (s.size : Int)) + (bytesL s).length) * 1 ≤ 140737488355328 by rw [List.length_append, le_len, bytesL_len]; omega)]; rfl
theorem rtext_at {N : Nat} {b : List Int} {s : ByteArray} (hN : 10 ≤ N) (hb : b.length ≤ 100000) : f_65 N b s = if s.size > 255 then some ([], 5) else some (b ++ le 1 (s.size : Int) ++ bytesL s, 0) := by
  unfold f_65
  by_cases h : s.size > 255
  · rw [if_pos h, decide_eq_true (by omega)]; rfl
  · rw [if_neg h, decide_eq_false (by omega), cond_false, wu64 (by omega) (by omega), show (1 : Int) = ((1 : Nat) : Int) from rfl, put_at hN (by omega) (by omega) (by omega) (by decide)]
    simp only [Option.bind_some]
    rw [decide_eq_true (show s.size ≤ 140737488355328 by omega), decide_eq_true (show (List.length (b ++ le 1 (s.size : Int)) + (bytesL s).length) * 1 ≤ 140737488355328 by rw [List.length_append, le_len, bytesL_len]; omega)]; rfl
end Go.Proofs.YtkdjfakjnkemiaaDoor.Mir
