/- Package calls and the document's chapter 44: calls and answers as bytes, and back, in plain data. -/
import Derived.Test.YtkdjfakjnkemiaaDoorCallsP
namespace Go.Proofs.YtkdjfakjnkemiaaDoor.Mir
open Go Go.RowKit
set_option maxRecDepth 100000

theorem sure_at : f_12 3000 = some true := by kernel_rfl
/-! ### a call as bytes -/
def callB (k : Int) (s : ByteArray) (b : List Int) (n : Int) : Option (List Int) :=
  if k < 0 ∨ k > 255 ∨ s.size > 255 ∨ b.length > 1024 then none else some (([63, k] ++ le 1 (s.size : Int) ++ bytesL s) ++ le 8 (IntKind.u64.wrap n) ++ le 2 (b.length : Int) ++ b)
theorem enc_at {N : Nat} (hN : 10 ≤ N) (k : Int) (s : ByteArray) (b : List Int) (n : Int) : f_13 N k s b n = some (match callB k s b n with | some r => (r, none) | none => ([], some 1)) := by
  unfold f_13 callB
  by_cases h1 : k < 0
  · rw [if_pos (.inl h1), decide_eq_true h1]; rfl
  rw [decide_eq_false h1, cond_false]
  by_cases h2 : k > 255
  · rw [if_pos (.inr (.inl h2)), decide_eq_true h2]; rfl
  rw [decide_eq_false h2, cond_false]
  by_cases h4 : b.length > 1024
  · rw [if_pos (.inr (.inr (.inr h4))), decide_eq_true (by omega)]; rfl
  rw [decide_eq_false (show ¬ (b.length : Int) > 1024 by omega), cond_false, wu8 (by omega) (by omega), ftext_at hN (by simp)]
  by_cases h3 : s.size > 255
  · rw [if_pos h3, if_pos (.inr (.inr (.inl h3)))]; rfl
  rw [if_neg h3, if_neg (by omega)]
  simp only [Option.bind_some, Option.isNone_none, Bool.not_true, cond_false]
  have l1 : ([63, k] ++ le 1 (s.size : Int) ++ bytesL s).length = 3 + s.size := by simp [le_len, bytesL_len]; omega
  rw [pi64_at hN (by omega)]
  simp only [Option.bind_some]
  rw [wu16 (by omega) (by omega), pu16_at hN (by rw [List.length_append, le_len]; omega) (by omega) (by omega)]
  simp only [Option.bind_some]
  rw [decide_eq_true (show (List.length (([63, k] ++ le 1 (s.size : Int) ++ bytesL s) ++ le 8 (IntKind.u64.wrap n) ++ le 2 (b.length : Int)) + b.length) * 1 ≤ 140737488355328 by rw [List.length_append, List.length_append, le_len, le_len]; omega)]; rfl
theorem renc_at {N : Nat} (hN : 10 ≤ N) (k : Int) (s : ByteArray) (b : List Int) (n : Int) : f_14 N k s b n = some (match callB k s b n with | some r => (r, 0) | none => ([], 1)) := by
  unfold f_14 callB
  by_cases h1 : k < 0
  · rw [if_pos (.inl h1), decide_eq_true h1]; rfl
  rw [decide_eq_false h1, cond_false]
  by_cases h2 : k > 255
  · rw [if_pos (.inr (.inl h2)), decide_eq_true h2]; rfl
  rw [decide_eq_false h2, cond_false]
  by_cases h3 : s.size > 255
  · rw [if_pos (.inr (.inr (.inl h3))), decide_eq_true (by omega)]; rfl
  rw [decide_eq_false (show ¬ (s.size : Int) > 255 by omega), cond_false]
  by_cases h4 : b.length > 1024
  · rw [if_pos (.inr (.inr (.inr h4))), decide_eq_true (by omega)]; rfl
  rw [decide_eq_false (show ¬ (b.length : Int) > 1024 by omega), cond_false, wu8 (by omega) (by omega), rtext_at hN (by simp), if_neg h3, if_neg (by omega)]
  simp only [Option.bind_some]
  have l1 : ([63, k] ++ le 1 (s.size : Int) ++ bytesL s).length = 3 + s.size := by simp [le_len, bytesL_len]; omega
  rw [show (8 : Int) = ((8 : Nat) : Int) from rfl, put_at hN (by omega) (wu64_lt n).1 (wu64_lt n).2 (by decide)]
  simp only [Option.bind_some]
  rw [wu64 (n := (b.length : Int)) (by omega) (by omega), show (2 : Int) = ((2 : Nat) : Int) from rfl, put_at hN (by rw [List.length_append, le_len]; omega) (by omega) (by omega) (by decide)]
  simp only [Option.bind_some]
  rw [decide_eq_true (show (List.length (([63, k] ++ le 1 (s.size : Int) ++ bytesL s) ++ le 8 (IntKind.u64.wrap n) ++ le 2 (b.length : Int)) + b.length) * 1 ≤ 140737488355328 by rw [List.length_append, List.length_append, le_len, le_len]; omega)]; rfl
/-! ### and back -/
theorem tk_len (n : Nat) (s : List Int × Bool) : (tk n s).2.1.length ≤ s.1.length := by unfold tk; split <;> simp
theorem txt_len (s : List Int × Bool) : (txt s).2.1.length ≤ s.1.length := by
  have := tk_len 1 s
  unfold txt; split
  · simp
  · rw [List.length_drop]; omega
theorem tk_cons {x : Int} {xs : List Int} : tk 1 (x :: xs, false) = (x, (xs, false)) := by
  unfold tk
  rw [if_neg (by simp)]
  simp [ofLe]
theorem dec_loop (N : Nat) {n : Nat} (hn : n ≤ 1024) (z : Int × ByteArray × List Int × Int) (k : Int) (t : ByteArray) (q : Int) : ∀ (ys : List Int) (M i : Nat) (b : List Int), By ys → i + ys.length = n → ys.length < M → b.length + ys.length ≤ 2000 →
    iter (b_17_0 N) M ((), (), (), (n : Int), (i : Int), z, (k, t, b, q), (ys, false)) = some ((), (), (), z, (k, t, b ++ ys, q), ([], false)) := by
  intro ys
  induction ys with
  | nil =>
    intro M i b _ hi hM _
    obtain ⟨M, rfl⟩ : ∃ m, M = m + 1 := ⟨M - 1, by simp at hM; omega⟩
    show (bif decide ((i : Int) < (n : Int)) then _ else some ((), (), (), z, (k, t, b, q), ([], false))) = _
    rw [decide_eq_false (by simp at hi; omega), List.append_nil]; rfl
  | cons y ys ih =>
    intro M i b hy hi hM hb
    simp only [List.length_cons] at hi hM hb
    obtain ⟨M, rfl⟩ : ∃ m, M = m + 1 := ⟨M - 1, by omega⟩
    show (bif decide ((i : Int) < (n : Int)) then Option.bind (f_68 N (y :: ys) false) (fun r => bif decide ((b.length + ([r.1] : List Int).length) * 1 ≤ 140737488355328) then iter (b_17_0 N) M ((), (), (), (n : Int), IntKind.i64.wrap ((i : Int) + 1), z, (k, t, b ++ [r.1], q), (r.2.1, r.2.2)) else none) else some ((), (), (), z, (k, t, b, q), (y :: ys, false))) = _
    rw [decide_eq_true (show (i : Int) < (n : Int) by omega), cond_true, u8_at N hy, tk_cons]
    simp only [Option.bind_some]
    rw [decide_eq_true (show (b.length + ([y] : List Int).length) * 1 ≤ 140737488355328 by rw [List.length_singleton]; omega), cond_true, wi64 (by omega) (by omega)]
    have := ih M (i + 1) (b ++ [y]) (fun x hx => hy x (List.mem_cons_of_mem _ hx)) (by omega) (by omega) (by rw [List.length_append, List.length_singleton]; omega)
    rw [show ((i + 1 : Nat) : Int) = (i : Int) + 1 by omega] at this
    rw [this, List.append_assoc]; rfl
theorem tk_bad {n : Nat} {s : List Int × Bool} (h : (tk n s).2.2 = true) : tk n s = (0, ([], true)) := by
  unfold tk at h ⊢
  split
  · rfl
  · rename_i hn; rw [if_neg hn] at h; cases h
def dA (xs : List Int) := tk 1 (xs, false)
def dK (xs : List Int) := tk 1 (dA xs).2
def dT (xs : List Int) := txt (dK xs).2
def dN (xs : List Int) := tk 8 (dT xs).2
def dL (xs : List Int) := tk 2 (dN xs).2
def callD (xs : List Int) : Option (Int × ByteArray × List Int × Int) :=
  if (dL xs).2.2 = true ∨ (dA xs).1 ≠ 63 ∨ ((dL xs).2.1.length : Int) ≠ (dL xs).1 ∨ (dL xs).1 > 1024 then none else some ((dK xs).1, (dT xs).1, (dL xs).2.1, IntKind.i64.wrap (dN xs).1)
theorem d_by {xs : List Int} (h : By xs) : By (dA xs).2.1 ∧ By (dK xs).2.1 ∧ By (dT xs).2.1 ∧ By (dN xs).2.1 ∧ By (dL xs).2.1 :=
  have a := tk_by (n := 1) (s := (xs, false)) h
  have k := tk_by (n := 1) (s := (dA xs).2) a
  have t := txt_by (s := (dK xs).2) k
  have n := tk_by (n := 8) (s := (dT xs).2) t
  ⟨a, k, t, n, tk_by (n := 2) (s := (dN xs).2) n⟩
theorem d_len (xs : List Int) : (dL xs).2.1.length ≤ xs.length := by
  have a := tk_len 1 (xs, false)
  have k := tk_len 1 (dA xs).2
  have t := txt_len (dK xs).2
  have n := tk_len 8 (dT xs).2
  have l := tk_len 2 (dN xs).2
  exact Nat.le_trans l (Nat.le_trans n (Nat.le_trans t (Nat.le_trans k a)))
theorem rdec_at {N : Nat} (hN : 10 ≤ N) {xs : List Int} (h : By xs) (hl : xs.length ≤ 10000) : f_18 N xs = some (match callD xs with | some c => (c, 0) | none => ((0, ByteArray.empty, [], 0), 3)) := by
  obtain ⟨ba, bk, bt, bn, bl⟩ := d_by h
  have ha := tk_len 1 (xs, false)
  have hk := tk_len 1 (dA xs).2
  have hd := d_len xs
  unfold f_18
  rw [show (1 : Int) = ((1 : Nat) : Int) from rfl, rtake_at hN h (by decide)]
  show Option.bind (f_74 N (dA xs).2.1 (dA xs).2.2 ((1 : Nat) : Int)) _ = _
  rw [rtake_at hN ba (by decide)]
  show Option.bind (f_75 N (dK xs).2.1 (dK xs).2.2) _ = _
  rw [rwords_at hN bk (by have : (dK xs).2.1.length ≤ (dA xs).2.1.length := hk
                          have : (dA xs).2.1.length ≤ xs.length := ha
                          omega)]
  show Option.bind (f_74 N (dT xs).2.1 (dT xs).2.2 ((8 : Nat) : Int)) _ = _
  rw [rtake_at hN bt (by decide)]
  show Option.bind (f_74 N (dN xs).2.1 (dN xs).2.2 ((2 : Nat) : Int)) _ = _
  rw [rtake_at hN bn (by decide)]
  show (bif (dL xs).2.2 then _ else (bif ((dA xs).1 != 63) then _ else (bif (IntKind.u64.wrap ((dL xs).2.1.length : Int) != (dL xs).1) then _ else (bif decide ((dL xs).1 > 1024) then _ else some ((IntKind.i64.wrap (dK xs).1, (dT xs).1, (dL xs).2.1, IntKind.i64.wrap (dN xs).1), 0))))) = _
  have hkl : 0 ≤ (dK xs).1 ∧ (dK xs).1 < 256 ^ 1 := tk_lt (n := 1) (s := (dA xs).2) ba
  have hk2 : 0 ≤ (dK xs).1 ∧ (dK xs).1 < 256 := ⟨hkl.1, by simpa using hkl.2⟩
  rw [wu64 (by omega) (by omega), wi64 (n := (dK xs).1) (by omega) (by omega)]
  unfold callD
  by_cases h1 : (dL xs).2.2 = true
  · rw [if_pos (.inl h1), h1]; rfl
  rw [Bool.not_eq_true] at h1
  rw [h1, cond_false]
  by_cases h2' : (dA xs).1 ≠ 63
  · have h2 := h2'
    rw [if_pos (.inr (.inl h2)), bne_iff_ne.2 h2]; rfl
  have h2 : (dA xs).1 = 63 := Decidable.not_not.1 h2'
  rw [h2, bne_self_eq_false, cond_false]
  by_cases h3' : ((dL xs).2.1.length : Int) ≠ (dL xs).1
  · have h3 := h3'
    rw [if_pos (.inr (.inr (.inl h3))), bne_iff_ne.2 h3]; rfl
  have h3 : ((dL xs).2.1.length : Int) = (dL xs).1 := Decidable.not_not.1 h3'
  rw [h3, bne_self_eq_false, cond_false]
  by_cases h4 : (dL xs).1 > 1024
  · rw [if_pos (.inr (.inr (.inr h4))), decide_eq_true h4]; rfl
  rw [decide_eq_false h4, cond_false, if_neg (by simp [h4])]
theorem dec_at {N : Nat} (hN : 2000 ≤ N) {xs : List Int} (h : By xs) (hl : xs.length ≤ 10000) : f_17 N xs = some (match callD xs with | some c => (c, none) | none => ((0, ByteArray.empty, [], 0), some 3)) := by
  obtain ⟨ba, bk, bt, bn, bl⟩ := d_by h
  have hd := d_len xs
  unfold f_17 f_67
  rw [clone_at (by omega)]
  show Option.bind (f_68 N xs false) _ = _
  rw [u8_at N h]
  show Option.bind (f_68 N (dA xs).2.1 (dA xs).2.2) _ = _
  rw [u8_at N ba]
  show Option.bind (f_69 N (dK xs).2.1 (dK xs).2.2) _ = _
  rw [text_at N bk]
  show Option.bind (f_70 N (dT xs).2.1 (dT xs).2.2) _ = _
  rw [i64_at N bt]
  show Option.bind (f_71 N (dN xs).2.1 (dN xs).2.2) _ = _
  rw [u16_at N bn]
  have hll : 0 ≤ (dL xs).1 ∧ (dL xs).1 < 256 ^ 2 := tk_lt (n := 2) (s := (dN xs).2) bn
  have hl2 : 0 ≤ (dL xs).1 ∧ (dL xs).1 < 65536 := ⟨hll.1, by simpa using hll.2⟩
  have hkl : 0 ≤ (dK xs).1 ∧ (dK xs).1 < 256 ^ 1 := tk_lt (n := 1) (s := (dA xs).2) ba
  have hk2 : 0 ≤ (dK xs).1 ∧ (dK xs).1 < 256 := ⟨hkl.1, by simpa using hkl.2⟩
  have wl : IntKind.i64.wrap (dL xs).1 = (dL xs).1 := wi64 (by omega) (by omega)
  have wk : IntKind.i64.wrap (dK xs).1 = (dK xs).1 := wi64 (by omega) (by omega)
  show (bif ((dA xs).1 != 63) then _ else Option.bind (f_72 N (dL xs).2.1 (dL xs).2.2) _) = _
  unfold callD
  by_cases h2' : (dA xs).1 ≠ 63
  · have h2 := h2'
    rw [if_pos (.inr (.inl h2)), bne_iff_ne.2 h2]; rfl
  have h2 : (dA xs).1 = 63 := Decidable.not_not.1 h2'
  rw [h2, bne_self_eq_false, cond_false]
  show (bif (((dL xs).2.1.length : Int) != IntKind.i64.wrap (dL xs).1) then _ else _) = _
  rw [wl]
  by_cases h3' : ((dL xs).2.1.length : Int) ≠ (dL xs).1
  · have h3 := h3'
    rw [if_pos (.inr (.inr (.inl h3))), bne_iff_ne.2 h3]; rfl
  have h3 : ((dL xs).2.1.length : Int) = (dL xs).1 := Decidable.not_not.1 h3'
  rw [h3, bne_self_eq_false, cond_false]
  show (bif decide (IntKind.i64.wrap (dL xs).1 > 1024) then _ else _) = _
  rw [wl]
  by_cases h4 : (dL xs).1 > 1024
  · rw [if_pos (.inr (.inr (.inr h4))), decide_eq_true h4]; rfl
  rw [decide_eq_false h4, cond_false]
  show Option.bind (l_17_0 N ((), (), (), IntKind.i64.wrap (dL xs).1, 0, (0, ByteArray.empty, [], 0), (IntKind.i64.wrap (dK xs).1, (dT xs).1, [], IntKind.i64.wrap (dN xs).1), ((dL xs).2.1, (dL xs).2.2))) _ = _
  rw [wl, wk]
  by_cases h1 : (dL xs).2.2 = true
  · rw [if_pos (.inl h1)]
    have hz := tk_bad h1
    obtain ⟨M, rfl⟩ : ∃ m, N = m + 1 := ⟨N - 1, by omega⟩
    have e1 : (dL xs).1 = 0 := by rw [show dL xs = _ from hz]
    have e2 : (dL xs).2.1 = [] := by rw [show dL xs = _ from hz]
    rw [e1, e2, h1]
    rfl
  rw [Bool.not_eq_true] at h1
  rw [if_neg (by simp [h1, h4]), h1]
  have hlp := dec_loop N (n := (dL xs).2.1.length) (by omega) (0, ByteArray.empty, [], 0) (dK xs).1 (dT xs).1 (IntKind.i64.wrap (dN xs).1) (dL xs).2.1 N 0 [] bl (by omega) (by omega) (by simp; omega)
  rw [h3] at hlp
  have hlp' : l_17_0 N ((), (), (), (dL xs).1, 0, (0, ByteArray.empty, [], 0), ((dK xs).1, (dT xs).1, [], IntKind.i64.wrap (dN xs).1), ((dL xs).2.1, false)) = some ((), (), (), (0, ByteArray.empty, [], 0), ((dK xs).1, (dT xs).1, [] ++ (dL xs).2.1, IntKind.i64.wrap (dN xs).1), ([], false)) := hlp
  rw [hlp']
  rfl
end Go.Proofs.YtkdjfakjnkemiaaDoor.Mir
