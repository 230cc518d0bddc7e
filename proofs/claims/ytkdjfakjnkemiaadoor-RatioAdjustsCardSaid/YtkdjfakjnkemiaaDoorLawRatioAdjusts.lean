/- The statement RatioAdjusts: by no parts a factor stays, by more parts it is no less, by as many as there are it is twice, if that may be: the walk. -/
import Derived.Test.YtkdjfakjnkemiaaDoorAdjA
import Derived.Test.YtkdjfakjnkemiaaDoorAdjB
import Derived.StillTailTactics
namespace Go.Proofs.YtkdjfakjnkemiaaDoor
open Go.RowKit

def adjN (m b : Int) : Int := m * (1073741824 + clampI b (-1073741824) 1073741824) / 1073741824
theorem adjR_ok {m s b : Int} (h : mayF m s) (h1 : 1 ≤ adjN m b ∧ adjN m b < 4294967296) : adjR m s b = .tuple #[.agg #[.int .u32 (adjN m b), .int .i64 s], .nilIface] := by
  unfold adjR; rw [if_pos h]; change (if 1 ≤ adjN m b ∧ adjN m b < 4294967296 then _ else _) = _; rw [if_pos h1]; rfl
theorem adjR_no {m s b : Int} (h : mayF m s) (h1 : ¬ (1 ≤ adjN m b ∧ adjN m b < 4294967296)) : adjR m s b = .tuple #[.agg #[.int .u32 0, .int .i64 0], .iface 122 (.int .i64 2)] := by
  unfold adjR; rw [if_pos h]; change (if 1 ≤ adjN m b ∧ adjN m b < 4294967296 then _ else _) = _; rw [if_neg h1]; rfl
theorem adjR_may {m s b : Int} (h : ¬ mayF m s) : adjR m s b = .tuple #[.agg #[.int .u32 0, .int .i64 0], .iface 122 (.int .i64 1)] := by
  unfold adjR; rw [if_neg h]; rfl
theorem adjN_zero (m : Int) : adjN m 0 = m := by
  unfold adjN
  have : clampI 0 (-1073741824) 1073741824 = 0 := by decide
  rw [this]; omega
theorem adjN_all (m : Int) : adjN m 1073741824 = 2 * m := by
  unfold adjN
  have : clampI 1073741824 (-1073741824) 1073741824 = 1073741824 := by decide
  rw [this]; omega
theorem adjN_mono {m a b : Int} (hm : 0 ≤ m) (h : a ≤ b) : adjN m a ≤ adjN m b := by
  unfold adjN
  refine Int.ediv_le_ediv (by omega) (Int.mul_le_mul_of_nonneg_left ?_ hm)
  unfold clampI; omega
set_option maxRecDepth 100000 in
theorem law_RatioAdjusts_no (m s b0 b1 : Int) (hm : 0 ≤ m) (hm2 : m < 4294967296) (h : ¬ mayF m s) (w : World) (hL : LaidW w) :
    Calls Tryd.prog 8 #[.agg #[.int .u32 m, .int .i64 s], .agg #[.int .i32 b0, .int .i32 b1]] w fun e w' => e = .returned (.bool true) ∧ Below w.heap.size w w' := by
  have c1 := fun w => ratio_Check_no m s h w
  have c2 := fun w => ratio_Adjust m s 0 hm hm2 w
  rw [adjR_may h] at c2
  have c3 : ∀ w (_ : LaidW w), Calls Tryd.prog 46 #[.iface 122 (.int .i64 1)] w fun e w' => e = .returned (.int .i64 1) ∧ Below w.heap.size w w' := fun w h => law03_num (some 1) w h
  have c4 := fun w (h : LaidW w) => sure03 w h
  unfold fv at c1 c2
  have h1 := Lib.hid c1
  have h2 := Lib.hid c2
  have h3 := Lib.hid c3
  have h4 := Lib.hid c4
  have hLH := Lib.hid hL
  clear c1 c2 c3 c4 hL h
  go_enter Tryd.func8, Tryd.ntmps8
  go_wp2_with fail
  refine (h1.out _).mono ?_
  rintro e1 w1 ⟨rfl, hb1⟩
  obtain ⟨hc1, hf1⟩ := bcell hb1
  have hz1 := hb1.size
  try simp at hz1
  have hz1_0 : w.heap.size < w1.heap.size := by omega
  have hz1_1 : w.heap.size + 1 < w1.heap.size := by omega
  have hz1_2 : w.heap.size + 1 + 1 < w1.heap.size := by omega
  go_wp2_with fail
  refine (h2.out _).mono ?_
  rintro e2 w2 ⟨rfl, hb2⟩
  obtain ⟨hc2, hf2⟩ := bcell hb2
  have hz2 := hb2.size
  try simp at hz2
  have hz2_0 : w.heap.size < w2.heap.size := by omega
  have hz2_1 : w.heap.size + 1 < w2.heap.size := by omega
  have hz2_2 : w.heap.size + 1 + 1 < w2.heap.size := by omega
  go_wp2_with fail
  refine (h3.out _ (LaidW.below hLH.out (by repeat (first | exact Below.refl _ _ | assumption | (refine Below.alloc ?_ (by first | omega | (simp; done) | (simp; omega) | (simp at *; omega)) _) | (refine Below.setCell ?_ (by first | omega | (simp; done) | (simp; omega) | (simp at *; omega)) _) | (refine Below.trans ?_ (below_drewN _ _ _)) | (refine Below.drew ?_) | (refine Below.trans ?_ (Below.mono (by assumption) (by first | omega | (simp; done) | (simp; omega) | (simp at *; omega)))))))).mono ?_
  rintro e3 w3 ⟨rfl, hb3⟩
  obtain ⟨hc3, hf3⟩ := bcell hb3
  have hz3 := hb3.size
  try simp at hz3
  have hz3_0 : w.heap.size < w3.heap.size := by omega
  have hz3_1 : w.heap.size + 1 < w3.heap.size := by omega
  have hz3_2 : w.heap.size + 1 + 1 < w3.heap.size := by omega
  go_wp2_with fail
  refine (h4.out _ (LaidW.below hLH.out (by repeat (first | exact Below.refl _ _ | assumption | (refine Below.alloc ?_ (by first | omega | (simp; done) | (simp; omega) | (simp at *; omega)) _) | (refine Below.setCell ?_ (by first | omega | (simp; done) | (simp; omega) | (simp at *; omega)) _) | (refine Below.trans ?_ (below_drewN _ _ _)) | (refine Below.drew ?_) | (refine Below.trans ?_ (Below.mono (by assumption) (by first | omega | (simp; done) | (simp; omega) | (simp at *; omega)))))))).mono ?_
  rintro e4 w4 ⟨rfl, hb4⟩
  obtain ⟨hc4, hf4⟩ := bcell hb4
  have hz4 := hb4.size
  try simp at hz4
  have hz4_0 : w.heap.size < w4.heap.size := by omega
  have hz4_1 : w.heap.size + 1 < w4.heap.size := by omega
  have hz4_2 : w.heap.size + 1 + 1 < w4.heap.size := by omega
  go_wp2_with fail
  refine bp_ret ⟨?_, ?_, ?_, ?_⟩ rfl; rotate_left
  · (simp [results, Tryd.results8, go_sem, *]; rfl)
  rotate_left
  · repeat (first | exact Below.refl _ _ | assumption | (refine Below.alloc ?_ (by first | omega | (simp; done) | (simp; omega) | (simp at *; omega)) _) | (refine Below.setCell ?_ (by first | omega | (simp; done) | (simp; omega) | (simp at *; omega)) _) | (refine Below.trans ?_ (below_drewN _ _ _)) | (refine Below.drew ?_) | (refine Below.trans ?_ (Below.mono (by assumption) (by first | omega | (simp; done) | (simp; omega) | (simp at *; omega)))))
  · rfl
theorem law_RatioAdjusts_yes (m s b0 b1 : Int) (hm : 0 ≤ m) (hm2 : m < 4294967296) (hb0 : -2147483648 ≤ b0 ∧ b0 < 2147483648) (hb1 : -2147483648 ≤ b1 ∧ b1 < 2147483648) (h : mayF m s) (w : World) (hL : LaidW w) :
    Calls Tryd.prog 8 #[.agg #[.int .u32 m, .int .i64 s], .agg #[.int .i32 b0, .int .i32 b1]] w fun e w' => e = .returned (.bool true) ∧ Below w.heap.size w w' := by
  have c1 := fun w => ratio_Check_yes m s h w
  have c2 := fun w => ratio_Adjust m s 0 hm hm2 w
  have m1 : 1 ≤ m := by have := h.1; omega
  rw [adjR_ok h (by rw [adjN_zero]; exact ⟨m1, hm2⟩), adjN_zero] at c2
  have c3 := fun w => ratio_Adjust m s (min b0 b1) hm hm2 w
  have c4 := fun w => ratio_Adjust m s (max b0 b1) hm hm2 w
  have c5 := fun w => ratio_Adjust m s 1073741824 hm hm2 w
  have c6 := fun w (h : LaidW w) => sure03 w h
  have hle : adjN m (min b0 b1) ≤ adjN m (max b0 b1) := adjN_mono hm (by omega)
  unfold fv at c1 c2 c3 c4 c5
  have h1 := Lib.hid c1
  have h2 := Lib.hid c2
  have h6 := Lib.hid c6
  have hLH := Lib.hid hL
  clear c1 c2 c6 hL
  by_cases kT : m < 2147483648
  · rw [adjR_ok h (by rw [adjN_all]; omega), adjN_all] at c5
    have h5 := Lib.hid c5
    by_cases kP : 1 ≤ adjN m (min b0 b1) ∧ adjN m (min b0 b1) < 4294967296
    · rw [adjR_ok h kP] at c3
      have h3 := Lib.hid c3
      by_cases kQ : 1 ≤ adjN m (max b0 b1) ∧ adjN m (max b0 b1) < 4294967296
      · rw [adjR_ok h kQ] at c4
        exact adj_walk111 m s b0 b1 _ _ m1 hm2 kT hle hb0 hb1 w hLH h1 h2 h3 (Lib.hid c4) h5 h6
      · rw [adjR_no h kQ] at c4
        exact adj_walk110 m s b0 b1 _ _ m1 hm2 kT hle hb0 hb1 w hLH h1 h2 h3 (Lib.hid c4) h5 h6
    · rw [adjR_no h kP] at c3
      have h3 := Lib.hid c3
      by_cases kQ : 1 ≤ adjN m (max b0 b1) ∧ adjN m (max b0 b1) < 4294967296
      · rw [adjR_ok h kQ] at c4
        exact adj_walk101 m s b0 b1 _ _ m1 hm2 kT hle hb0 hb1 w hLH h1 h2 h3 (Lib.hid c4) h5 h6
      · rw [adjR_no h kQ] at c4
        exact adj_walk100 m s b0 b1 _ _ m1 hm2 kT hle hb0 hb1 w hLH h1 h2 h3 (Lib.hid c4) h5 h6
  · rw [adjR_no h (by rw [adjN_all]; omega)] at c5
    have h5 := Lib.hid c5
    by_cases kP : 1 ≤ adjN m (min b0 b1) ∧ adjN m (min b0 b1) < 4294967296
    · rw [adjR_ok h kP] at c3
      have h3 := Lib.hid c3
      by_cases kQ : 1 ≤ adjN m (max b0 b1) ∧ adjN m (max b0 b1) < 4294967296
      · rw [adjR_ok h kQ] at c4
        exact adj_walk011 m s b0 b1 _ _ m1 hm2 (by omega) hle hb0 hb1 w hLH h1 h2 h3 (Lib.hid c4) h5 h6
      · rw [adjR_no h kQ] at c4
        exact adj_walk010 m s b0 b1 _ _ m1 hm2 (by omega) hle hb0 hb1 w hLH h1 h2 h3 (Lib.hid c4) h5 h6
    · rw [adjR_no h kP] at c3
      have h3 := Lib.hid c3
      by_cases kQ : 1 ≤ adjN m (max b0 b1) ∧ adjN m (max b0 b1) < 4294967296
      · rw [adjR_ok h kQ] at c4
        exact adj_walk001 m s b0 b1 _ _ m1 hm2 (by omega) hle hb0 hb1 w hLH h1 h2 h3 (Lib.hid c4) h5 h6
      · rw [adjR_no h kQ] at c4
        exact adj_walk000 m s b0 b1 _ _ m1 hm2 (by omega) hle hb0 hb1 w hLH h1 h2 h3 (Lib.hid c4) h5 h6
theorem law_RatioAdjusts_row (m s b0 b1 : Int) (w : World) (hL : LaidW w) (hm : (Lit.int .u32 m).wf = true) (hs : (Lit.int .i64 s).wf = true) (h0 : (Lit.int .i32 b0).wf = true) (h1 : (Lit.int .i32 b1).wf = true) :
    Calls Tryd.prog 8 #[.agg #[.int .u32 m, .int .i64 s], .agg #[.int .i32 b0, .int .i32 b1]] w fun e w' => e = .returned (.bool true) ∧ Below w.heap.size w w' := by
  by_cases h : mayF m s
  · exact law_RatioAdjusts_yes m s b0 b1 (wf_u32 hm).1 (wf_u32 hm).2 (wf_i32 h0) (wf_i32 h1) h w hL
  · exact law_RatioAdjusts_no m s b0 b1 (wf_u32 hm).1 (wf_u32 hm).2 h w hL
end Go.Proofs.YtkdjfakjnkemiaaDoor
