/- The statement RatioAdjusts: the walk, where the answer for all the parts is a factor. -/
import Derived.Test.YtkdjfakjnkemiaaDoorStill
import Derived.StillTailTactics
namespace Go.Proofs.YtkdjfakjnkemiaaDoor
open Go.RowKit

set_option maxHeartbeats 1000000 in
set_option maxRecDepth 100000 in
theorem adj_walk111 (m s b0 b1 NP NQ : Int) (m1 : 1 ≤ m) (hm2 : m < 4294967296) (kT : m < 2147483648) (hle : NP ≤ NQ) (hb0 : -2147483648 ≤ b0 ∧ b0 < 2147483648) (hb1 : -2147483648 ≤ b1 ∧ b1 < 2147483648) (w : World) (hLH : Hid (LaidW w))
    (h1 : Hid (∀ w, Calls Tryd.prog 44 #[.agg #[.int .u32 m, .int .i64 s]] w fun e w' => e = .returned (.nilIface) ∧ Below w.heap.size w w'))
    (h2 : Hid (∀ w, Calls Tryd.prog 45 #[.agg #[.int .u32 m, .int .i64 s], .int .i64 0] w fun e w' => e = .returned (.tuple #[.agg #[.int .u32 m, .int .i64 s], .nilIface]) ∧ Below w.heap.size w w'))
    (h3 : Hid (∀ w, Calls Tryd.prog 45 #[.agg #[.int .u32 m, .int .i64 s], .int .i64 (min b0 b1)] w fun e w' => e = .returned (.tuple #[.agg #[.int .u32 NP, .int .i64 s], .nilIface]) ∧ Below w.heap.size w w'))
    (h4 : Hid (∀ w, Calls Tryd.prog 45 #[.agg #[.int .u32 m, .int .i64 s], .int .i64 (max b0 b1)] w fun e w' => e = .returned (.tuple #[.agg #[.int .u32 NQ, .int .i64 s], .nilIface]) ∧ Below w.heap.size w w'))
    (h5 : Hid (∀ w, Calls Tryd.prog 45 #[.agg #[.int .u32 m, .int .i64 s], .int .i64 1073741824] w fun e w' => e = .returned (.tuple #[.agg #[.int .u32 (2 * m), .int .i64 s], .nilIface]) ∧ Below w.heap.size w w'))
    (h6 : Hid (∀ w (_ : LaidW w), Calls Tryd.prog 47 #[] w fun e w' => e = .returned (.bool true) ∧ Below w.heap.size w w')) :
    Calls Tryd.prog 8 #[.agg #[.int .u32 m, .int .i64 s], .agg #[.int .i32 b0, .int .i32 b1]] w fun e w' => e = .returned (.bool true) ∧ Below w.heap.size w w' := by
  go_enter Tryd.func8, Tryd.ntmps8
  go_wp2_with fail
  refine (h1.out _).mono ?_
  rintro e1 w1 ⟨rfl, hb1⟩
  obtain ⟨hc1, hf1⟩ := bcell hb1
  have hz1 := hb1.size
  try simp at hz1
  have hz1_0 : w.heap.size < w1.heap.size := by omega
  have hz1_1 : w.heap.size + 1 < w1.heap.size := by omega
  have hz1_2 : w.heap.size + 1 + 1 < w1.heap.size := by omega
  go_wp2_with fail
  refine (h2.out _).mono ?_
  rintro e2 w2 ⟨rfl, hb2⟩
  obtain ⟨hc2, hf2⟩ := bcell hb2
  have hz2 := hb2.size
  try simp at hz2
  have hz2_0 : w.heap.size < w2.heap.size := by omega
  have hz2_1 : w.heap.size + 1 < w2.heap.size := by omega
  have hz2_2 : w.heap.size + 1 + 1 < w2.heap.size := by omega
  go_wp2_with fail
  refine (h3.out _).mono ?_
  rintro e3 w3 ⟨rfl, hb3⟩
  obtain ⟨hc3, hf3⟩ := bcell hb3
  have hz3 := hb3.size
  try simp at hz3
  have hz3_0 : w.heap.size < w3.heap.size := by omega
  have hz3_1 : w.heap.size + 1 < w3.heap.size := by omega
  have hz3_2 : w.heap.size + 1 + 1 < w3.heap.size := by omega
  have hz3_w2 : w2.heap.size < w3.heap.size := by omega
  have hz3_w2a : w2.heap.size < w3.heap.size + 1 := by omega
  have hz3_w2b : w2.heap.size ≤ w3.heap.size := by omega
  go_wp2_with fail
  refine (h4.out _).mono ?_
  rintro e4 w4 ⟨rfl, hb4⟩
  obtain ⟨hc4, hf4⟩ := bcell hb4
  have hz4 := hb4.size
  try simp at hz4
  have hz4_0 : w.heap.size < w4.heap.size := by omega
  have hz4_1 : w.heap.size + 1 < w4.heap.size := by omega
  have hz4_2 : w.heap.size + 1 + 1 < w4.heap.size := by omega
  have hz4_w2 : w2.heap.size < w4.heap.size := by omega
  have hz4_w3 : w3.heap.size < w4.heap.size := by omega
  have hz4_w2a : w2.heap.size < w4.heap.size + 1 := by omega
  have hz4_w3a : w3.heap.size < w4.heap.size + 1 := by omega
  have hz4_w2b : w2.heap.size ≤ w4.heap.size := by omega
  have hz4_w3b : w3.heap.size ≤ w4.heap.size := by omega
  go_wp2_with fail
  refine (h5.out _).mono ?_
  rintro e5 w5 ⟨rfl, hb5⟩
  obtain ⟨hc5, hf5⟩ := bcell hb5
  have hz5 := hb5.size
  try simp at hz5
  have hz5_0 : w.heap.size < w5.heap.size := by omega
  have hz5_1 : w.heap.size + 1 < w5.heap.size := by omega
  have hz5_2 : w.heap.size + 1 + 1 < w5.heap.size := by omega
  have hz5_w2 : w2.heap.size < w5.heap.size := by omega
  have hz5_w3 : w3.heap.size < w5.heap.size := by omega
  have hz5_w4 : w4.heap.size < w5.heap.size := by omega
  have hz5_w2a : w2.heap.size < w5.heap.size + 1 := by omega
  have hz5_w3a : w3.heap.size < w5.heap.size + 1 := by omega
  have hz5_w4a : w4.heap.size < w5.heap.size + 1 := by omega
  have hz5_w2b : w2.heap.size ≤ w5.heap.size := by omega
  have hz5_w3b : w3.heap.size ≤ w5.heap.size := by omega
  have hz5_w4b : w4.heap.size ≤ w5.heap.size := by omega
  go_wp2_with fail
  refine wp_region_tail_drew 50 (by kernel_rfl) (by kernel_rfl) ?_
  simp only [List.take_succ_cons, List.take_zero, List.drop_succ_cons, List.drop_zero]
  iterate 50 (with_reducible refine wpStill_step (fun K hK => ?_); go_simp; with_reducible refine hK _ ?_; clear hK K)
  with_reducible refine wpStill_nil ?_
  go_wp2_with fail
  refine (h6.out _ (LaidW.below hLH.out (by repeat (first | exact Below.refl _ _ | assumption | (refine Below.alloc ?_ (by first | omega | (simp; done) | (simp; omega) | (simp at *; omega)) _) | (refine Below.setCell ?_ (by first | omega | (simp; done) | (simp; omega) | (simp at *; omega)) _) | (refine Below.trans ?_ (below_drewN _ _ _)) | (refine Below.drew ?_) | (refine Below.trans ?_ (Below.mono (by assumption) (by first | omega | (simp; done) | (simp; omega) | (simp at *; omega)))))))).mono ?_
  rintro e6 w6 ⟨rfl, hb6⟩
  obtain ⟨hc6, hf6⟩ := bcell hb6
  have hz6 := hb6.size
  try simp at hz6
  go_wp2_with fail
  refine bp_ret ⟨?_, ?_, ?_, ?_⟩ rfl; rotate_left
  · (simp [results, Tryd.results8, go_sem, *]; rfl)
  rotate_left
  · repeat (first | exact Below.refl _ _ | assumption | (refine Below.alloc ?_ (by first | omega | (simp; done) | (simp; omega) | (simp at *; omega)) _) | (refine Below.setCell ?_ (by first | omega | (simp; done) | (simp; omega) | (simp at *; omega)) _) | (refine Below.trans ?_ (below_drewN _ _ _)) | (refine Below.drew ?_) | (refine Below.trans ?_ (Below.mono (by assumption) (by first | omega | (simp; done) | (simp; omega) | (simp at *; omega)))))
  · rfl

set_option maxHeartbeats 1000000 in
set_option maxRecDepth 100000 in
theorem adj_walk110 (m s b0 b1 NP NQ : Int) (m1 : 1 ≤ m) (hm2 : m < 4294967296) (kT : m < 2147483648) (hle : NP ≤ NQ) (hb0 : -2147483648 ≤ b0 ∧ b0 < 2147483648) (hb1 : -2147483648 ≤ b1 ∧ b1 < 2147483648) (w : World) (hLH : Hid (LaidW w))
    (h1 : Hid (∀ w, Calls Tryd.prog 44 #[.agg #[.int .u32 m, .int .i64 s]] w fun e w' => e = .returned (.nilIface) ∧ Below w.heap.size w w'))
    (h2 : Hid (∀ w, Calls Tryd.prog 45 #[.agg #[.int .u32 m, .int .i64 s], .int .i64 0] w fun e w' => e = .returned (.tuple #[.agg #[.int .u32 m, .int .i64 s], .nilIface]) ∧ Below w.heap.size w w'))
    (h3 : Hid (∀ w, Calls Tryd.prog 45 #[.agg #[.int .u32 m, .int .i64 s], .int .i64 (min b0 b1)] w fun e w' => e = .returned (.tuple #[.agg #[.int .u32 NP, .int .i64 s], .nilIface]) ∧ Below w.heap.size w w'))
    (h4 : Hid (∀ w, Calls Tryd.prog 45 #[.agg #[.int .u32 m, .int .i64 s], .int .i64 (max b0 b1)] w fun e w' => e = .returned (.tuple #[.agg #[.int .u32 0, .int .i64 0], .iface 122 (.int .i64 2)]) ∧ Below w.heap.size w w'))
    (h5 : Hid (∀ w, Calls Tryd.prog 45 #[.agg #[.int .u32 m, .int .i64 s], .int .i64 1073741824] w fun e w' => e = .returned (.tuple #[.agg #[.int .u32 (2 * m), .int .i64 s], .nilIface]) ∧ Below w.heap.size w w'))
    (h6 : Hid (∀ w (_ : LaidW w), Calls Tryd.prog 47 #[] w fun e w' => e = .returned (.bool true) ∧ Below w.heap.size w w')) :
    Calls Tryd.prog 8 #[.agg #[.int .u32 m, .int .i64 s], .agg #[.int .i32 b0, .int .i32 b1]] w fun e w' => e = .returned (.bool true) ∧ Below w.heap.size w w' := by
  go_enter Tryd.func8, Tryd.ntmps8
  go_wp2_with fail
  refine (h1.out _).mono ?_
  rintro e1 w1 ⟨rfl, hb1⟩
  obtain ⟨hc1, hf1⟩ := bcell hb1
  have hz1 := hb1.size
  try simp at hz1
  have hz1_0 : w.heap.size < w1.heap.size := by omega
  have hz1_1 : w.heap.size + 1 < w1.heap.size := by omega
  have hz1_2 : w.heap.size + 1 + 1 < w1.heap.size := by omega
  go_wp2_with fail
  refine (h2.out _).mono ?_
  rintro e2 w2 ⟨rfl, hb2⟩
  obtain ⟨hc2, hf2⟩ := bcell hb2
  have hz2 := hb2.size
  try simp at hz2
  have hz2_0 : w.heap.size < w2.heap.size := by omega
  have hz2_1 : w.heap.size + 1 < w2.heap.size := by omega
  have hz2_2 : w.heap.size + 1 + 1 < w2.heap.size := by omega
  go_wp2_with fail
  refine (h3.out _).mono ?_
  rintro e3 w3 ⟨rfl, hb3⟩
  obtain ⟨hc3, hf3⟩ := bcell hb3
  have hz3 := hb3.size
  try simp at hz3
  have hz3_0 : w.heap.size < w3.heap.size := by omega
  have hz3_1 : w.heap.size + 1 < w3.heap.size := by omega
  have hz3_2 : w.heap.size + 1 + 1 < w3.heap.size := by omega
  have hz3_w2 : w2.heap.size < w3.heap.size := by omega
  have hz3_w2a : w2.heap.size < w3.heap.size + 1 := by omega
  have hz3_w2b : w2.heap.size ≤ w3.heap.size := by omega
  go_wp2_with fail
  refine (h4.out _).mono ?_
  rintro e4 w4 ⟨rfl, hb4⟩
  obtain ⟨hc4, hf4⟩ := bcell hb4
  have hz4 := hb4.size
  try simp at hz4
  have hz4_0 : w.heap.size < w4.heap.size := by omega
  have hz4_1 : w.heap.size + 1 < w4.heap.size := by omega
  have hz4_2 : w.heap.size + 1 + 1 < w4.heap.size := by omega
  have hz4_w2 : w2.heap.size < w4.heap.size := by omega
  have hz4_w3 : w3.heap.size < w4.heap.size := by omega
  have hz4_w2a : w2.heap.size < w4.heap.size + 1 := by omega
  have hz4_w3a : w3.heap.size < w4.heap.size + 1 := by omega
  have hz4_w2b : w2.heap.size ≤ w4.heap.size := by omega
  have hz4_w3b : w3.heap.size ≤ w4.heap.size := by omega
  go_wp2_with fail
  refine (h5.out _).mono ?_
  rintro e5 w5 ⟨rfl, hb5⟩
  obtain ⟨hc5, hf5⟩ := bcell hb5
  have hz5 := hb5.size
  try simp at hz5
  have hz5_0 : w.heap.size < w5.heap.size := by omega
  have hz5_1 : w.heap.size + 1 < w5.heap.size := by omega
  have hz5_2 : w.heap.size + 1 + 1 < w5.heap.size := by omega
  have hz5_w2 : w2.heap.size < w5.heap.size := by omega
  have hz5_w3 : w3.heap.size < w5.heap.size := by omega
  have hz5_w4 : w4.heap.size < w5.heap.size := by omega
  have hz5_w2a : w2.heap.size < w5.heap.size + 1 := by omega
  have hz5_w3a : w3.heap.size < w5.heap.size + 1 := by omega
  have hz5_w4a : w4.heap.size < w5.heap.size + 1 := by omega
  have hz5_w2b : w2.heap.size ≤ w5.heap.size := by omega
  have hz5_w3b : w3.heap.size ≤ w5.heap.size := by omega
  have hz5_w4b : w4.heap.size ≤ w5.heap.size := by omega
  go_wp2_with fail
  refine wp_region_tail_drew 50 (by kernel_rfl) (by kernel_rfl) ?_
  simp only [List.take_succ_cons, List.take_zero, List.drop_succ_cons, List.drop_zero]
  iterate 15 (with_reducible refine wpStill_step (fun K hK => ?_); go_simp; with_reducible refine hK _ ?_; clear hK K)
  iterate 12 (with_reducible refine wpStill_pass (by kernel_rfl) (fun K hK => ?_); go_simp; with_reducible refine hK _ ?_; clear hK K)
  iterate 23 (with_reducible refine wpStill_step (fun K hK => ?_); go_simp; with_reducible refine hK _ ?_; clear hK K)
  with_reducible refine wpStill_nil ?_
  go_wp2_with fail
  refine (h6.out _ (LaidW.below hLH.out (by repeat (first | exact Below.refl _ _ | assumption | (refine Below.alloc ?_ (by first | omega | (simp; done) | (simp; omega) | (simp at *; omega)) _) | (refine Below.setCell ?_ (by first | omega | (simp; done) | (simp; omega) | (simp at *; omega)) _) | (refine Below.trans ?_ (below_drewN _ _ _)) | (refine Below.drew ?_) | (refine Below.trans ?_ (Below.mono (by assumption) (by first | omega | (simp; done) | (simp; omega) | (simp at *; omega)))))))).mono ?_
  rintro e6 w6 ⟨rfl, hb6⟩
  obtain ⟨hc6, hf6⟩ := bcell hb6
  have hz6 := hb6.size
  try simp at hz6
  go_wp2_with fail
  refine bp_ret ⟨?_, ?_, ?_, ?_⟩ rfl; rotate_left
  · (simp [results, Tryd.results8, go_sem, *]; rfl)
  rotate_left
  · repeat (first | exact Below.refl _ _ | assumption | (refine Below.alloc ?_ (by first | omega | (simp; done) | (simp; omega) | (simp at *; omega)) _) | (refine Below.setCell ?_ (by first | omega | (simp; done) | (simp; omega) | (simp at *; omega)) _) | (refine Below.trans ?_ (below_drewN _ _ _)) | (refine Below.drew ?_) | (refine Below.trans ?_ (Below.mono (by assumption) (by first | omega | (simp; done) | (simp; omega) | (simp at *; omega)))))
  · rfl

set_option maxHeartbeats 1000000 in
set_option maxRecDepth 100000 in
theorem adj_walk101 (m s b0 b1 NP NQ : Int) (m1 : 1 ≤ m) (hm2 : m < 4294967296) (kT : m < 2147483648) (hle : NP ≤ NQ) (hb0 : -2147483648 ≤ b0 ∧ b0 < 2147483648) (hb1 : -2147483648 ≤ b1 ∧ b1 < 2147483648) (w : World) (hLH : Hid (LaidW w))
    (h1 : Hid (∀ w, Calls Tryd.prog 44 #[.agg #[.int .u32 m, .int .i64 s]] w fun e w' => e = .returned (.nilIface) ∧ Below w.heap.size w w'))
    (h2 : Hid (∀ w, Calls Tryd.prog 45 #[.agg #[.int .u32 m, .int .i64 s], .int .i64 0] w fun e w' => e = .returned (.tuple #[.agg #[.int .u32 m, .int .i64 s], .nilIface]) ∧ Below w.heap.size w w'))
    (h3 : Hid (∀ w, Calls Tryd.prog 45 #[.agg #[.int .u32 m, .int .i64 s], .int .i64 (min b0 b1)] w fun e w' => e = .returned (.tuple #[.agg #[.int .u32 0, .int .i64 0], .iface 122 (.int .i64 2)]) ∧ Below w.heap.size w w'))
    (h4 : Hid (∀ w, Calls Tryd.prog 45 #[.agg #[.int .u32 m, .int .i64 s], .int .i64 (max b0 b1)] w fun e w' => e = .returned (.tuple #[.agg #[.int .u32 NQ, .int .i64 s], .nilIface]) ∧ Below w.heap.size w w'))
    (h5 : Hid (∀ w, Calls Tryd.prog 45 #[.agg #[.int .u32 m, .int .i64 s], .int .i64 1073741824] w fun e w' => e = .returned (.tuple #[.agg #[.int .u32 (2 * m), .int .i64 s], .nilIface]) ∧ Below w.heap.size w w'))
    (h6 : Hid (∀ w (_ : LaidW w), Calls Tryd.prog 47 #[] w fun e w' => e = .returned (.bool true) ∧ Below w.heap.size w w')) :
    Calls Tryd.prog 8 #[.agg #[.int .u32 m, .int .i64 s], .agg #[.int .i32 b0, .int .i32 b1]] w fun e w' => e = .returned (.bool true) ∧ Below w.heap.size w w' := by
  go_enter Tryd.func8, Tryd.ntmps8
  go_wp2_with fail
  refine (h1.out _).mono ?_
  rintro e1 w1 ⟨rfl, hb1⟩
  obtain ⟨hc1, hf1⟩ := bcell hb1
  have hz1 := hb1.size
  try simp at hz1
  have hz1_0 : w.heap.size < w1.heap.size := by omega
  have hz1_1 : w.heap.size + 1 < w1.heap.size := by omega
  have hz1_2 : w.heap.size + 1 + 1 < w1.heap.size := by omega
  go_wp2_with fail
  refine (h2.out _).mono ?_
  rintro e2 w2 ⟨rfl, hb2⟩
  obtain ⟨hc2, hf2⟩ := bcell hb2
  have hz2 := hb2.size
  try simp at hz2
  have hz2_0 : w.heap.size < w2.heap.size := by omega
  have hz2_1 : w.heap.size + 1 < w2.heap.size := by omega
  have hz2_2 : w.heap.size + 1 + 1 < w2.heap.size := by omega
  go_wp2_with fail
  refine (h3.out _).mono ?_
  rintro e3 w3 ⟨rfl, hb3⟩
  obtain ⟨hc3, hf3⟩ := bcell hb3
  have hz3 := hb3.size
  try simp at hz3
  have hz3_0 : w.heap.size < w3.heap.size := by omega
  have hz3_1 : w.heap.size + 1 < w3.heap.size := by omega
  have hz3_2 : w.heap.size + 1 + 1 < w3.heap.size := by omega
  have hz3_w2 : w2.heap.size < w3.heap.size := by omega
  have hz3_w2a : w2.heap.size < w3.heap.size + 1 := by omega
  have hz3_w2b : w2.heap.size ≤ w3.heap.size := by omega
  go_wp2_with fail
  refine (h4.out _).mono ?_
  rintro e4 w4 ⟨rfl, hb4⟩
  obtain ⟨hc4, hf4⟩ := bcell hb4
  have hz4 := hb4.size
  try simp at hz4
  have hz4_0 : w.heap.size < w4.heap.size := by omega
  have hz4_1 : w.heap.size + 1 < w4.heap.size := by omega
  have hz4_2 : w.heap.size + 1 + 1 < w4.heap.size := by omega
  have hz4_w2 : w2.heap.size < w4.heap.size := by omega
  have hz4_w3 : w3.heap.size < w4.heap.size := by omega
  have hz4_w2a : w2.heap.size < w4.heap.size + 1 := by omega
  have hz4_w3a : w3.heap.size < w4.heap.size + 1 := by omega
  have hz4_w2b : w2.heap.size ≤ w4.heap.size := by omega
  have hz4_w3b : w3.heap.size ≤ w4.heap.size := by omega
  go_wp2_with fail
  refine (h5.out _).mono ?_
  rintro e5 w5 ⟨rfl, hb5⟩
  obtain ⟨hc5, hf5⟩ := bcell hb5
  have hz5 := hb5.size
  try simp at hz5
  have hz5_0 : w.heap.size < w5.heap.size := by omega
  have hz5_1 : w.heap.size + 1 < w5.heap.size := by omega
  have hz5_2 : w.heap.size + 1 + 1 < w5.heap.size := by omega
  have hz5_w2 : w2.heap.size < w5.heap.size := by omega
  have hz5_w3 : w3.heap.size < w5.heap.size := by omega
  have hz5_w4 : w4.heap.size < w5.heap.size := by omega
  have hz5_w2a : w2.heap.size < w5.heap.size + 1 := by omega
  have hz5_w3a : w3.heap.size < w5.heap.size + 1 := by omega
  have hz5_w4a : w4.heap.size < w5.heap.size + 1 := by omega
  have hz5_w2b : w2.heap.size ≤ w5.heap.size := by omega
  have hz5_w3b : w3.heap.size ≤ w5.heap.size := by omega
  have hz5_w4b : w4.heap.size ≤ w5.heap.size := by omega
  go_wp2_with fail
  refine wp_region_tail_drew 50 (by kernel_rfl) (by kernel_rfl) ?_
  simp only [List.take_succ_cons, List.take_zero, List.drop_succ_cons, List.drop_zero]
  iterate 11 (with_reducible refine wpStill_step (fun K hK => ?_); go_simp; with_reducible refine hK _ ?_; clear hK K)
  iterate 2 (with_reducible refine wpStill_pass (by kernel_rfl) (fun K hK => ?_); go_simp; with_reducible refine hK _ ?_; clear hK K)
  iterate 2 (with_reducible refine wpStill_step (fun K hK => ?_); go_simp; with_reducible refine hK _ ?_; clear hK K)
  iterate 12 (with_reducible refine wpStill_pass (by kernel_rfl) (fun K hK => ?_); go_simp; with_reducible refine hK _ ?_; clear hK K)
  iterate 23 (with_reducible refine wpStill_step (fun K hK => ?_); go_simp; with_reducible refine hK _ ?_; clear hK K)
  with_reducible refine wpStill_nil ?_
  go_wp2_with fail
  refine (h6.out _ (LaidW.below hLH.out (by repeat (first | exact Below.refl _ _ | assumption | (refine Below.alloc ?_ (by first | omega | (simp; done) | (simp; omega) | (simp at *; omega)) _) | (refine Below.setCell ?_ (by first | omega | (simp; done) | (simp; omega) | (simp at *; omega)) _) | (refine Below.trans ?_ (below_drewN _ _ _)) | (refine Below.drew ?_) | (refine Below.trans ?_ (Below.mono (by assumption) (by first | omega | (simp; done) | (simp; omega) | (simp at *; omega)))))))).mono ?_
  rintro e6 w6 ⟨rfl, hb6⟩
  obtain ⟨hc6, hf6⟩ := bcell hb6
  have hz6 := hb6.size
  try simp at hz6
  go_wp2_with fail
  refine bp_ret ⟨?_, ?_, ?_, ?_⟩ rfl; rotate_left
  · (simp [results, Tryd.results8, go_sem, *]; rfl)
  rotate_left
  · repeat (first | exact Below.refl _ _ | assumption | (refine Below.alloc ?_ (by first | omega | (simp; done) | (simp; omega) | (simp at *; omega)) _) | (refine Below.setCell ?_ (by first | omega | (simp; done) | (simp; omega) | (simp at *; omega)) _) | (refine Below.trans ?_ (below_drewN _ _ _)) | (refine Below.drew ?_) | (refine Below.trans ?_ (Below.mono (by assumption) (by first | omega | (simp; done) | (simp; omega) | (simp at *; omega)))))
  · rfl

set_option maxHeartbeats 1000000 in
set_option maxRecDepth 100000 in
theorem adj_walk100 (m s b0 b1 NP NQ : Int) (m1 : 1 ≤ m) (hm2 : m < 4294967296) (kT : m < 2147483648) (hle : NP ≤ NQ) (hb0 : -2147483648 ≤ b0 ∧ b0 < 2147483648) (hb1 : -2147483648 ≤ b1 ∧ b1 < 2147483648) (w : World) (hLH : Hid (LaidW w))
    (h1 : Hid (∀ w, Calls Tryd.prog 44 #[.agg #[.int .u32 m, .int .i64 s]] w fun e w' => e = .returned (.nilIface) ∧ Below w.heap.size w w'))
    (h2 : Hid (∀ w, Calls Tryd.prog 45 #[.agg #[.int .u32 m, .int .i64 s], .int .i64 0] w fun e w' => e = .returned (.tuple #[.agg #[.int .u32 m, .int .i64 s], .nilIface]) ∧ Below w.heap.size w w'))
    (h3 : Hid (∀ w, Calls Tryd.prog 45 #[.agg #[.int .u32 m, .int .i64 s], .int .i64 (min b0 b1)] w fun e w' => e = .returned (.tuple #[.agg #[.int .u32 0, .int .i64 0], .iface 122 (.int .i64 2)]) ∧ Below w.heap.size w w'))
    (h4 : Hid (∀ w, Calls Tryd.prog 45 #[.agg #[.int .u32 m, .int .i64 s], .int .i64 (max b0 b1)] w fun e w' => e = .returned (.tuple #[.agg #[.int .u32 0, .int .i64 0], .iface 122 (.int .i64 2)]) ∧ Below w.heap.size w w'))
    (h5 : Hid (∀ w, Calls Tryd.prog 45 #[.agg #[.int .u32 m, .int .i64 s], .int .i64 1073741824] w fun e w' => e = .returned (.tuple #[.agg #[.int .u32 (2 * m), .int .i64 s], .nilIface]) ∧ Below w.heap.size w w'))
    (h6 : Hid (∀ w (_ : LaidW w), Calls Tryd.prog 47 #[] w fun e w' => e = .returned (.bool true) ∧ Below w.heap.size w w')) :
    Calls Tryd.prog 8 #[.agg #[.int .u32 m, .int .i64 s], .agg #[.int .i32 b0, .int .i32 b1]] w fun e w' => e = .returned (.bool true) ∧ Below w.heap.size w w' := by
  go_enter Tryd.func8, Tryd.ntmps8
  go_wp2_with fail
  refine (h1.out _).mono ?_
  rintro e1 w1 ⟨rfl, hb1⟩
  obtain ⟨hc1, hf1⟩ := bcell hb1
  have hz1 := hb1.size
  try simp at hz1
  have hz1_0 : w.heap.size < w1.heap.size := by omega
  have hz1_1 : w.heap.size + 1 < w1.heap.size := by omega
  have hz1_2 : w.heap.size + 1 + 1 < w1.heap.size := by omega
  go_wp2_with fail
  refine (h2.out _).mono ?_
  rintro e2 w2 ⟨rfl, hb2⟩
  obtain ⟨hc2, hf2⟩ := bcell hb2
  have hz2 := hb2.size
  try simp at hz2
  have hz2_0 : w.heap.size < w2.heap.size := by omega
  have hz2_1 : w.heap.size + 1 < w2.heap.size := by omega
  have hz2_2 : w.heap.size + 1 + 1 < w2.heap.size := by omega
  go_wp2_with fail
  refine (h3.out _).mono ?_
  rintro e3 w3 ⟨rfl, hb3⟩
  obtain ⟨hc3, hf3⟩ := bcell hb3
  have hz3 := hb3.size
  try simp at hz3
  have hz3_0 : w.heap.size < w3.heap.size := by omega
  have hz3_1 : w.heap.size + 1 < w3.heap.size := by omega
  have hz3_2 : w.heap.size + 1 + 1 < w3.heap.size := by omega
  have hz3_w2 : w2.heap.size < w3.heap.size := by omega
  have hz3_w2a : w2.heap.size < w3.heap.size + 1 := by omega
  have hz3_w2b : w2.heap.size ≤ w3.heap.size := by omega
  go_wp2_with fail
  refine (h4.out _).mono ?_
  rintro e4 w4 ⟨rfl, hb4⟩
  obtain ⟨hc4, hf4⟩ := bcell hb4
  have hz4 := hb4.size
  try simp at hz4
  have hz4_0 : w.heap.size < w4.heap.size := by omega
  have hz4_1 : w.heap.size + 1 < w4.heap.size := by omega
  have hz4_2 : w.heap.size + 1 + 1 < w4.heap.size := by omega
  have hz4_w2 : w2.heap.size < w4.heap.size := by omega
  have hz4_w3 : w3.heap.size < w4.heap.size := by omega
  have hz4_w2a : w2.heap.size < w4.heap.size + 1 := by omega
  have hz4_w3a : w3.heap.size < w4.heap.size + 1 := by omega
  have hz4_w2b : w2.heap.size ≤ w4.heap.size := by omega
  have hz4_w3b : w3.heap.size ≤ w4.heap.size := by omega
  go_wp2_with fail
  refine (h5.out _).mono ?_
  rintro e5 w5 ⟨rfl, hb5⟩
  obtain ⟨hc5, hf5⟩ := bcell hb5
  have hz5 := hb5.size
  try simp at hz5
  have hz5_0 : w.heap.size < w5.heap.size := by omega
  have hz5_1 : w.heap.size + 1 < w5.heap.size := by omega
  have hz5_2 : w.heap.size + 1 + 1 < w5.heap.size := by omega
  have hz5_w2 : w2.heap.size < w5.heap.size := by omega
  have hz5_w3 : w3.heap.size < w5.heap.size := by omega
  have hz5_w4 : w4.heap.size < w5.heap.size := by omega
  have hz5_w2a : w2.heap.size < w5.heap.size + 1 := by omega
  have hz5_w3a : w3.heap.size < w5.heap.size + 1 := by omega
  have hz5_w4a : w4.heap.size < w5.heap.size + 1 := by omega
  have hz5_w2b : w2.heap.size ≤ w5.heap.size := by omega
  have hz5_w3b : w3.heap.size ≤ w5.heap.size := by omega
  have hz5_w4b : w4.heap.size ≤ w5.heap.size := by omega
  go_wp2_with fail
  refine wp_region_tail_drew 50 (by kernel_rfl) (by kernel_rfl) ?_
  simp only [List.take_succ_cons, List.take_zero, List.drop_succ_cons, List.drop_zero]
  iterate 11 (with_reducible refine wpStill_step (fun K hK => ?_); go_simp; with_reducible refine hK _ ?_; clear hK K)
  iterate 2 (with_reducible refine wpStill_pass (by kernel_rfl) (fun K hK => ?_); go_simp; with_reducible refine hK _ ?_; clear hK K)
  iterate 2 (with_reducible refine wpStill_step (fun K hK => ?_); go_simp; with_reducible refine hK _ ?_; clear hK K)
  iterate 12 (with_reducible refine wpStill_pass (by kernel_rfl) (fun K hK => ?_); go_simp; with_reducible refine hK _ ?_; clear hK K)
  iterate 23 (with_reducible refine wpStill_step (fun K hK => ?_); go_simp; with_reducible refine hK _ ?_; clear hK K)
  with_reducible refine wpStill_nil ?_
  go_wp2_with fail
  refine (h6.out _ (LaidW.below hLH.out (by repeat (first | exact Below.refl _ _ | assumption | (refine Below.alloc ?_ (by first | omega | (simp; done) | (simp; omega) | (simp at *; omega)) _) | (refine Below.setCell ?_ (by first | omega | (simp; done) | (simp; omega) | (simp at *; omega)) _) | (refine Below.trans ?_ (below_drewN _ _ _)) | (refine Below.drew ?_) | (refine Below.trans ?_ (Below.mono (by assumption) (by first | omega | (simp; done) | (simp; omega) | (simp at *; omega)))))))).mono ?_
  rintro e6 w6 ⟨rfl, hb6⟩
  obtain ⟨hc6, hf6⟩ := bcell hb6
  have hz6 := hb6.size
  try simp at hz6
  go_wp2_with fail
  refine bp_ret ⟨?_, ?_, ?_, ?_⟩ rfl; rotate_left
  · (simp [results, Tryd.results8, go_sem, *]; rfl)
  rotate_left
  · repeat (first | exact Below.refl _ _ | assumption | (refine Below.alloc ?_ (by first | omega | (simp; done) | (simp; omega) | (simp at *; omega)) _) | (refine Below.setCell ?_ (by first | omega | (simp; done) | (simp; omega) | (simp at *; omega)) _) | (refine Below.trans ?_ (below_drewN _ _ _)) | (refine Below.drew ?_) | (refine Below.trans ?_ (Below.mono (by assumption) (by first | omega | (simp; done) | (simp; omega) | (simp at *; omega)))))
  · rfl

end Go.Proofs.YtkdjfakjnkemiaaDoor
