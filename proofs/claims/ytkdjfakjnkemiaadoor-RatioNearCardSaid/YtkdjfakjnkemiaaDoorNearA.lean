/- The statement RatioNear: the walks, one for each way in which its calls answer. -/
import Derived.Test.YtkdjfakjnkemiaaDoorSure03
import Derived.Test.YtkdjfakjnkemiaaDoorNear
import Derived.StillTailTactics
namespace Go.Proofs.YtkdjfakjnkemiaaDoor
open Go.RowKit

set_option maxHeartbeats 1000000 in
set_option maxRecDepth 100000 in
theorem near_fit (a b n0 n1 k : Int) (w : World) (hLH : Hid (LaidW w))
    (h1 : Hid (∀ w, Calls Tryd.prog 48 #[.int .u64 a, .int .u64 b] w fun e w' => e = .returned (.tuple #[.agg #[.int .u32 0, .int .i64 0], .iface 122 (.int .i64 k)]) ∧ Below w.heap.size w w'))
    (h6 : Hid (∀ w (_ : LaidW w), Calls Tryd.prog 47 #[] w fun e w' => e = .returned (.bool true) ∧ Below w.heap.size w w')) :
    Calls Tryd.prog 9 #[.int .u64 a, .int .u64 b, .agg #[.int .i64 n0, .int .i64 n1]] w fun e w' => e = .returned (.bool true) ∧ Below w.heap.size w w' := by
  go_enter Tryd.func9, Tryd.ntmps9
  go_wp2_with fail
  refine (h1.out _).mono ?_
  rintro e1 w1 ⟨rfl, hb1⟩
  obtain ⟨hc1, hf1⟩ := bcell hb1
  have hz1 := hb1.size
  try simp at hz1
  have hz1_0 : w.heap.size < w1.heap.size := by omega
  go_wp2_with fail
  refine (h6.out _ (LaidW.below hLH.out (by repeat (first | exact Below.refl _ _ | assumption | (refine Below.alloc ?_ (by first | omega | (simp; done) | (simp; omega) | (simp at *; omega)) _) | (refine Below.setCell ?_ (by first | omega | (simp; done) | (simp; omega) | (simp at *; omega)) _) | (refine Below.trans ?_ (below_drewN _ _ _)) | (refine Below.drew ?_) | (refine Below.trans ?_ (Below.mono (by assumption) (by first | omega | (simp; done) | (simp; omega) | (simp at *; omega)))))))).mono ?_
  rintro e2 w2 ⟨rfl, hb2⟩
  obtain ⟨hc2, hf2⟩ := bcell hb2
  have hz2 := hb2.size
  try simp at hz2
  have hz2_0 : w.heap.size < w2.heap.size := by omega
  go_wp2_with fail
  refine bp_ret ⟨?_, ?_, ?_, ?_⟩ rfl; rotate_left
  · (simp [results, Tryd.results9, go_sem, *]; rfl)
  rotate_left
  · repeat (first | exact Below.refl _ _ | assumption | (refine Below.alloc ?_ (by first | omega | (simp; done) | (simp; omega) | (simp at *; omega)) _) | (refine Below.setCell ?_ (by first | omega | (simp; done) | (simp; omega) | (simp at *; omega)) _) | (refine Below.trans ?_ (below_drewN _ _ _)) | (refine Below.drew ?_) | (refine Below.trans ?_ (Below.mono (by assumption) (by first | omega | (simp; done) | (simp; omega) | (simp at *; omega)))))
  · rfl

set_option maxHeartbeats 1000000 in
set_option maxRecDepth 100000 in
theorem near_out_a (a b n0 n1 m s : Int) (k0 : n0 < 0) (w : World) (hLH : Hid (LaidW w))
    (h1 : Hid (∀ w, Calls Tryd.prog 48 #[.int .u64 a, .int .u64 b] w fun e w' => e = .returned (.tuple #[.agg #[.int .u32 m, .int .i64 s], .nilIface]) ∧ Below w.heap.size w w'))
    (h6 : Hid (∀ w (_ : LaidW w), Calls Tryd.prog 47 #[] w fun e w' => e = .returned (.bool true) ∧ Below w.heap.size w w')) :
    Calls Tryd.prog 9 #[.int .u64 a, .int .u64 b, .agg #[.int .i64 n0, .int .i64 n1]] w fun e w' => e = .returned (.bool true) ∧ Below w.heap.size w w' := by
  go_enter Tryd.func9, Tryd.ntmps9
  go_wp2_with fail
  refine (h1.out _).mono ?_
  rintro e1 w1 ⟨rfl, hb1⟩
  obtain ⟨hc1, hf1⟩ := bcell hb1
  have hz1 := hb1.size
  try simp at hz1
  have hz1_0 : w.heap.size < w1.heap.size := by omega
  go_wp2_with fail
  refine (h6.out _ (LaidW.below hLH.out (by repeat (first | exact Below.refl _ _ | assumption | (refine Below.alloc ?_ (by first | omega | (simp; done) | (simp; omega) | (simp at *; omega)) _) | (refine Below.setCell ?_ (by first | omega | (simp; done) | (simp; omega) | (simp at *; omega)) _) | (refine Below.trans ?_ (below_drewN _ _ _)) | (refine Below.drew ?_) | (refine Below.trans ?_ (Below.mono (by assumption) (by first | omega | (simp; done) | (simp; omega) | (simp at *; omega)))))))).mono ?_
  rintro e2 w2 ⟨rfl, hb2⟩
  obtain ⟨hc2, hf2⟩ := bcell hb2
  have hz2 := hb2.size
  try simp at hz2
  have hz2_0 : w.heap.size < w2.heap.size := by omega
  go_wp2_with fail
  refine bp_ret ⟨?_, ?_, ?_, ?_⟩ rfl; rotate_left
  · (simp [results, Tryd.results9, go_sem, *]; rfl)
  rotate_left
  · repeat (first | exact Below.refl _ _ | assumption | (refine Below.alloc ?_ (by first | omega | (simp; done) | (simp; omega) | (simp at *; omega)) _) | (refine Below.setCell ?_ (by first | omega | (simp; done) | (simp; omega) | (simp at *; omega)) _) | (refine Below.trans ?_ (below_drewN _ _ _)) | (refine Below.drew ?_) | (refine Below.trans ?_ (Below.mono (by assumption) (by first | omega | (simp; done) | (simp; omega) | (simp at *; omega)))))
  · rfl

set_option maxHeartbeats 1000000 in
set_option maxRecDepth 100000 in
theorem near_out_b (a b n0 n1 m s : Int) (k0 : 0 ≤ n0) (k1 : 4611686018427387904 < n0) (w : World) (hLH : Hid (LaidW w))
    (h1 : Hid (∀ w, Calls Tryd.prog 48 #[.int .u64 a, .int .u64 b] w fun e w' => e = .returned (.tuple #[.agg #[.int .u32 m, .int .i64 s], .nilIface]) ∧ Below w.heap.size w w'))
    (h6 : Hid (∀ w (_ : LaidW w), Calls Tryd.prog 47 #[] w fun e w' => e = .returned (.bool true) ∧ Below w.heap.size w w')) :
    Calls Tryd.prog 9 #[.int .u64 a, .int .u64 b, .agg #[.int .i64 n0, .int .i64 n1]] w fun e w' => e = .returned (.bool true) ∧ Below w.heap.size w w' := by
  go_enter Tryd.func9, Tryd.ntmps9
  go_wp2_with fail
  refine (h1.out _).mono ?_
  rintro e1 w1 ⟨rfl, hb1⟩
  obtain ⟨hc1, hf1⟩ := bcell hb1
  have hz1 := hb1.size
  try simp at hz1
  have hz1_0 : w.heap.size < w1.heap.size := by omega
  go_wp2_with fail
  refine (h6.out _ (LaidW.below hLH.out (by repeat (first | exact Below.refl _ _ | assumption | (refine Below.alloc ?_ (by first | omega | (simp; done) | (simp; omega) | (simp at *; omega)) _) | (refine Below.setCell ?_ (by first | omega | (simp; done) | (simp; omega) | (simp at *; omega)) _) | (refine Below.trans ?_ (below_drewN _ _ _)) | (refine Below.drew ?_) | (refine Below.trans ?_ (Below.mono (by assumption) (by first | omega | (simp; done) | (simp; omega) | (simp at *; omega)))))))).mono ?_
  rintro e2 w2 ⟨rfl, hb2⟩
  obtain ⟨hc2, hf2⟩ := bcell hb2
  have hz2 := hb2.size
  try simp at hz2
  have hz2_0 : w.heap.size < w2.heap.size := by omega
  go_wp2_with fail
  refine bp_ret ⟨?_, ?_, ?_, ?_⟩ rfl; rotate_left
  · (simp [results, Tryd.results9, go_sem, *]; rfl)
  rotate_left
  · repeat (first | exact Below.refl _ _ | assumption | (refine Below.alloc ?_ (by first | omega | (simp; done) | (simp; omega) | (simp at *; omega)) _) | (refine Below.setCell ?_ (by first | omega | (simp; done) | (simp; omega) | (simp at *; omega)) _) | (refine Below.trans ?_ (below_drewN _ _ _)) | (refine Below.drew ?_) | (refine Below.trans ?_ (Below.mono (by assumption) (by first | omega | (simp; done) | (simp; omega) | (simp at *; omega)))))
  · rfl

set_option maxHeartbeats 1000000 in
set_option maxRecDepth 100000 in
theorem near_out_c (a b n0 n1 m s : Int) (k0 : 0 ≤ n0) (k1 : n0 ≤ 4611686018427387904) (k2 : n1 < n0) (w : World) (hLH : Hid (LaidW w))
    (h1 : Hid (∀ w, Calls Tryd.prog 48 #[.int .u64 a, .int .u64 b] w fun e w' => e = .returned (.tuple #[.agg #[.int .u32 m, .int .i64 s], .nilIface]) ∧ Below w.heap.size w w'))
    (h6 : Hid (∀ w (_ : LaidW w), Calls Tryd.prog 47 #[] w fun e w' => e = .returned (.bool true) ∧ Below w.heap.size w w')) :
    Calls Tryd.prog 9 #[.int .u64 a, .int .u64 b, .agg #[.int .i64 n0, .int .i64 n1]] w fun e w' => e = .returned (.bool true) ∧ Below w.heap.size w w' := by
  go_enter Tryd.func9, Tryd.ntmps9
  go_wp2_with fail
  refine (h1.out _).mono ?_
  rintro e1 w1 ⟨rfl, hb1⟩
  obtain ⟨hc1, hf1⟩ := bcell hb1
  have hz1 := hb1.size
  try simp at hz1
  have hz1_0 : w.heap.size < w1.heap.size := by omega
  go_wp2_with fail
  refine (h6.out _ (LaidW.below hLH.out (by repeat (first | exact Below.refl _ _ | assumption | (refine Below.alloc ?_ (by first | omega | (simp; done) | (simp; omega) | (simp at *; omega)) _) | (refine Below.setCell ?_ (by first | omega | (simp; done) | (simp; omega) | (simp at *; omega)) _) | (refine Below.trans ?_ (below_drewN _ _ _)) | (refine Below.drew ?_) | (refine Below.trans ?_ (Below.mono (by assumption) (by first | omega | (simp; done) | (simp; omega) | (simp at *; omega)))))))).mono ?_
  rintro e2 w2 ⟨rfl, hb2⟩
  obtain ⟨hc2, hf2⟩ := bcell hb2
  have hz2 := hb2.size
  try simp at hz2
  have hz2_0 : w.heap.size < w2.heap.size := by omega
  go_wp2_with fail
  refine bp_ret ⟨?_, ?_, ?_, ?_⟩ rfl; rotate_left
  · (simp [results, Tryd.results9, go_sem, *]; rfl)
  rotate_left
  · repeat (first | exact Below.refl _ _ | assumption | (refine Below.alloc ?_ (by first | omega | (simp; done) | (simp; omega) | (simp at *; omega)) _) | (refine Below.setCell ?_ (by first | omega | (simp; done) | (simp; omega) | (simp at *; omega)) _) | (refine Below.trans ?_ (below_drewN _ _ _)) | (refine Below.drew ?_) | (refine Below.trans ?_ (Below.mono (by assumption) (by first | omega | (simp; done) | (simp; omega) | (simp at *; omega)))))
  · rfl

set_option maxHeartbeats 1000000 in
set_option maxRecDepth 100000 in
theorem near_out_d (a b n0 n1 m s : Int) (k0 : 0 ≤ n0) (k1 : n0 ≤ 4611686018427387904) (k2 : n0 ≤ n1) (k3 : 4611686018427387904 < n1) (w : World) (hLH : Hid (LaidW w))
    (h1 : Hid (∀ w, Calls Tryd.prog 48 #[.int .u64 a, .int .u64 b] w fun e w' => e = .returned (.tuple #[.agg #[.int .u32 m, .int .i64 s], .nilIface]) ∧ Below w.heap.size w w'))
    (h6 : Hid (∀ w (_ : LaidW w), Calls Tryd.prog 47 #[] w fun e w' => e = .returned (.bool true) ∧ Below w.heap.size w w')) :
    Calls Tryd.prog 9 #[.int .u64 a, .int .u64 b, .agg #[.int .i64 n0, .int .i64 n1]] w fun e w' => e = .returned (.bool true) ∧ Below w.heap.size w w' := by
  go_enter Tryd.func9, Tryd.ntmps9
  go_wp2_with fail
  refine (h1.out _).mono ?_
  rintro e1 w1 ⟨rfl, hb1⟩
  obtain ⟨hc1, hf1⟩ := bcell hb1
  have hz1 := hb1.size
  try simp at hz1
  have hz1_0 : w.heap.size < w1.heap.size := by omega
  go_wp2_with fail
  refine (h6.out _ (LaidW.below hLH.out (by repeat (first | exact Below.refl _ _ | assumption | (refine Below.alloc ?_ (by first | omega | (simp; done) | (simp; omega) | (simp at *; omega)) _) | (refine Below.setCell ?_ (by first | omega | (simp; done) | (simp; omega) | (simp at *; omega)) _) | (refine Below.trans ?_ (below_drewN _ _ _)) | (refine Below.drew ?_) | (refine Below.trans ?_ (Below.mono (by assumption) (by first | omega | (simp; done) | (simp; omega) | (simp at *; omega)))))))).mono ?_
  rintro e2 w2 ⟨rfl, hb2⟩
  obtain ⟨hc2, hf2⟩ := bcell hb2
  have hz2 := hb2.size
  try simp at hz2
  have hz2_0 : w.heap.size < w2.heap.size := by omega
  go_wp2_with fail
  refine bp_ret ⟨?_, ?_, ?_, ?_⟩ rfl; rotate_left
  · (simp [results, Tryd.results9, go_sem, *]; rfl)
  rotate_left
  · repeat (first | exact Below.refl _ _ | assumption | (refine Below.alloc ?_ (by first | omega | (simp; done) | (simp; omega) | (simp at *; omega)) _) | (refine Below.setCell ?_ (by first | omega | (simp; done) | (simp; omega) | (simp at *; omega)) _) | (refine Below.trans ?_ (below_drewN _ _ _)) | (refine Below.drew ?_) | (refine Below.trans ?_ (Below.mono (by assumption) (by first | omega | (simp; done) | (simp; omega) | (simp at *; omega)))))
  · rfl

set_option maxHeartbeats 1000000 in
set_option maxRecDepth 100000 in
theorem near_in111 (a b n0 n1 m s x y z r : Int) (ha : IntKind.i64.wrap a = a) (hb : IntKind.i64.wrap b = b) (k0 : 0 ≤ n0) (k1 : n0 ≤ 4611686018427387904) (k2 : n0 ≤ n1) (k3 : n1 ≤ 4611686018427387904) (j0 : IntKind.i64.wrap (z - x) = z - x) (j1 : x ≤ y) (j2 : x ≤ z) (j3 : z - x ≤ r) (w : World) (hLH : Hid (LaidW w))
    (h1 : Hid (∀ w, Calls Tryd.prog 48 #[.int .u64 a, .int .u64 b] w fun e w' => e = .returned (.tuple #[.agg #[.int .u32 m, .int .i64 s], .nilIface]) ∧ Below w.heap.size w w'))
    (h2 : Hid (∀ w, Calls Tryd.prog 49 #[.agg #[.int .u32 m, .int .i64 s], .int .i64 n0] w fun e w' => e = .returned (.tuple #[.int .i64 x, .nilIface]) ∧ Below w.heap.size w w'))
    (h3 : Hid (∀ w, Calls Tryd.prog 49 #[.agg #[.int .u32 m, .int .i64 s], .int .i64 n1] w fun e w' => e = .returned (.tuple #[.int .i64 y, .nilIface]) ∧ Below w.heap.size w w'))
    (h4 : Hid (∀ w, Calls Tryd.prog 36 #[.int .i64 n0, .int .i64 a, .int .i64 b] w fun e w' => e = .returned (.tuple #[.int .i64 z, .nilIface]) ∧ Below w.heap.size w w'))
    (h5 : Hid (∀ w, Calls Tryd.prog 50 #[.agg #[.int .u32 m, .int .i64 s], .int .i64 n0] w fun e w' => e = .returned (.tuple #[.int .i64 r, .nilIface]) ∧ Below w.heap.size w w'))
    (h6 : Hid (∀ w (_ : LaidW w), Calls Tryd.prog 47 #[] w fun e w' => e = .returned (.bool true) ∧ Below w.heap.size w w')) :
    Calls Tryd.prog 9 #[.int .u64 a, .int .u64 b, .agg #[.int .i64 n0, .int .i64 n1]] w fun e w' => e = .returned (.bool true) ∧ Below w.heap.size w w' := by
  go_enter Tryd.func9, Tryd.ntmps9
  go_wp2_with fail
  refine (h1.out _).mono ?_
  rintro e1 w1 ⟨rfl, hb1⟩
  obtain ⟨hc1, hf1⟩ := bcell hb1
  have hz1 := hb1.size
  try simp at hz1
  have hz1_0 : w.heap.size < w1.heap.size := by omega
  go_wp2_with fail
  refine (h2.out _).mono ?_
  rintro e2 w2 ⟨rfl, hb2⟩
  obtain ⟨hc2, hf2⟩ := bcell hb2
  have hz2 := hb2.size
  try simp at hz2
  have hz2_0 : w.heap.size < w2.heap.size := by omega
  have hz2_w1 : w1.heap.size < w2.heap.size := by omega
  have hz2_w1a : w1.heap.size < w2.heap.size + 1 := by omega
  have hz2_w1b : w1.heap.size ≤ w2.heap.size := by omega
  go_wp2_with fail
  refine (h3.out _).mono ?_
  rintro e3 w3 ⟨rfl, hb3⟩
  obtain ⟨hc3, hf3⟩ := bcell hb3
  have hz3 := hb3.size
  try simp at hz3
  have hz3_0 : w.heap.size < w3.heap.size := by omega
  have hz3_w1 : w1.heap.size < w3.heap.size := by omega
  have hz3_w1a : w1.heap.size < w3.heap.size + 1 := by omega
  have hz3_w1b : w1.heap.size ≤ w3.heap.size := by omega
  go_wp2_with fail
  refine (h4.out _).mono ?_
  rintro e4 w4 ⟨rfl, hb4⟩
  obtain ⟨hc4, hf4⟩ := bcell hb4
  have hz4 := hb4.size
  try simp at hz4
  have hz4_0 : w.heap.size < w4.heap.size := by omega
  have hz4_w1 : w1.heap.size < w4.heap.size := by omega
  have hz4_w1a : w1.heap.size < w4.heap.size + 1 := by omega
  have hz4_w1b : w1.heap.size ≤ w4.heap.size := by omega
  go_wp2_with fail
  refine (h5.out _).mono ?_
  rintro e5 w5 ⟨rfl, hb5⟩
  obtain ⟨hc5, hf5⟩ := bcell hb5
  have hz5 := hb5.size
  try simp at hz5
  have hz5_0 : w.heap.size < w5.heap.size := by omega
  have hz5_w1 : w1.heap.size < w5.heap.size := by omega
  have hz5_w1a : w1.heap.size < w5.heap.size + 1 := by omega
  have hz5_w1b : w1.heap.size ≤ w5.heap.size := by omega
  go_wp2_with fail
  refine (h6.out _ (LaidW.below hLH.out (by repeat (first | exact Below.refl _ _ | assumption | (refine Below.alloc ?_ (by first | omega | (simp; done) | (simp; omega) | (simp at *; omega)) _) | (refine Below.setCell ?_ (by first | omega | (simp; done) | (simp; omega) | (simp at *; omega)) _) | (refine Below.trans ?_ (below_drewN _ _ _)) | (refine Below.drew ?_) | (refine Below.trans ?_ (Below.mono (by assumption) (by first | omega | (simp; done) | (simp; omega) | (simp at *; omega)))))))).mono ?_
  rintro e6 w6 ⟨rfl, hb6⟩
  obtain ⟨hc6, hf6⟩ := bcell hb6
  have hz6 := hb6.size
  try simp at hz6
  have hz6_0 : w.heap.size < w6.heap.size := by omega
  go_wp2_with fail
  refine bp_ret ⟨?_, ?_, ?_, ?_⟩ rfl; rotate_left
  · (simp [results, Tryd.results9, go_sem, *]; rfl)
  rotate_left
  · repeat (first | exact Below.refl _ _ | assumption | (refine Below.alloc ?_ (by first | omega | (simp; done) | (simp; omega) | (simp at *; omega)) _) | (refine Below.setCell ?_ (by first | omega | (simp; done) | (simp; omega) | (simp at *; omega)) _) | (refine Below.trans ?_ (below_drewN _ _ _)) | (refine Below.drew ?_) | (refine Below.trans ?_ (Below.mono (by assumption) (by first | omega | (simp; done) | (simp; omega) | (simp at *; omega)))))
  · rfl

set_option maxHeartbeats 1000000 in
set_option maxRecDepth 100000 in
theorem near_in110 (a b n0 n1 m s x y z r : Int) (ha : IntKind.i64.wrap a = a) (hb : IntKind.i64.wrap b = b) (k0 : 0 ≤ n0) (k1 : n0 ≤ 4611686018427387904) (k2 : n0 ≤ n1) (k3 : n1 ≤ 4611686018427387904) (j0 : IntKind.i64.wrap (z - x) = z - x) (j1 : x ≤ y) (j2 : x ≤ z) (j3 : z - x ≤ r) (w : World) (hLH : Hid (LaidW w))
    (h1 : Hid (∀ w, Calls Tryd.prog 48 #[.int .u64 a, .int .u64 b] w fun e w' => e = .returned (.tuple #[.agg #[.int .u32 m, .int .i64 s], .nilIface]) ∧ Below w.heap.size w w'))
    (h2 : Hid (∀ w, Calls Tryd.prog 49 #[.agg #[.int .u32 m, .int .i64 s], .int .i64 n0] w fun e w' => e = .returned (.tuple #[.int .i64 x, .nilIface]) ∧ Below w.heap.size w w'))
    (h3 : Hid (∀ w, Calls Tryd.prog 49 #[.agg #[.int .u32 m, .int .i64 s], .int .i64 n1] w fun e w' => e = .returned (.tuple #[.int .i64 y, .nilIface]) ∧ Below w.heap.size w w'))
    (h4 : Hid (∀ w, Calls Tryd.prog 36 #[.int .i64 n0, .int .i64 a, .int .i64 b] w fun e w' => e = .returned (.tuple #[.int .i64 0, .iface 122 (.int .i64 2)]) ∧ Below w.heap.size w w'))
    (h5 : Hid (∀ w, Calls Tryd.prog 50 #[.agg #[.int .u32 m, .int .i64 s], .int .i64 n0] w fun e w' => e = .returned (.tuple #[.int .i64 r, .nilIface]) ∧ Below w.heap.size w w'))
    (h6 : Hid (∀ w (_ : LaidW w), Calls Tryd.prog 47 #[] w fun e w' => e = .returned (.bool true) ∧ Below w.heap.size w w')) :
    Calls Tryd.prog 9 #[.int .u64 a, .int .u64 b, .agg #[.int .i64 n0, .int .i64 n1]] w fun e w' => e = .returned (.bool true) ∧ Below w.heap.size w w' := by
  go_enter Tryd.func9, Tryd.ntmps9
  go_wp2_with fail
  refine (h1.out _).mono ?_
  rintro e1 w1 ⟨rfl, hb1⟩
  obtain ⟨hc1, hf1⟩ := bcell hb1
  have hz1 := hb1.size
  try simp at hz1
  have hz1_0 : w.heap.size < w1.heap.size := by omega
  go_wp2_with fail
  refine (h2.out _).mono ?_
  rintro e2 w2 ⟨rfl, hb2⟩
  obtain ⟨hc2, hf2⟩ := bcell hb2
  have hz2 := hb2.size
  try simp at hz2
  have hz2_0 : w.heap.size < w2.heap.size := by omega
  have hz2_w1 : w1.heap.size < w2.heap.size := by omega
  have hz2_w1a : w1.heap.size < w2.heap.size + 1 := by omega
  have hz2_w1b : w1.heap.size ≤ w2.heap.size := by omega
  go_wp2_with fail
  refine (h3.out _).mono ?_
  rintro e3 w3 ⟨rfl, hb3⟩
  obtain ⟨hc3, hf3⟩ := bcell hb3
  have hz3 := hb3.size
  try simp at hz3
  have hz3_0 : w.heap.size < w3.heap.size := by omega
  have hz3_w1 : w1.heap.size < w3.heap.size := by omega
  have hz3_w1a : w1.heap.size < w3.heap.size + 1 := by omega
  have hz3_w1b : w1.heap.size ≤ w3.heap.size := by omega
  go_wp2_with fail
  refine (h4.out _).mono ?_
  rintro e4 w4 ⟨rfl, hb4⟩
  obtain ⟨hc4, hf4⟩ := bcell hb4
  have hz4 := hb4.size
  try simp at hz4
  have hz4_0 : w.heap.size < w4.heap.size := by omega
  have hz4_w1 : w1.heap.size < w4.heap.size := by omega
  have hz4_w1a : w1.heap.size < w4.heap.size + 1 := by omega
  have hz4_w1b : w1.heap.size ≤ w4.heap.size := by omega
  go_wp2_with fail
  refine (h5.out _).mono ?_
  rintro e5 w5 ⟨rfl, hb5⟩
  obtain ⟨hc5, hf5⟩ := bcell hb5
  have hz5 := hb5.size
  try simp at hz5
  have hz5_0 : w.heap.size < w5.heap.size := by omega
  have hz5_w1 : w1.heap.size < w5.heap.size := by omega
  have hz5_w1a : w1.heap.size < w5.heap.size + 1 := by omega
  have hz5_w1b : w1.heap.size ≤ w5.heap.size := by omega
  go_wp2_with fail
  refine (h6.out _ (LaidW.below hLH.out (by repeat (first | exact Below.refl _ _ | assumption | (refine Below.alloc ?_ (by first | omega | (simp; done) | (simp; omega) | (simp at *; omega)) _) | (refine Below.setCell ?_ (by first | omega | (simp; done) | (simp; omega) | (simp at *; omega)) _) | (refine Below.trans ?_ (below_drewN _ _ _)) | (refine Below.drew ?_) | (refine Below.trans ?_ (Below.mono (by assumption) (by first | omega | (simp; done) | (simp; omega) | (simp at *; omega)))))))).mono ?_
  rintro e6 w6 ⟨rfl, hb6⟩
  obtain ⟨hc6, hf6⟩ := bcell hb6
  have hz6 := hb6.size
  try simp at hz6
  have hz6_0 : w.heap.size < w6.heap.size := by omega
  go_wp2_with fail
  refine bp_ret ⟨?_, ?_, ?_, ?_⟩ rfl; rotate_left
  · (simp [results, Tryd.results9, go_sem, *]; rfl)
  rotate_left
  · repeat (first | exact Below.refl _ _ | assumption | (refine Below.alloc ?_ (by first | omega | (simp; done) | (simp; omega) | (simp at *; omega)) _) | (refine Below.setCell ?_ (by first | omega | (simp; done) | (simp; omega) | (simp at *; omega)) _) | (refine Below.trans ?_ (below_drewN _ _ _)) | (refine Below.drew ?_) | (refine Below.trans ?_ (Below.mono (by assumption) (by first | omega | (simp; done) | (simp; omega) | (simp at *; omega)))))
  · rfl

set_option maxHeartbeats 1000000 in
set_option maxRecDepth 100000 in
theorem near_in101 (a b n0 n1 m s x y z r : Int) (ha : IntKind.i64.wrap a = a) (hb : IntKind.i64.wrap b = b) (k0 : 0 ≤ n0) (k1 : n0 ≤ 4611686018427387904) (k2 : n0 ≤ n1) (k3 : n1 ≤ 4611686018427387904) (j0 : IntKind.i64.wrap (z - x) = z - x) (j1 : x ≤ y) (j2 : x ≤ z) (j3 : z - x ≤ r) (w : World) (hLH : Hid (LaidW w))
    (h1 : Hid (∀ w, Calls Tryd.prog 48 #[.int .u64 a, .int .u64 b] w fun e w' => e = .returned (.tuple #[.agg #[.int .u32 m, .int .i64 s], .nilIface]) ∧ Below w.heap.size w w'))
    (h2 : Hid (∀ w, Calls Tryd.prog 49 #[.agg #[.int .u32 m, .int .i64 s], .int .i64 n0] w fun e w' => e = .returned (.tuple #[.int .i64 x, .nilIface]) ∧ Below w.heap.size w w'))
    (h3 : Hid (∀ w, Calls Tryd.prog 49 #[.agg #[.int .u32 m, .int .i64 s], .int .i64 n1] w fun e w' => e = .returned (.tuple #[.int .i64 0, .iface 122 (.int .i64 2)]) ∧ Below w.heap.size w w'))
    (h4 : Hid (∀ w, Calls Tryd.prog 36 #[.int .i64 n0, .int .i64 a, .int .i64 b] w fun e w' => e = .returned (.tuple #[.int .i64 z, .nilIface]) ∧ Below w.heap.size w w'))
    (h5 : Hid (∀ w, Calls Tryd.prog 50 #[.agg #[.int .u32 m, .int .i64 s], .int .i64 n0] w fun e w' => e = .returned (.tuple #[.int .i64 r, .nilIface]) ∧ Below w.heap.size w w'))
    (h6 : Hid (∀ w (_ : LaidW w), Calls Tryd.prog 47 #[] w fun e w' => e = .returned (.bool true) ∧ Below w.heap.size w w')) :
    Calls Tryd.prog 9 #[.int .u64 a, .int .u64 b, .agg #[.int .i64 n0, .int .i64 n1]] w fun e w' => e = .returned (.bool true) ∧ Below w.heap.size w w' := by
  go_enter Tryd.func9, Tryd.ntmps9
  go_wp2_with fail
  refine (h1.out _).mono ?_
  rintro e1 w1 ⟨rfl, hb1⟩
  obtain ⟨hc1, hf1⟩ := bcell hb1
  have hz1 := hb1.size
  try simp at hz1
  have hz1_0 : w.heap.size < w1.heap.size := by omega
  go_wp2_with fail
  refine (h2.out _).mono ?_
  rintro e2 w2 ⟨rfl, hb2⟩
  obtain ⟨hc2, hf2⟩ := bcell hb2
  have hz2 := hb2.size
  try simp at hz2
  have hz2_0 : w.heap.size < w2.heap.size := by omega
  have hz2_w1 : w1.heap.size < w2.heap.size := by omega
  have hz2_w1a : w1.heap.size < w2.heap.size + 1 := by omega
  have hz2_w1b : w1.heap.size ≤ w2.heap.size := by omega
  go_wp2_with fail
  refine (h3.out _).mono ?_
  rintro e3 w3 ⟨rfl, hb3⟩
  obtain ⟨hc3, hf3⟩ := bcell hb3
  have hz3 := hb3.size
  try simp at hz3
  have hz3_0 : w.heap.size < w3.heap.size := by omega
  have hz3_w1 : w1.heap.size < w3.heap.size := by omega
  have hz3_w1a : w1.heap.size < w3.heap.size + 1 := by omega
  have hz3_w1b : w1.heap.size ≤ w3.heap.size := by omega
  go_wp2_with fail
  refine (h4.out _).mono ?_
  rintro e4 w4 ⟨rfl, hb4⟩
  obtain ⟨hc4, hf4⟩ := bcell hb4
  have hz4 := hb4.size
  try simp at hz4
  have hz4_0 : w.heap.size < w4.heap.size := by omega
  have hz4_w1 : w1.heap.size < w4.heap.size := by omega
  have hz4_w1a : w1.heap.size < w4.heap.size + 1 := by omega
  have hz4_w1b : w1.heap.size ≤ w4.heap.size := by omega
  go_wp2_with fail
  refine (h5.out _).mono ?_
  rintro e5 w5 ⟨rfl, hb5⟩
  obtain ⟨hc5, hf5⟩ := bcell hb5
  have hz5 := hb5.size
  try simp at hz5
  have hz5_0 : w.heap.size < w5.heap.size := by omega
  have hz5_w1 : w1.heap.size < w5.heap.size := by omega
  have hz5_w1a : w1.heap.size < w5.heap.size + 1 := by omega
  have hz5_w1b : w1.heap.size ≤ w5.heap.size := by omega
  go_wp2_with fail
  refine (h6.out _ (LaidW.below hLH.out (by repeat (first | exact Below.refl _ _ | assumption | (refine Below.alloc ?_ (by first | omega | (simp; done) | (simp; omega) | (simp at *; omega)) _) | (refine Below.setCell ?_ (by first | omega | (simp; done) | (simp; omega) | (simp at *; omega)) _) | (refine Below.trans ?_ (below_drewN _ _ _)) | (refine Below.drew ?_) | (refine Below.trans ?_ (Below.mono (by assumption) (by first | omega | (simp; done) | (simp; omega) | (simp at *; omega)))))))).mono ?_
  rintro e6 w6 ⟨rfl, hb6⟩
  obtain ⟨hc6, hf6⟩ := bcell hb6
  have hz6 := hb6.size
  try simp at hz6
  have hz6_0 : w.heap.size < w6.heap.size := by omega
  go_wp2_with fail
  refine bp_ret ⟨?_, ?_, ?_, ?_⟩ rfl; rotate_left
  · (simp [results, Tryd.results9, go_sem, *]; rfl)
  rotate_left
  · repeat (first | exact Below.refl _ _ | assumption | (refine Below.alloc ?_ (by first | omega | (simp; done) | (simp; omega) | (simp at *; omega)) _) | (refine Below.setCell ?_ (by first | omega | (simp; done) | (simp; omega) | (simp at *; omega)) _) | (refine Below.trans ?_ (below_drewN _ _ _)) | (refine Below.drew ?_) | (refine Below.trans ?_ (Below.mono (by assumption) (by first | omega | (simp; done) | (simp; omega) | (simp at *; omega)))))
  · rfl

set_option maxHeartbeats 1000000 in
set_option maxRecDepth 100000 in
theorem near_in100 (a b n0 n1 m s x y z r : Int) (ha : IntKind.i64.wrap a = a) (hb : IntKind.i64.wrap b = b) (k0 : 0 ≤ n0) (k1 : n0 ≤ 4611686018427387904) (k2 : n0 ≤ n1) (k3 : n1 ≤ 4611686018427387904) (j0 : IntKind.i64.wrap (z - x) = z - x) (j1 : x ≤ y) (j2 : x ≤ z) (j3 : z - x ≤ r) (w : World) (hLH : Hid (LaidW w))
    (h1 : Hid (∀ w, Calls Tryd.prog 48 #[.int .u64 a, .int .u64 b] w fun e w' => e = .returned (.tuple #[.agg #[.int .u32 m, .int .i64 s], .nilIface]) ∧ Below w.heap.size w w'))
    (h2 : Hid (∀ w, Calls Tryd.prog 49 #[.agg #[.int .u32 m, .int .i64 s], .int .i64 n0] w fun e w' => e = .returned (.tuple #[.int .i64 x, .nilIface]) ∧ Below w.heap.size w w'))
    (h3 : Hid (∀ w, Calls Tryd.prog 49 #[.agg #[.int .u32 m, .int .i64 s], .int .i64 n1] w fun e w' => e = .returned (.tuple #[.int .i64 0, .iface 122 (.int .i64 2)]) ∧ Below w.heap.size w w'))
    (h4 : Hid (∀ w, Calls Tryd.prog 36 #[.int .i64 n0, .int .i64 a, .int .i64 b] w fun e w' => e = .returned (.tuple #[.int .i64 0, .iface 122 (.int .i64 2)]) ∧ Below w.heap.size w w'))
    (h5 : Hid (∀ w, Calls Tryd.prog 50 #[.agg #[.int .u32 m, .int .i64 s], .int .i64 n0] w fun e w' => e = .returned (.tuple #[.int .i64 r, .nilIface]) ∧ Below w.heap.size w w'))
    (h6 : Hid (∀ w (_ : LaidW w), Calls Tryd.prog 47 #[] w fun e w' => e = .returned (.bool true) ∧ Below w.heap.size w w')) :
    Calls Tryd.prog 9 #[.int .u64 a, .int .u64 b, .agg #[.int .i64 n0, .int .i64 n1]] w fun e w' => e = .returned (.bool true) ∧ Below w.heap.size w w' := by
  go_enter Tryd.func9, Tryd.ntmps9
  go_wp2_with fail
  refine (h1.out _).mono ?_
  rintro e1 w1 ⟨rfl, hb1⟩
  obtain ⟨hc1, hf1⟩ := bcell hb1
  have hz1 := hb1.size
  try simp at hz1
  have hz1_0 : w.heap.size < w1.heap.size := by omega
  go_wp2_with fail
  refine (h2.out _).mono ?_
  rintro e2 w2 ⟨rfl, hb2⟩
  obtain ⟨hc2, hf2⟩ := bcell hb2
  have hz2 := hb2.size
  try simp at hz2
  have hz2_0 : w.heap.size < w2.heap.size := by omega
  have hz2_w1 : w1.heap.size < w2.heap.size := by omega
  have hz2_w1a : w1.heap.size < w2.heap.size + 1 := by omega
  have hz2_w1b : w1.heap.size ≤ w2.heap.size := by omega
  go_wp2_with fail
  refine (h3.out _).mono ?_
  rintro e3 w3 ⟨rfl, hb3⟩
  obtain ⟨hc3, hf3⟩ := bcell hb3
  have hz3 := hb3.size
  try simp at hz3
  have hz3_0 : w.heap.size < w3.heap.size := by omega
  have hz3_w1 : w1.heap.size < w3.heap.size := by omega
  have hz3_w1a : w1.heap.size < w3.heap.size + 1 := by omega
  have hz3_w1b : w1.heap.size ≤ w3.heap.size := by omega
  go_wp2_with fail
  refine (h4.out _).mono ?_
  rintro e4 w4 ⟨rfl, hb4⟩
  obtain ⟨hc4, hf4⟩ := bcell hb4
  have hz4 := hb4.size
  try simp at hz4
  have hz4_0 : w.heap.size < w4.heap.size := by omega
  have hz4_w1 : w1.heap.size < w4.heap.size := by omega
  have hz4_w1a : w1.heap.size < w4.heap.size + 1 := by omega
  have hz4_w1b : w1.heap.size ≤ w4.heap.size := by omega
  go_wp2_with fail
  refine (h5.out _).mono ?_
  rintro e5 w5 ⟨rfl, hb5⟩
  obtain ⟨hc5, hf5⟩ := bcell hb5
  have hz5 := hb5.size
  try simp at hz5
  have hz5_0 : w.heap.size < w5.heap.size := by omega
  have hz5_w1 : w1.heap.size < w5.heap.size := by omega
  have hz5_w1a : w1.heap.size < w5.heap.size + 1 := by omega
  have hz5_w1b : w1.heap.size ≤ w5.heap.size := by omega
  go_wp2_with fail
  refine (h6.out _ (LaidW.below hLH.out (by repeat (first | exact Below.refl _ _ | assumption | (refine Below.alloc ?_ (by first | omega | (simp; done) | (simp; omega) | (simp at *; omega)) _) | (refine Below.setCell ?_ (by first | omega | (simp; done) | (simp; omega) | (simp at *; omega)) _) | (refine Below.trans ?_ (below_drewN _ _ _)) | (refine Below.drew ?_) | (refine Below.trans ?_ (Below.mono (by assumption) (by first | omega | (simp; done) | (simp; omega) | (simp at *; omega)))))))).mono ?_
  rintro e6 w6 ⟨rfl, hb6⟩
  obtain ⟨hc6, hf6⟩ := bcell hb6
  have hz6 := hb6.size
  try simp at hz6
  have hz6_0 : w.heap.size < w6.heap.size := by omega
  go_wp2_with fail
  refine bp_ret ⟨?_, ?_, ?_, ?_⟩ rfl; rotate_left
  · (simp [results, Tryd.results9, go_sem, *]; rfl)
  rotate_left
  · repeat (first | exact Below.refl _ _ | assumption | (refine Below.alloc ?_ (by first | omega | (simp; done) | (simp; omega) | (simp at *; omega)) _) | (refine Below.setCell ?_ (by first | omega | (simp; done) | (simp; omega) | (simp at *; omega)) _) | (refine Below.trans ?_ (below_drewN _ _ _)) | (refine Below.drew ?_) | (refine Below.trans ?_ (Below.mono (by assumption) (by first | omega | (simp; done) | (simp; omega) | (simp at *; omega)))))
  · rfl

set_option maxHeartbeats 1000000 in
set_option maxRecDepth 100000 in
theorem near_in001 (a b n0 n1 m s x y z r : Int) (ha : IntKind.i64.wrap a = a) (hb : IntKind.i64.wrap b = b) (k0 : 0 ≤ n0) (k1 : n0 ≤ 4611686018427387904) (k2 : n0 ≤ n1) (k3 : n1 ≤ 4611686018427387904) (j0 : IntKind.i64.wrap (z - x) = z - x) (j1 : x ≤ y) (j2 : x ≤ z) (j3 : z - x ≤ r) (w : World) (hLH : Hid (LaidW w))
    (h1 : Hid (∀ w, Calls Tryd.prog 48 #[.int .u64 a, .int .u64 b] w fun e w' => e = .returned (.tuple #[.agg #[.int .u32 m, .int .i64 s], .nilIface]) ∧ Below w.heap.size w w'))
    (h2 : Hid (∀ w, Calls Tryd.prog 49 #[.agg #[.int .u32 m, .int .i64 s], .int .i64 n0] w fun e w' => e = .returned (.tuple #[.int .i64 0, .iface 122 (.int .i64 2)]) ∧ Below w.heap.size w w'))
    (h3 : Hid (∀ w, Calls Tryd.prog 49 #[.agg #[.int .u32 m, .int .i64 s], .int .i64 n1] w fun e w' => e = .returned (.tuple #[.int .i64 0, .iface 122 (.int .i64 2)]) ∧ Below w.heap.size w w'))
    (h4 : Hid (∀ w, Calls Tryd.prog 36 #[.int .i64 n0, .int .i64 a, .int .i64 b] w fun e w' => e = .returned (.tuple #[.int .i64 z, .nilIface]) ∧ Below w.heap.size w w'))
    (h5 : Hid (∀ w, Calls Tryd.prog 50 #[.agg #[.int .u32 m, .int .i64 s], .int .i64 n0] w fun e w' => e = .returned (.tuple #[.int .i64 r, .nilIface]) ∧ Below w.heap.size w w'))
    (h6 : Hid (∀ w (_ : LaidW w), Calls Tryd.prog 47 #[] w fun e w' => e = .returned (.bool true) ∧ Below w.heap.size w w')) :
    Calls Tryd.prog 9 #[.int .u64 a, .int .u64 b, .agg #[.int .i64 n0, .int .i64 n1]] w fun e w' => e = .returned (.bool true) ∧ Below w.heap.size w w' := by
  go_enter Tryd.func9, Tryd.ntmps9
  go_wp2_with fail
  refine (h1.out _).mono ?_
  rintro e1 w1 ⟨rfl, hb1⟩
  obtain ⟨hc1, hf1⟩ := bcell hb1
  have hz1 := hb1.size
  try simp at hz1
  have hz1_0 : w.heap.size < w1.heap.size := by omega
  go_wp2_with fail
  refine (h2.out _).mono ?_
  rintro e2 w2 ⟨rfl, hb2⟩
  obtain ⟨hc2, hf2⟩ := bcell hb2
  have hz2 := hb2.size
  try simp at hz2
  have hz2_0 : w.heap.size < w2.heap.size := by omega
  have hz2_w1 : w1.heap.size < w2.heap.size := by omega
  have hz2_w1a : w1.heap.size < w2.heap.size + 1 := by omega
  have hz2_w1b : w1.heap.size ≤ w2.heap.size := by omega
  go_wp2_with fail
  refine (h3.out _).mono ?_
  rintro e3 w3 ⟨rfl, hb3⟩
  obtain ⟨hc3, hf3⟩ := bcell hb3
  have hz3 := hb3.size
  try simp at hz3
  have hz3_0 : w.heap.size < w3.heap.size := by omega
  have hz3_w1 : w1.heap.size < w3.heap.size := by omega
  have hz3_w1a : w1.heap.size < w3.heap.size + 1 := by omega
  have hz3_w1b : w1.heap.size ≤ w3.heap.size := by omega
  go_wp2_with fail
  refine (h4.out _).mono ?_
  rintro e4 w4 ⟨rfl, hb4⟩
  obtain ⟨hc4, hf4⟩ := bcell hb4
  have hz4 := hb4.size
  try simp at hz4
  have hz4_0 : w.heap.size < w4.heap.size := by omega
  have hz4_w1 : w1.heap.size < w4.heap.size := by omega
  have hz4_w1a : w1.heap.size < w4.heap.size + 1 := by omega
  have hz4_w1b : w1.heap.size ≤ w4.heap.size := by omega
  go_wp2_with fail
  refine (h5.out _).mono ?_
  rintro e5 w5 ⟨rfl, hb5⟩
  obtain ⟨hc5, hf5⟩ := bcell hb5
  have hz5 := hb5.size
  try simp at hz5
  have hz5_0 : w.heap.size < w5.heap.size := by omega
  have hz5_w1 : w1.heap.size < w5.heap.size := by omega
  have hz5_w1a : w1.heap.size < w5.heap.size + 1 := by omega
  have hz5_w1b : w1.heap.size ≤ w5.heap.size := by omega
  go_wp2_with fail
  refine (h6.out _ (LaidW.below hLH.out (by repeat (first | exact Below.refl _ _ | assumption | (refine Below.alloc ?_ (by first | omega | (simp; done) | (simp; omega) | (simp at *; omega)) _) | (refine Below.setCell ?_ (by first | omega | (simp; done) | (simp; omega) | (simp at *; omega)) _) | (refine Below.trans ?_ (below_drewN _ _ _)) | (refine Below.drew ?_) | (refine Below.trans ?_ (Below.mono (by assumption) (by first | omega | (simp; done) | (simp; omega) | (simp at *; omega)))))))).mono ?_
  rintro e6 w6 ⟨rfl, hb6⟩
  obtain ⟨hc6, hf6⟩ := bcell hb6
  have hz6 := hb6.size
  try simp at hz6
  have hz6_0 : w.heap.size < w6.heap.size := by omega
  go_wp2_with fail
  refine bp_ret ⟨?_, ?_, ?_, ?_⟩ rfl; rotate_left
  · (simp [results, Tryd.results9, go_sem, *]; rfl)
  rotate_left
  · repeat (first | exact Below.refl _ _ | assumption | (refine Below.alloc ?_ (by first | omega | (simp; done) | (simp; omega) | (simp at *; omega)) _) | (refine Below.setCell ?_ (by first | omega | (simp; done) | (simp; omega) | (simp at *; omega)) _) | (refine Below.trans ?_ (below_drewN _ _ _)) | (refine Below.drew ?_) | (refine Below.trans ?_ (Below.mono (by assumption) (by first | omega | (simp; done) | (simp; omega) | (simp at *; omega)))))
  · rfl

set_option maxHeartbeats 1000000 in
set_option maxRecDepth 100000 in
theorem near_in000 (a b n0 n1 m s x y z r : Int) (ha : IntKind.i64.wrap a = a) (hb : IntKind.i64.wrap b = b) (k0 : 0 ≤ n0) (k1 : n0 ≤ 4611686018427387904) (k2 : n0 ≤ n1) (k3 : n1 ≤ 4611686018427387904) (j0 : IntKind.i64.wrap (z - x) = z - x) (j1 : x ≤ y) (j2 : x ≤ z) (j3 : z - x ≤ r) (w : World) (hLH : Hid (LaidW w))
    (h1 : Hid (∀ w, Calls Tryd.prog 48 #[.int .u64 a, .int .u64 b] w fun e w' => e = .returned (.tuple #[.agg #[.int .u32 m, .int .i64 s], .nilIface]) ∧ Below w.heap.size w w'))
    (h2 : Hid (∀ w, Calls Tryd.prog 49 #[.agg #[.int .u32 m, .int .i64 s], .int .i64 n0] w fun e w' => e = .returned (.tuple #[.int .i64 0, .iface 122 (.int .i64 2)]) ∧ Below w.heap.size w w'))
    (h3 : Hid (∀ w, Calls Tryd.prog 49 #[.agg #[.int .u32 m, .int .i64 s], .int .i64 n1] w fun e w' => e = .returned (.tuple #[.int .i64 0, .iface 122 (.int .i64 2)]) ∧ Below w.heap.size w w'))
    (h4 : Hid (∀ w, Calls Tryd.prog 36 #[.int .i64 n0, .int .i64 a, .int .i64 b] w fun e w' => e = .returned (.tuple #[.int .i64 0, .iface 122 (.int .i64 2)]) ∧ Below w.heap.size w w'))
    (h5 : Hid (∀ w, Calls Tryd.prog 50 #[.agg #[.int .u32 m, .int .i64 s], .int .i64 n0] w fun e w' => e = .returned (.tuple #[.int .i64 r, .nilIface]) ∧ Below w.heap.size w w'))
    (h6 : Hid (∀ w (_ : LaidW w), Calls Tryd.prog 47 #[] w fun e w' => e = .returned (.bool true) ∧ Below w.heap.size w w')) :
    Calls Tryd.prog 9 #[.int .u64 a, .int .u64 b, .agg #[.int .i64 n0, .int .i64 n1]] w fun e w' => e = .returned (.bool true) ∧ Below w.heap.size w w' := by
  go_enter Tryd.func9, Tryd.ntmps9
  go_wp2_with fail
  refine (h1.out _).mono ?_
  rintro e1 w1 ⟨rfl, hb1⟩
  obtain ⟨hc1, hf1⟩ := bcell hb1
  have hz1 := hb1.size
  try simp at hz1
  have hz1_0 : w.heap.size < w1.heap.size := by omega
  go_wp2_with fail
  refine (h2.out _).mono ?_
  rintro e2 w2 ⟨rfl, hb2⟩
  obtain ⟨hc2, hf2⟩ := bcell hb2
  have hz2 := hb2.size
  try simp at hz2
  have hz2_0 : w.heap.size < w2.heap.size := by omega
  have hz2_w1 : w1.heap.size < w2.heap.size := by omega
  have hz2_w1a : w1.heap.size < w2.heap.size + 1 := by omega
  have hz2_w1b : w1.heap.size ≤ w2.heap.size := by omega
  go_wp2_with fail
  refine (h3.out _).mono ?_
  rintro e3 w3 ⟨rfl, hb3⟩
  obtain ⟨hc3, hf3⟩ := bcell hb3
  have hz3 := hb3.size
  try simp at hz3
  have hz3_0 : w.heap.size < w3.heap.size := by omega
  have hz3_w1 : w1.heap.size < w3.heap.size := by omega
  have hz3_w1a : w1.heap.size < w3.heap.size + 1 := by omega
  have hz3_w1b : w1.heap.size ≤ w3.heap.size := by omega
  go_wp2_with fail
  refine (h4.out _).mono ?_
  rintro e4 w4 ⟨rfl, hb4⟩
  obtain ⟨hc4, hf4⟩ := bcell hb4
  have hz4 := hb4.size
  try simp at hz4
  have hz4_0 : w.heap.size < w4.heap.size := by omega
  have hz4_w1 : w1.heap.size < w4.heap.size := by omega
  have hz4_w1a : w1.heap.size < w4.heap.size + 1 := by omega
  have hz4_w1b : w1.heap.size ≤ w4.heap.size := by omega
  go_wp2_with fail
  refine (h5.out _).mono ?_
  rintro e5 w5 ⟨rfl, hb5⟩
  obtain ⟨hc5, hf5⟩ := bcell hb5
  have hz5 := hb5.size
  try simp at hz5
  have hz5_0 : w.heap.size < w5.heap.size := by omega
  have hz5_w1 : w1.heap.size < w5.heap.size := by omega
  have hz5_w1a : w1.heap.size < w5.heap.size + 1 := by omega
  have hz5_w1b : w1.heap.size ≤ w5.heap.size := by omega
  go_wp2_with fail
  refine (h6.out _ (LaidW.below hLH.out (by repeat (first | exact Below.refl _ _ | assumption | (refine Below.alloc ?_ (by first | omega | (simp; done) | (simp; omega) | (simp at *; omega)) _) | (refine Below.setCell ?_ (by first | omega | (simp; done) | (simp; omega) | (simp at *; omega)) _) | (refine Below.trans ?_ (below_drewN _ _ _)) | (refine Below.drew ?_) | (refine Below.trans ?_ (Below.mono (by assumption) (by first | omega | (simp; done) | (simp; omega) | (simp at *; omega)))))))).mono ?_
  rintro e6 w6 ⟨rfl, hb6⟩
  obtain ⟨hc6, hf6⟩ := bcell hb6
  have hz6 := hb6.size
  try simp at hz6
  have hz6_0 : w.heap.size < w6.heap.size := by omega
  go_wp2_with fail
  refine bp_ret ⟨?_, ?_, ?_, ?_⟩ rfl; rotate_left
  · (simp [results, Tryd.results9, go_sem, *]; rfl)
  rotate_left
  · repeat (first | exact Below.refl _ _ | assumption | (refine Below.alloc ?_ (by first | omega | (simp; done) | (simp; omega) | (simp at *; omega)) _) | (refine Below.setCell ?_ (by first | omega | (simp; done) | (simp; omega) | (simp at *; omega)) _) | (refine Below.trans ?_ (below_drewN _ _ _)) | (refine Below.drew ?_) | (refine Below.trans ?_ (Below.mono (by assumption) (by first | omega | (simp; done) | (simp; omega) | (simp at *; omega)))))
  · rfl

end Go.Proofs.YtkdjfakjnkemiaaDoor
