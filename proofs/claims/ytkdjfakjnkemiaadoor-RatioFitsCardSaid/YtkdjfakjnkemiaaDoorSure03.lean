/- What each statement of layer 3 asks whatever the input is. -/
import Derived.Test.YtkdjfakjnkemiaaDoorRatioFit
namespace Go.Proofs.YtkdjfakjnkemiaaDoor
open Go.RowKit

theorem ratio_Fit (a b : Int) (ha0 : 0 ≤ a) (hb0 : 0 ≤ b) (w : World) :
    Calls Tryd.prog 48 #[.int .u64 a, .int .u64 b] w fun e w' => e = .returned (fitR a b) ∧ Below w.heap.size w w' := by
  unfold fitR
  by_cases h : mayFit a b
  · rw [if_pos h]; exact ratio_Fit_yes a b h ha0 hb0 w
  · rw [if_neg h]; exact ratio_Fit_no a b h w
set_option maxRecDepth 100000 in
theorem sure03 (w : World) (hL : LaidW w) :
    Calls Tryd.prog 47 #[] w fun e w' => e = .returned (.bool true) ∧ Below w.heap.size w w' := by
  have e1 : fitS 1 3 31 = some (715827882, 31) := by decide
  have e2 : fitS 3 1 31 = some (3221225472, 30) := by decide
  have c1 := fun w => ratio_Fit_yes 1 3 (by decide) (by decide) (by decide) w
  rw [e1] at c1
  have c2 := fun w => ratio_Fit_yes 3 1 (by decide) (by decide) (by decide) w
  rw [e2] at c2
  have e3 : scaleR 3221225472 30 1000 = .tuple #[.int .i64 3000, .nilIface] := by
    unfold scaleR mulShiftR
    rw [if_pos (by decide), if_neg (by decide), fitI_pos (by decide)]
    rfl
  have c3 := fun w => ratio_Scale 3221225472 30 1000 (by decide) (by decide) (by decide) w
  rw [e3] at c3
  have c4 := fun w => ratio_Fit_no 0 3 (by decide) w
  have c5 : ∀ w (_ : LaidW w), Calls Tryd.prog 46 #[.iface 122 (.int .i64 1)] w fun e w' => e = .returned (.int .i64 1) ∧ Below w.heap.size w w' := fun w h => law03_num (some 1) w h
  unfold fitR0 at c1 c2
  unfold fv at c3
  have h1 := Lib.hid c1
  have h2 := Lib.hid c2
  have h3 := Lib.hid c3
  have h4 := Lib.hid c4
  have h5 := Lib.hid c5
  have hLH := Lib.hid hL
  clear c1 c2 c3 c4 c5 hL e1 e2 e3
  go_enter Tryd.func47, Tryd.ntmps47
  go_wp2_with fail
  refine (h1.out _).mono ?_
  rintro e1 w1 ⟨rfl, hb1⟩
  obtain ⟨hc1, hf1⟩ := bcell hb1
  have hz1 := hb1.size
  try simp at hz1
  go_wp2_with fail
  refine (h2.out _).mono ?_
  rintro e2 w2 ⟨rfl, hb2⟩
  obtain ⟨hc2, hf2⟩ := bcell hb2
  have hz2 := hb2.size
  try simp at hz2
  have hz2_w1 : w1.heap.size < w2.heap.size := by omega
  have hz2_w1a : w1.heap.size < w2.heap.size + 1 := by omega
  have hz2_w1b : w1.heap.size ≤ w2.heap.size := by omega
  go_wp2_with fail
  refine (h3.out _).mono ?_
  rintro e3 w3 ⟨rfl, hb3⟩
  obtain ⟨hc3, hf3⟩ := bcell hb3
  have hz3 := hb3.size
  try simp at hz3
  have hz3_w1 : w1.heap.size < w3.heap.size := by omega
  have hz3_w2 : w2.heap.size < w3.heap.size := by omega
  have hz3_w1a : w1.heap.size < w3.heap.size + 1 := by omega
  have hz3_w2a : w2.heap.size < w3.heap.size + 1 := by omega
  have hz3_w1b : w1.heap.size ≤ w3.heap.size := by omega
  have hz3_w2b : w2.heap.size ≤ w3.heap.size := by omega
  go_wp2_with fail
  refine (h4.out _).mono ?_
  rintro e4 w4 ⟨rfl, hb4⟩
  obtain ⟨hc4, hf4⟩ := bcell hb4
  have hz4 := hb4.size
  try simp at hz4
  have hz4_w1 : w1.heap.size < w4.heap.size := by omega
  have hz4_w2 : w2.heap.size < w4.heap.size := by omega
  have hz4_w1a : w1.heap.size < w4.heap.size + 1 := by omega
  have hz4_w2a : w2.heap.size < w4.heap.size + 1 := by omega
  have hz4_w1b : w1.heap.size ≤ w4.heap.size := by omega
  have hz4_w2b : w2.heap.size ≤ w4.heap.size := by omega
  go_wp2_with fail
  refine (h5.out _ (LaidW.below hLH.out (by repeat (first | exact Below.refl _ _ | assumption | (refine Below.alloc ?_ (by first | omega | (simp; done) | (simp; omega) | (simp at *; omega)) _) | (refine Below.setCell ?_ (by first | omega | (simp; done) | (simp; omega) | (simp at *; omega)) _) | (refine Below.trans ?_ (below_drewN _ _ _)) | (refine Below.drew ?_) | (refine Below.trans ?_ (Below.mono (by assumption) (by first | omega | (simp; done) | (simp; omega) | (simp at *; omega)))))))).mono ?_
  rintro e5 w5 ⟨rfl, hb5⟩
  obtain ⟨hc5, hf5⟩ := bcell hb5
  have hz5 := hb5.size
  try simp at hz5
  have hz5_w1 : w1.heap.size < w5.heap.size := by omega
  have hz5_w2 : w2.heap.size < w5.heap.size := by omega
  have hz5_w1a : w1.heap.size < w5.heap.size + 1 := by omega
  have hz5_w2a : w2.heap.size < w5.heap.size + 1 := by omega
  have hz5_w1b : w1.heap.size ≤ w5.heap.size := by omega
  have hz5_w2b : w2.heap.size ≤ w5.heap.size := by omega
  go_wp2_with fail
  refine bp_ret ⟨?_, ?_, ?_, ?_⟩ rfl; rotate_left
  · (simp [results, Tryd.results47, go_sem, *]; rfl)
  rotate_left
  · repeat (first | exact Below.refl _ _ | assumption | (refine Below.alloc ?_ (by first | omega | (simp; done) | (simp; omega) | (simp at *; omega)) _) | (refine Below.setCell ?_ (by first | omega | (simp; done) | (simp; omega) | (simp at *; omega)) _) | (refine Below.trans ?_ (below_drewN _ _ _)) | (refine Below.drew ?_) | (refine Below.trans ?_ (Below.mono (by assumption) (by first | omega | (simp; done) | (simp; omega) | (simp at *; omega)))))
  · rfl
end Go.Proofs.YtkdjfakjnkemiaaDoor
