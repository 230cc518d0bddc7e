/- What each statement of layer 2 asks whatever the input is. -/
import Derived.Test.YtkdjfakjnkemiaaDoorWide4
namespace Go.Proofs.YtkdjfakjnkemiaaDoor
open Go.RowKit

theorem sure02 (w : World) (hL : LaidW w) :
    Calls Tryd.prog 33 #[] w fun e w' => e = .returned (.bool true) ∧ Below w.heap.size w w' := by
  have c1 : ∀ w, Calls Tryd.prog 36 #[.int .i64 (-7), .int .i64 3, .int .i64 2] w fun e w' => e = .returned (.tuple #[.int .i64 (-11), .nilIface]) ∧ Below w.heap.size w w' := fun w => wide_MulDiv (-7) 3 2 (by decide) (by decide) (by decide) w
  have c2 : ∀ w, Calls Tryd.prog 38 #[.int .i64 1000, .int .u32 1073741824, .int .i64 31] w fun e w' => e = .returned (.tuple #[.int .i64 500, .nilIface]) ∧ Below w.heap.size w w' := fun w => wide_MulShift 1000 1073741824 31 (by decide) (by decide) (by decide) w
  have c3 : ∀ w, Calls Tryd.prog 42 #[.agg #[.int .i64 1, .int .u64 0]] w fun e w' => e = .returned (.tuple #[.int .i64 0, .iface 122 (.int .i64 2)]) ∧ Below w.heap.size w w' := fun w => wide_Int 18446744073709551616 (by decide) w
  have c4 : ∀ w, Calls Tryd.prog 40 #[.int .i64 4611686018427387904, .int .i64 4] w fun e w' => e = .returned (.agg #[.int .i64 1, .int .u64 0]) ∧ Below w.heap.size w w' := fun w => wide_Mul 4611686018427387904 4 (by decide) (by decide) w
  have c5 : ∀ w, Calls Tryd.prog 41 #[.int .i64 (-1)] w fun e w' => e = .returned (.agg #[.int .i64 (-1), .int .u64 18446744073709551615]) ∧ Below w.heap.size w w' := fun w => wide_Of (-1) (by decide) w
  have c6 : ∀ w (_ : LaidW w), Calls Tryd.prog 29 #[.iface 122 (.int .i64 2)] w fun e w' => e = .returned (.int .i64 2) ∧ Below w.heap.size w w' := fun w h => law02_num (some 2) w h
  have h1 := Lib.hid c1
  have h2 := Lib.hid c2
  have h3 := Lib.hid c3
  have h4 := Lib.hid c4
  have h5 := Lib.hid c5
  have h6 := Lib.hid c6
  have hLH := Lib.hid hL
  clear c1 c2 c3 c4 c5 c6 hL
  go_enter Tryd.func33, Tryd.ntmps33
  go_wp2_with fail
  refine (h1.out _).mono ?_
  rintro e1 w1 ⟨rfl, hb1⟩
  obtain ⟨hc1, hf1⟩ := bcell hb1
  have hz1 := hb1.size
  try simp at hz1
  go_wp2_with fail
  refine (h2.out _).mono ?_
  rintro e2 w2 ⟨rfl, hb2⟩
  obtain ⟨hc2, hf2⟩ := bcell hb2
  have hz2 := hb2.size
  try simp at hz2
  go_wp2_with fail
  refine (h3.out _).mono ?_
  rintro e3 w3 ⟨rfl, hb3⟩
  obtain ⟨hc3, hf3⟩ := bcell hb3
  have hz3 := hb3.size
  try simp at hz3
  go_wp2_with fail
  refine (h6.out _ (LaidW.below hLH.out (by repeat (first | exact Below.refl _ _ | assumption | (refine Below.alloc ?_ (by first | omega | (simp; done) | (simp; omega) | (simp at *; omega)) _) | (refine Below.setCell ?_ (by first | omega | (simp; done) | (simp; omega) | (simp at *; omega)) _) | (refine Below.trans ?_ (below_drewN _ _ _)) | (refine Below.drew ?_) | (refine Below.trans ?_ (Below.mono (by assumption) (by first | omega | (simp; done) | (simp; omega) | (simp at *; omega)))))))).mono ?_
  rintro e4 w4 ⟨rfl, hb4⟩
  obtain ⟨hc4, hf4⟩ := bcell hb4
  have hz4 := hb4.size
  try simp at hz4
  go_wp2_with fail
  refine (h4.out _).mono ?_
  rintro e5 w5 ⟨rfl, hb5⟩
  obtain ⟨hc5, hf5⟩ := bcell hb5
  have hz5 := hb5.size
  try simp at hz5
  go_wp2_with fail
  refine (h5.out _).mono ?_
  rintro e6 w6 ⟨rfl, hb6⟩
  obtain ⟨hc6, hf6⟩ := bcell hb6
  have hz6 := hb6.size
  try simp at hz6
  go_wp2_with fail
  refine bp_ret ⟨?_, ?_, ?_, ?_⟩ rfl; rotate_left
  · (simp [results, Tryd.results33, go_sem, *]; rfl)
  rotate_left
  · repeat (first | exact Below.refl _ _ | assumption | (refine Below.alloc ?_ (by first | omega | (simp; done) | (simp; omega) | (simp at *; omega)) _) | (refine Below.setCell ?_ (by first | omega | (simp; done) | (simp; omega) | (simp at *; omega)) _) | (refine Below.trans ?_ (below_drewN _ _ _)) | (refine Below.drew ?_) | (refine Below.trans ?_ (Below.mono (by assumption) (by first | omega | (simp; done) | (simp; omega) | (simp at *; omega)))))
  · rfl

end Go.Proofs.YtkdjfakjnkemiaaDoor
