/- The statements' own 'is': is a wide number the document's? -/
import Derived.Test.YtkdjfakjnkemiaaDoorBigF
namespace Go.Proofs.YtkdjfakjnkemiaaDoor
open Go.RowKit

set_option maxHeartbeats 1000000 in
set_option maxRecDepth 100000 in
theorem is02 (v : Int) (hv : in128 v) (w : World) :
    Calls Tryd.prog 32 #[wv v, .agg (bigV v)] w fun e w' => e = .returned (.bool true) ∧ Below w.heap.size w w' := by
  have c := fun w => ref_To v (by unfold in128 at hv; omega) (by unfold in128 at hv; omega) w
  unfold toR at c
  rw [if_pos hv] at c
  obtain ⟨h, l, ev, -⟩ := wv_open v hv
  rw [ev] at c ⊢
  have cH := Lib.hid c
  clear c ev hv
  unfold bigV bigA
  go_enter Tryd.func32, Tryd.ntmps32
  go_wp2_with fail
  refine (cH.out _).mono ?_
  rintro e1 w1 ⟨rfl, hb1⟩
  obtain ⟨hc1, hf1⟩ := bcell hb1
  have hz1 := hb1.size
  try simp at hz1
  have hz1_0 : w.heap.size < w1.heap.size := by omega
  have hz1_1 : w.heap.size + 1 < w1.heap.size := by omega
  go_wp2_with fail
  refine bp_ret ⟨?_, ?_, ?_, ?_⟩ rfl; rotate_left
  · (simp [results, Tryd.results32, go_sem, *]; rfl)
  rotate_left
  · repeat (first | exact Below.refl _ _ | assumption | (refine Below.alloc ?_ (by first | omega | (simp; done) | (simp; omega) | (simp at *; omega)) _) | (refine Below.setCell ?_ (by first | omega | (simp; done) | (simp; omega) | (simp at *; omega)) _) | (refine Below.trans ?_ (below_drewN _ _ _)) | (refine Below.drew ?_) | (refine Below.trans ?_ (Below.mono (by assumption) (by first | omega | (simp; done) | (simp; omega) | (simp at *; omega)))))
  · rfl
end Go.Proofs.YtkdjfakjnkemiaaDoor
