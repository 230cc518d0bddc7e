/- Package wide's functions, more: Neg, Cmp, Shr, Int. -/
import Derived.Test.YtkdjfakjnkemiaaDoorWide
import Derived.Test.YtkdjfakjnkemiaaDoorDiv64
namespace Go.Proofs.YtkdjfakjnkemiaaDoor
open Go.RowKit

theorem wide_Neg_min (w : World) :
    Calls Tryd.prog 56 #[.agg #[.int .i64 (-9223372036854775808), .int .u64 0]] w fun e w' => e = .returned (fitW 170141183460469231731687303715884105728) ∧ Below w.heap.size w w' := by
  go_enter Tryd.func56, Tryd.ntmps56
  go_wp2_with fail
  refine bp_ret ⟨?_, ?_, ?_, ?_⟩ rfl; rotate_left
  · (simp [results, Tryd.results56, go_sem, *]; rfl)
  rotate_left
  · repeat (first | exact Below.refl _ _ | assumption | (refine Below.alloc ?_ (by first | omega | (simp; done) | (simp; omega) | (simp at *; omega)) _) | (refine Below.setCell ?_ (by first | omega | (simp; done) | (simp; omega) | (simp at *; omega)) _) | (refine Below.trans ?_ (below_drewN _ _ _)) | (refine Below.drew ?_) | (refine Below.trans ?_ (Below.mono (by assumption) (by first | omega | (simp; done) | (simp; omega) | (simp at *; omega)))))
  · rw [fitW_neg (by unfold in128; omega)]
theorem wide_Neg (x : Int) (hx : in128 x) (w : World) :
    Calls Tryd.prog 56 #[wv x] w fun e w' => e = .returned (fitW (-x)) ∧ Below w.heap.size w w' := by
  have hx0 := hx
  obtain ⟨xh, xl, ex, rfl, x1, x2, x3, x4⟩ := wv_open x hx
  by_cases h1 : xh = -9223372036854775808 ∧ xl = 0
  · obtain ⟨rfl, rfl⟩ := h1
    rw [ex]
    exact wide_Neg_min w
  · have hn : in128 (-(xh * 18446744073709551616 + xl)) := by unfold in128 at *; omega
    have hM := minus_any _ hx (by unfold in128 at *; omega)
    rw [ex] at hM ⊢
    obtain ⟨qh, ql, ew, ev, q1, q2, q3, q4⟩ := wv_open _ hn
    rw [ew] at hM
    rw [fitW_pos hn, ew]
    clear ew hn ev hx hx0 ex
    have hMH := Lib.hid hM
    clear hM
    by_cases h2 : xh = -9223372036854775808
    · have h3 : ¬ xl = 0 := fun h => h1 ⟨h2, h⟩
      subst h2
      clear h1
      go_enter Tryd.func56, Tryd.ntmps56
      go_wp2_with fail
      refine (hMH.out _).mono ?_
      rintro e w1 ⟨rfl, hb⟩
      obtain ⟨hc, hf⟩ := bcell hb
      have hz := hb.size
      simp only [World.size_alloc] at hz
      go_wp2
      refine bp_ret ⟨?_, ?_, ?_, ?_⟩ rfl; rotate_left
      · (simp [results, Tryd.results56, go_sem, hc]; rfl)
      rotate_left
      · repeat (first | exact Below.refl _ _ | assumption | (refine Below.alloc ?_ (by first | omega | (simp; done) | (simp; omega) | (simp at *; omega)) _) | (refine Below.setCell ?_ (by first | omega | (simp; done) | (simp; omega) | (simp at *; omega)) _) | (refine Below.trans ?_ (below_drewN _ _ _)) | (refine Below.drew ?_) | (refine Below.trans ?_ (Below.mono (by assumption) (by first | omega | (simp; done) | (simp; omega) | (simp at *; omega)))))
      · rfl
    · clear h1
      go_enter Tryd.func56, Tryd.ntmps56
      go_wp2_with fail
      refine (hMH.out _).mono ?_
      rintro e w1 ⟨rfl, hb⟩
      obtain ⟨hc, hf⟩ := bcell hb
      have hz := hb.size
      simp only [World.size_alloc] at hz
      go_wp2
      refine bp_ret ⟨?_, ?_, ?_, ?_⟩ rfl; rotate_left
      · (simp [results, Tryd.results56, go_sem, hc]; rfl)
      rotate_left
      · repeat (first | exact Below.refl _ _ | assumption | (refine Below.alloc ?_ (by first | omega | (simp; done) | (simp; omega) | (simp at *; omega)) _) | (refine Below.setCell ?_ (by first | omega | (simp; done) | (simp; omega) | (simp at *; omega)) _) | (refine Below.trans ?_ (below_drewN _ _ _)) | (refine Below.drew ?_) | (refine Below.trans ?_ (Below.mono (by assumption) (by first | omega | (simp; done) | (simp; omega) | (simp at *; omega)))))
      · rfl
end Go.Proofs.YtkdjfakjnkemiaaDoor
