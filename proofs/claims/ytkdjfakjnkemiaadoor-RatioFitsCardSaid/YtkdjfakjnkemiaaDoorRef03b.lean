/- Package fuseeref03's Adjust and Fit. -/
import Derived.Test.YtkdjfakjnkemiaaDoorRef03
namespace Go.Proofs.YtkdjfakjnkemiaaDoor
open Go.RowKit

theorem md_yes {m X N : Int} (hN : m * X / 1073741824 = N) (h : in64 N) : mdX m X 1073741824 = (N, none) := by
  unfold mdX; rw [if_neg (by omega), hN, if_pos h]
theorem adX_err1 {m s b : Int} (h : ¬ mayF m s) : adX m s b = ((0, 0), some 1) := by unfold adX; rw [if_neg h]
theorem adX_err2 {m s b : Int} (h : mayF m s) (k : ¬ (1 ≤ adN m b ∧ adN m b < 4294967296)) : adX m s b = ((0, 0), some 2) := by unfold adX; rw [if_pos h, if_neg k]
theorem adX_ok {m s b : Int} (h : mayF m s) (k1 : 1 ≤ adN m b) (k2 : adN m b < 4294967296) : adX m s b = ((adN m b, s), none) := by unfold adX; rw [if_pos h, if_pos ⟨k1, k2⟩]
set_option maxHeartbeats 1000000 in
theorem adj_hi_ok (m s b N : Int) (hm0 : 0 ≤ m) (hm1 : m < 4294967296) (h : mayF m s) (hb : 1073741824 < b) (n0 : 1 ≤ N) (n1 : N < 4294967296) (hN : m * (1073741824 + 1073741824) / 1073741824 = N) (w : World) :
    Calls Tryd.prog 54 #[.agg #[.int .u32 m, .int .i64 s], .int .i64 b] w fun e w' => e = .returned (refF ((N, s), none)) ∧ Below w.heap.size w w' := by
  have h1 := Lib.hid (fun w => ref_May_yes m s hm0 h w)
  have c2 := fun w => ref_MulDiv m (1073741824 + 1073741824) 1073741824 (by unfold in64; omega) (by unfold in64; omega) (by decide) w
  rw [md_yes hN (by unfold in64; omega)] at c2
  unfold refP at c2
  have h2 := Lib.hid c2
  clear c2 h hN
  unfold refF
  go_enter Tryd.func54, Tryd.ntmps54
  go_wp2_with fail
  refine (h1.out _).mono ?_
  rintro e1 w1 ⟨rfl, hb1⟩
  obtain ⟨hc1, hf1⟩ := bcell hb1
  have hz1 := hb1.size
  try simp at hz1
  have hz1_0 : w.heap.size < w1.heap.size := by omega
  have hz1_1 : w.heap.size + 1 < w1.heap.size := by omega
  go_wp2_with fail
  refine (h2.out _).mono ?_
  rintro e2 w2 ⟨rfl, hb2⟩
  obtain ⟨hc2, hf2⟩ := bcell hb2
  have hz2 := hb2.size
  try simp at hz2
  have hz2_0 : w.heap.size < w2.heap.size := by omega
  have hz2_1 : w.heap.size + 1 < w2.heap.size := by omega
  go_wp2_with fail
  refine bp_ret ⟨?_, ?_, ?_, ?_⟩ rfl; rotate_left
  · (simp [results, Tryd.results54, go_sem, *]; rfl)
  rotate_left
  · repeat (first | exact Below.refl _ _ | assumption | (refine Below.alloc ?_ (by first | omega | (simp; done) | (simp; omega) | (simp at *; omega)) _) | (refine Below.setCell ?_ (by first | omega | (simp; done) | (simp; omega) | (simp at *; omega)) _) | (refine Below.trans ?_ (below_drewN _ _ _)) | (refine Below.drew ?_) | (refine Below.trans ?_ (Below.mono (by assumption) (by first | omega | (simp; done) | (simp; omega) | (simp at *; omega)))))
  · rfl
set_option maxHeartbeats 1000000 in
theorem adj_hi_big (m s b N : Int) (hm0 : 0 ≤ m) (hm1 : m < 4294967296) (h : mayF m s) (hb : 1073741824 < b) (n0 : 4294967296 ≤ N) (n1 : N < 8589934592) (hN : m * (1073741824 + 1073741824) / 1073741824 = N) (w : World) :
    Calls Tryd.prog 54 #[.agg #[.int .u32 m, .int .i64 s], .int .i64 b] w fun e w' => e = .returned (refF ((0, 0), some 2)) ∧ Below w.heap.size w w' := by
  have h1 := Lib.hid (fun w => ref_May_yes m s hm0 h w)
  have c2 := fun w => ref_MulDiv m (1073741824 + 1073741824) 1073741824 (by unfold in64; omega) (by unfold in64; omega) (by decide) w
  rw [md_yes hN (by unfold in64; omega)] at c2
  unfold refP at c2
  have h2 := Lib.hid c2
  clear c2 h hN
  unfold refF
  go_enter Tryd.func54, Tryd.ntmps54
  go_wp2_with fail
  refine (h1.out _).mono ?_
  rintro e1 w1 ⟨rfl, hb1⟩
  obtain ⟨hc1, hf1⟩ := bcell hb1
  have hz1 := hb1.size
  try simp at hz1
  have hz1_0 : w.heap.size < w1.heap.size := by omega
  have hz1_1 : w.heap.size + 1 < w1.heap.size := by omega
  go_wp2_with fail
  refine (h2.out _).mono ?_
  rintro e2 w2 ⟨rfl, hb2⟩
  obtain ⟨hc2, hf2⟩ := bcell hb2
  have hz2 := hb2.size
  try simp at hz2
  have hz2_0 : w.heap.size < w2.heap.size := by omega
  have hz2_1 : w.heap.size + 1 < w2.heap.size := by omega
  go_wp2_with fail
  refine bp_ret ⟨?_, ?_, ?_, ?_⟩ rfl; rotate_left
  · (simp [results, Tryd.results54, go_sem, *]; rfl)
  rotate_left
  · repeat (first | exact Below.refl _ _ | assumption | (refine Below.alloc ?_ (by first | omega | (simp; done) | (simp; omega) | (simp at *; omega)) _) | (refine Below.setCell ?_ (by first | omega | (simp; done) | (simp; omega) | (simp at *; omega)) _) | (refine Below.trans ?_ (below_drewN _ _ _)) | (refine Below.drew ?_) | (refine Below.trans ?_ (Below.mono (by assumption) (by first | omega | (simp; done) | (simp; omega) | (simp at *; omega)))))
  · rfl
set_option maxHeartbeats 1000000 in
theorem adj_mid_ok (m s b N : Int) (hm0 : 0 ≤ m) (hm1 : m < 4294967296) (h : mayF m s) (hb0 : -1073741824 ≤ b) (hb1 : b ≤ 1073741824) (n0 : 1 ≤ N) (n1 : N < 4294967296) (hN : m * (1073741824 + b) / 1073741824 = N) (w : World) :
    Calls Tryd.prog 54 #[.agg #[.int .u32 m, .int .i64 s], .int .i64 b] w fun e w' => e = .returned (refF ((N, s), none)) ∧ Below w.heap.size w w' := by
  have h1 := Lib.hid (fun w => ref_May_yes m s hm0 h w)
  have c2 := fun w => ref_MulDiv m (1073741824 + b) 1073741824 (by unfold in64; omega) (by unfold in64; omega) (by decide) w
  rw [md_yes hN (by unfold in64; omega)] at c2
  unfold refP at c2
  have h2 := Lib.hid c2
  clear c2 h hN
  unfold refF
  go_enter Tryd.func54, Tryd.ntmps54
  go_wp2_with fail
  refine (h1.out _).mono ?_
  rintro e1 w1 ⟨rfl, hb1⟩
  obtain ⟨hc1, hf1⟩ := bcell hb1
  have hz1 := hb1.size
  try simp at hz1
  have hz1_0 : w.heap.size < w1.heap.size := by omega
  have hz1_1 : w.heap.size + 1 < w1.heap.size := by omega
  go_wp2_with fail
  refine (h2.out _).mono ?_
  rintro e2 w2 ⟨rfl, hb2⟩
  obtain ⟨hc2, hf2⟩ := bcell hb2
  have hz2 := hb2.size
  try simp at hz2
  have hz2_0 : w.heap.size < w2.heap.size := by omega
  have hz2_1 : w.heap.size + 1 < w2.heap.size := by omega
  go_wp2_with fail
  refine bp_ret ⟨?_, ?_, ?_, ?_⟩ rfl; rotate_left
  · (simp [results, Tryd.results54, go_sem, *]; rfl)
  rotate_left
  · repeat (first | exact Below.refl _ _ | assumption | (refine Below.alloc ?_ (by first | omega | (simp; done) | (simp; omega) | (simp at *; omega)) _) | (refine Below.setCell ?_ (by first | omega | (simp; done) | (simp; omega) | (simp at *; omega)) _) | (refine Below.trans ?_ (below_drewN _ _ _)) | (refine Below.drew ?_) | (refine Below.trans ?_ (Below.mono (by assumption) (by first | omega | (simp; done) | (simp; omega) | (simp at *; omega)))))
  · rfl
set_option maxHeartbeats 1000000 in
theorem adj_mid_big (m s b N : Int) (hm0 : 0 ≤ m) (hm1 : m < 4294967296) (h : mayF m s) (hb0 : -1073741824 ≤ b) (hb1 : b ≤ 1073741824) (n0 : 4294967296 ≤ N) (n1 : N < 8589934592) (hN : m * (1073741824 + b) / 1073741824 = N) (w : World) :
    Calls Tryd.prog 54 #[.agg #[.int .u32 m, .int .i64 s], .int .i64 b] w fun e w' => e = .returned (refF ((0, 0), some 2)) ∧ Below w.heap.size w w' := by
  have h1 := Lib.hid (fun w => ref_May_yes m s hm0 h w)
  have c2 := fun w => ref_MulDiv m (1073741824 + b) 1073741824 (by unfold in64; omega) (by unfold in64; omega) (by decide) w
  rw [md_yes hN (by unfold in64; omega)] at c2
  unfold refP at c2
  have h2 := Lib.hid c2
  clear c2 h hN
  unfold refF
  go_enter Tryd.func54, Tryd.ntmps54
  go_wp2_with fail
  refine (h1.out _).mono ?_
  rintro e1 w1 ⟨rfl, hb1⟩
  obtain ⟨hc1, hf1⟩ := bcell hb1
  have hz1 := hb1.size
  try simp at hz1
  have hz1_0 : w.heap.size < w1.heap.size := by omega
  have hz1_1 : w.heap.size + 1 < w1.heap.size := by omega
  go_wp2_with fail
  refine (h2.out _).mono ?_
  rintro e2 w2 ⟨rfl, hb2⟩
  obtain ⟨hc2, hf2⟩ := bcell hb2
  have hz2 := hb2.size
  try simp at hz2
  have hz2_0 : w.heap.size < w2.heap.size := by omega
  have hz2_1 : w.heap.size + 1 < w2.heap.size := by omega
  go_wp2_with fail
  refine bp_ret ⟨?_, ?_, ?_, ?_⟩ rfl; rotate_left
  · (simp [results, Tryd.results54, go_sem, *]; rfl)
  rotate_left
  · repeat (first | exact Below.refl _ _ | assumption | (refine Below.alloc ?_ (by first | omega | (simp; done) | (simp; omega) | (simp at *; omega)) _) | (refine Below.setCell ?_ (by first | omega | (simp; done) | (simp; omega) | (simp at *; omega)) _) | (refine Below.trans ?_ (below_drewN _ _ _)) | (refine Below.drew ?_) | (refine Below.trans ?_ (Below.mono (by assumption) (by first | omega | (simp; done) | (simp; omega) | (simp at *; omega)))))
  · rfl
set_option maxHeartbeats 1000000 in
theorem adj_mid_low (m s b N : Int) (hm0 : 0 ≤ m) (hm1 : m < 4294967296) (h : mayF m s) (hb0 : -1073741824 ≤ b) (hb1 : b ≤ 1073741824) (n0 : 0 ≤ N) (n1 : N < 1) (hN : m * (1073741824 + b) / 1073741824 = N) (w : World) :
    Calls Tryd.prog 54 #[.agg #[.int .u32 m, .int .i64 s], .int .i64 b] w fun e w' => e = .returned (refF ((0, 0), some 2)) ∧ Below w.heap.size w w' := by
  have h1 := Lib.hid (fun w => ref_May_yes m s hm0 h w)
  have c2 := fun w => ref_MulDiv m (1073741824 + b) 1073741824 (by unfold in64; omega) (by unfold in64; omega) (by decide) w
  rw [md_yes hN (by unfold in64; omega)] at c2
  unfold refP at c2
  have h2 := Lib.hid c2
  clear c2 h hN
  unfold refF
  go_enter Tryd.func54, Tryd.ntmps54
  go_wp2_with fail
  refine (h1.out _).mono ?_
  rintro e1 w1 ⟨rfl, hb1⟩
  obtain ⟨hc1, hf1⟩ := bcell hb1
  have hz1 := hb1.size
  try simp at hz1
  have hz1_0 : w.heap.size < w1.heap.size := by omega
  have hz1_1 : w.heap.size + 1 < w1.heap.size := by omega
  go_wp2_with fail
  refine (h2.out _).mono ?_
  rintro e2 w2 ⟨rfl, hb2⟩
  obtain ⟨hc2, hf2⟩ := bcell hb2
  have hz2 := hb2.size
  try simp at hz2
  have hz2_0 : w.heap.size < w2.heap.size := by omega
  have hz2_1 : w.heap.size + 1 < w2.heap.size := by omega
  go_wp2_with fail
  refine bp_ret ⟨?_, ?_, ?_, ?_⟩ rfl; rotate_left
  · (simp [results, Tryd.results54, go_sem, *]; rfl)
  rotate_left
  · repeat (first | exact Below.refl _ _ | assumption | (refine Below.alloc ?_ (by first | omega | (simp; done) | (simp; omega) | (simp at *; omega)) _) | (refine Below.setCell ?_ (by first | omega | (simp; done) | (simp; omega) | (simp at *; omega)) _) | (refine Below.trans ?_ (below_drewN _ _ _)) | (refine Below.drew ?_) | (refine Below.trans ?_ (Below.mono (by assumption) (by first | omega | (simp; done) | (simp; omega) | (simp at *; omega)))))
  · rfl
set_option maxHeartbeats 1000000 in
theorem adj_lo (m s b N : Int) (hm0 : 0 ≤ m) (hm1 : m < 4294967296) (h : mayF m s) (hb : b < -1073741824) (n0 : N = 0) (hN : m * (1073741824 + -1073741824) / 1073741824 = N) (w : World) :
    Calls Tryd.prog 54 #[.agg #[.int .u32 m, .int .i64 s], .int .i64 b] w fun e w' => e = .returned (refF ((0, 0), some 2)) ∧ Below w.heap.size w w' := by
  have h1 := Lib.hid (fun w => ref_May_yes m s hm0 h w)
  have c2 := fun w => ref_MulDiv m (1073741824 + -1073741824) 1073741824 (by unfold in64; omega) (by unfold in64; omega) (by decide) w
  rw [md_yes hN (by unfold in64; omega)] at c2
  unfold refP at c2
  have h2 := Lib.hid c2
  clear c2 h hN
  unfold refF
  go_enter Tryd.func54, Tryd.ntmps54
  go_wp2_with fail
  refine (h1.out _).mono ?_
  rintro e1 w1 ⟨rfl, hb1⟩
  obtain ⟨hc1, hf1⟩ := bcell hb1
  have hz1 := hb1.size
  try simp at hz1
  have hz1_0 : w.heap.size < w1.heap.size := by omega
  have hz1_1 : w.heap.size + 1 < w1.heap.size := by omega
  go_wp2_with fail
  refine (h2.out _).mono ?_
  rintro e2 w2 ⟨rfl, hb2⟩
  obtain ⟨hc2, hf2⟩ := bcell hb2
  have hz2 := hb2.size
  try simp at hz2
  have hz2_0 : w.heap.size < w2.heap.size := by omega
  have hz2_1 : w.heap.size + 1 < w2.heap.size := by omega
  go_wp2_with fail
  refine bp_ret ⟨?_, ?_, ?_, ?_⟩ rfl; rotate_left
  · (simp [results, Tryd.results54, go_sem, *]; rfl)
  rotate_left
  · repeat (first | exact Below.refl _ _ | assumption | (refine Below.alloc ?_ (by first | omega | (simp; done) | (simp; omega) | (simp at *; omega)) _) | (refine Below.setCell ?_ (by first | omega | (simp; done) | (simp; omega) | (simp at *; omega)) _) | (refine Below.trans ?_ (below_drewN _ _ _)) | (refine Below.drew ?_) | (refine Below.trans ?_ (Below.mono (by assumption) (by first | omega | (simp; done) | (simp; omega) | (simp at *; omega)))))
  · rfl
theorem ref_Adjust (m s b : Int) (hm0 : 0 ≤ m) (hm1 : m < 4294967296) (_hs : in64 s) (_hb : in64 b) (w : World) :
    Calls Tryd.prog 54 #[.agg #[.int .u32 m, .int .i64 s], .int .i64 b] w fun e w' => e = .returned (refF (adX m s b)) ∧ Below w.heap.size w w' := by
  by_cases h : mayF m s
  · have hm2 : 1 ≤ m := by have := h.1; omega
    by_cases k1 : 1073741824 < b
    · have eC : clampI b (-1073741824) 1073741824 = 1073741824 := by unfold clampI; omega
      have eN : m * (1073741824 + 1073741824) / 1073741824 = adN m b := by unfold adN; rw [eC]
      have bN : adN m b = 2 * m := by rw [← eN]; omega
      by_cases k2 : adN m b < 4294967296
      · rw [adX_ok h (by omega) k2]
        exact adj_hi_ok m s b _ hm0 hm1 h k1 (by omega) k2 eN w
      · rw [adX_err2 h (fun k => k2 k.2)]
        exact adj_hi_big m s b _ hm0 hm1 h k1 (by omega) (by omega) eN w
    · by_cases k3 : b < -1073741824
      · have eC : clampI b (-1073741824) 1073741824 = -1073741824 := by unfold clampI; omega
        have eN : m * (1073741824 + -1073741824) / 1073741824 = adN m b := by unfold adN; rw [eC]
        have bN : adN m b = 0 := by rw [← eN]; simp
        rw [adX_err2 h (by omega)]
        exact adj_lo m s b _ hm0 hm1 h k3 bN eN w
      · have eC : clampI b (-1073741824) 1073741824 = b := by unfold clampI; omega
        have eN : m * (1073741824 + b) / 1073741824 = adN m b := by unfold adN; rw [eC]
        have p0 : 0 ≤ m * (1073741824 + b) := Int.mul_nonneg hm0 (by omega)
        have p1 : m * (1073741824 + b) ≤ 4294967295 * 2147483648 := Int.mul_le_mul (by omega) (by omega) (by omega) (by omega)
        have n0 : 0 ≤ adN m b := by rw [← eN]; exact Int.ediv_nonneg p0 (by omega)
        have n1 : adN m b < 8589934592 := by rw [← eN]; omega
        by_cases k4 : 1 ≤ adN m b
        · by_cases k2 : adN m b < 4294967296
          · rw [adX_ok h k4 k2]
            exact adj_mid_ok m s b _ hm0 hm1 h (by omega) (by omega) k4 k2 eN w
          · rw [adX_err2 h (fun k => k2 k.2)]
            exact adj_mid_big m s b _ hm0 hm1 h (by omega) (by omega) (by omega) n1 eN w
        · rw [adX_err2 h (fun k => k4 k.1)]
          exact adj_mid_low m s b _ hm0 hm1 h (by omega) (by omega) n0 (by omega) eN w
  · rw [adX_err1 h]
    have h1 := Lib.hid (fun w => ref_May_no m s hm0 h w)
    clear h
    unfold refF
    go_enter Tryd.func54, Tryd.ntmps54
    go_wp2_with fail
    refine (h1.out _).mono ?_
    rintro e1 w1 ⟨rfl, hb1⟩
    obtain ⟨hc1, hf1⟩ := bcell hb1
    have hz1 := hb1.size
    try simp at hz1
    have hz1_0 : w.heap.size < w1.heap.size := by omega
    have hz1_1 : w.heap.size + 1 < w1.heap.size := by omega
    go_wp2_with fail
    refine bp_ret ⟨?_, ?_, ?_, ?_⟩ rfl; rotate_left
    · (simp [results, Tryd.results54, go_sem, *]; rfl)
    rotate_left
    · repeat (first | exact Below.refl _ _ | assumption | (refine Below.alloc ?_ (by first | omega | (simp; done) | (simp; omega) | (simp at *; omega)) _) | (refine Below.setCell ?_ (by first | omega | (simp; done) | (simp; omega) | (simp at *; omega)) _) | (refine Below.trans ?_ (below_drewN _ _ _)) | (refine Below.drew ?_) | (refine Below.trans ?_ (Below.mono (by assumption) (by first | omega | (simp; done) | (simp; omega) | (simp at *; omega)))))
    · rfl
theorem ref_Fit_no (a b : Int) (h : ¬ mayFit a b) (w : World) :
    Calls Tryd.prog 51 #[.int .u64 a, .int .u64 b] w fun e w' => e = .returned (refF ((0, 0), some 1)) ∧ Below w.heap.size w w' := by
  unfold mayFit at h
  unfold refF
  by_cases h1 : a = 0
  · subst h1
    clear h
    go_enter Tryd.func51, Tryd.ntmps51
    go_wp2_with fail
    refine bp_ret ⟨?_, ?_, ?_, ?_⟩ rfl; rotate_left
    · (simp [results, Tryd.results51, go_sem, *]; rfl)
    rotate_left
    · repeat (first | exact Below.refl _ _ | assumption | (refine Below.alloc ?_ (by first | omega | (simp; done) | (simp; omega) | (simp at *; omega)) _) | (refine Below.setCell ?_ (by first | omega | (simp; done) | (simp; omega) | (simp at *; omega)) _) | (refine Below.trans ?_ (below_drewN _ _ _)) | (refine Below.drew ?_) | (refine Below.trans ?_ (Below.mono (by assumption) (by first | omega | (simp; done) | (simp; omega) | (simp at *; omega)))))
    · rfl
  · have h1' : (a == 0) = false := by simpa using h1
    by_cases h2 : b = 0
    · subst h2
      clear h
      go_enter Tryd.func51, Tryd.ntmps51
      go_wp2_with fail
      refine bp_ret ⟨?_, ?_, ?_, ?_⟩ rfl; rotate_left
      · (simp [results, Tryd.results51, go_sem, *]; rfl)
      rotate_left
      · repeat (first | exact Below.refl _ _ | assumption | (refine Below.alloc ?_ (by first | omega | (simp; done) | (simp; omega) | (simp at *; omega)) _) | (refine Below.setCell ?_ (by first | omega | (simp; done) | (simp; omega) | (simp at *; omega)) _) | (refine Below.trans ?_ (below_drewN _ _ _)) | (refine Below.drew ?_) | (refine Below.trans ?_ (Below.mono (by assumption) (by first | omega | (simp; done) | (simp; omega) | (simp at *; omega)))))
      · rfl
    · have h2' : (b == 0) = false := by simpa using h2
      by_cases h3 : 1099511627776 < a
      · clear h
        go_enter Tryd.func51, Tryd.ntmps51
        go_wp2_with fail
        refine bp_ret ⟨?_, ?_, ?_, ?_⟩ rfl; rotate_left
        · (simp [results, Tryd.results51, go_sem, *]; rfl)
        rotate_left
        · repeat (first | exact Below.refl _ _ | assumption | (refine Below.alloc ?_ (by first | omega | (simp; done) | (simp; omega) | (simp at *; omega)) _) | (refine Below.setCell ?_ (by first | omega | (simp; done) | (simp; omega) | (simp at *; omega)) _) | (refine Below.trans ?_ (below_drewN _ _ _)) | (refine Below.drew ?_) | (refine Below.trans ?_ (Below.mono (by assumption) (by first | omega | (simp; done) | (simp; omega) | (simp at *; omega)))))
        · rfl
      · have h3' : a ≤ 1099511627776 := by omega
        have h4 : 1099511627776 < b := by omega
        clear h h3
        go_enter Tryd.func51, Tryd.ntmps51
        go_wp2_with fail
        refine bp_ret ⟨?_, ?_, ?_, ?_⟩ rfl; rotate_left
        · (simp [results, Tryd.results51, go_sem, *]; rfl)
        rotate_left
        · repeat (first | exact Below.refl _ _ | assumption | (refine Below.alloc ?_ (by first | omega | (simp; done) | (simp; omega) | (simp at *; omega)) _) | (refine Below.setCell ?_ (by first | omega | (simp; done) | (simp; omega) | (simp at *; omega)) _) | (refine Below.trans ?_ (below_drewN _ _ _)) | (refine Below.drew ?_) | (refine Below.trans ?_ (Below.mono (by assumption) (by first | omega | (simp; done) | (simp; omega) | (simp at *; omega)))))
        · rfl
def fitJ (a b : Int) : Nat → Option (Int × Nat) | 0 => none | s + 1 => fitS a b s
def fitO : Option (Int × Nat) → (Int × Int) × Option Int | none => ((0, 0), some 2) | some (n, s) => ((n, (s : Int)), none)
theorem fitJ_down {a b : Int} {s : Nat} (h : ¬ fitN a b s < 4294967296) : fitS a b s = fitJ a b s := by
  cases s with
  | zero => exact fitS_last h
  | succ s => exact fitS_down h
theorem md_fit_yes {a b : Int} {s : Nat} (hb : 1 ≤ b) (h : in64 (fitN a b s)) : mdX a (2 ^ s) b = (fitN a b s, none) := by
  unfold mdX; rw [if_neg (by omega)]; unfold fitN at *; rw [if_pos h]
theorem md_fit_no {a b : Int} {s : Nat} (hb : 1 ≤ b) (h : ¬ in64 (fitN a b s)) : mdX a (2 ^ s) b = (0, some 2) := by
  unfold mdX; rw [if_neg (by omega)]; unfold fitN at *; rw [if_neg h]
set_option maxHeartbeats 2000000 in
set_option maxRecDepth 100000 in
theorem ref_Fit_yes (a b : Int) (h : mayFit a b) (ha0 : 0 ≤ a) (hb0 : 0 ≤ b) (w : World) :
    Calls Tryd.prog 51 #[.int .u64 a, .int .u64 b] w fun e w' => e = .returned (refF (fitO (fitS a b 31))) ∧ Below w.heap.size w w' := by
  obtain ⟨h1, h2, h3, h4⟩ := h
  have h1' : (a == 0) = false := by simpa using h1
  have h2' : (b == 0) = false := by simpa using h2
  have ia : in64 a := by unfold in64; omega
  have ib : in64 b := by unfold in64; omega
  have b1 : 1 ≤ b := by omega
  have cM := Lib.hid (fun (s : Nat) (hs : in64 (2 ^ s)) w => ref_MulDiv a (2 ^ s) b ia hs ib w)
  have cP := Lib.hid (fun s => fitN_nonneg ha0 hb0 s)
  have b1H := Lib.hid b1
  clear ia ib b1 h1 h2
  go_enter Tryd.func51, Tryd.ntmps51
  go_upto_block 0 with (fail)
  refine wp_gen (fun wd => wd.heap[w.heap.size]? = some (.cells #[.int .u32 0, .int .i64 0] 96) ∧ Below w.heap.size w wd) ⟨row_new rfl, by repeat (first | exact Below.refl _ _ | assumption | (refine Below.alloc ?_ (by first | omega | (simp; done) | (simp; omega) | (simp at *; omega)) _) | (refine Below.setCell ?_ (by first | omega | (simp; done) | (simp; omega) | (simp at *; omega)) _) | (refine Below.trans ?_ (below_drewN _ _ _)) | (refine Below.drew ?_) | (refine Below.trans ?_ (Below.mono (by assumption) (by first | omega | (simp; done) | (simp; omega) | (simp at *; omega)))))⟩ ?_
  rintro wd ⟨g0, hb⟩
  go_wp2_with fail
  go_loopw [6] (fun u wr => ∃ j : Nat, j ≤ 32 ∧ u = .int .i64 ((j : Int) - 1) ∧ Hid (fitS a b 31 = fitJ a b j) ∧ wr.heap[w.heap.size]? = some (.cells #[.int .u32 0, .int .i64 0] 96) ∧ Below w.heap.size w wr) (fun u _ => (intOf u + 1).toNat)
  case atStart => exact ⟨32, by omega, rfl, Lib.hid rfl, g0, hb⟩
  case round =>
    clear g0 hb
    obtain ⟨j, hj, rfl, hR, g0, hb⟩ := hrel
    rcases j with _ | s
    · have eR := hR.out
      rw [show fitJ a b 0 = none from rfl] at eR
      have eRH := Lib.hid eR
      obtain ⟨x0, x1⟩ := cells2 g0
      have fz := row_frozen g0
      have g0H := Lib.hid g0
      have hbH := Lib.hid hb
      clear g0 hb eR hR
      have hneg : ¬ (0 : Int) ≤ ((0 : Nat) : Int) - 1 := by omega
      go_wp2_with fail
      refine bp_ret ?_ rfl
      refine ⟨.tuple #[.agg #[.int .u32 0, .int .i64 0], .int .i64 2], ret_cell_tmp (a := ⟨w.heap.size, 0, none⟩) Tryd.results51 ?_ ?_ (load96 (row_fac g0H.out) rfl), ?_, Below.setCell (Below.setCell hbH.out (by simp) _) (by simp) _⟩
      · simp
      · simp
      · rw [eRH.out]; rfl
    · have e : ((s + 1 : Nat) : Int) - 1 = (s : Int) := by omega
      rw [e]
      clear e
      have hs : s ≤ 31 := by omega
      have p1 : (2 : Int) ^ s ≤ 2147483648 := by
        rw [natPow]
        have := Nat.pow_le_pow_right (show 0 < 2 by omega) hs
        omega
      have p0 := two_pos s
      have wpH := Lib.hid (show wrap64 (2 ^ s) = 2 ^ s by unfold wrap64; omega)
      have hp : in64 (2 ^ s) := by unfold in64; omega
      have c1 := fun w => cM.out s hp w
      have N0 := cP.out s
      have eR : fitS a b 31 = fitS a b s := hR.out
      have g0H := Lib.hid g0
      have hbH := Lib.hid hb
      have hs0 : (0 : Int) ≤ (s : Int) := by omega
      clear g0 hb hR p0 p1 hp
      by_cases i1 : in64 (fitN a b s)
      · rw [md_fit_yes b1H.out i1] at c1
        unfold refP at c1
        by_cases i2 : fitN a b s < 4294967296
        · by_cases i3 : fitN a b s = 0
          · rw [fitS_small i2 i3] at eR
            rw [i3] at c1
            have eRH := Lib.hid eR
            have c1H := Lib.hid c1
            clear c1 eR i1 i2 i3 N0
            go_wp2_with fail
            try rw [wpH.out]
            refine (c1H.out _).mono ?_
            rintro e w1 ⟨rfl, hb1⟩
            have g1 := blk hb1 g0H.out (Array.getElem?_eq_some_iff.1 g0H.out).1
            have hbH1 := Lib.hid (hbH.out.trans (hb1.mono hbH.out.size))
            obtain ⟨x0, x1⟩ := cells2 g1
            have fz := row_frozen g1
            have g1H := Lib.hid g1
            clear g1 hb1
            go_wp2_with fail
            refine bp_ret ?_ rfl
            refine ⟨.tuple #[.agg #[.int .u32 0, .int .i64 0], .int .i64 2], ret_cell_tmp (a := ⟨w.heap.size, 0, none⟩) Tryd.results51 ?_ ?_ (load96 (row_fac g1H.out) rfl), ?_, Below.setCell (Below.setCell hbH1.out (by simp) _) (by simp) _⟩
            · simp
            · simp
            · rw [eRH.out]; rfl
          · rw [fitS_fits i2 i3] at eR
            have i3' : (fitN a b s == 0) = false := by simpa using i3
            have eRH := Lib.hid eR
            have c1H := Lib.hid c1
            clear c1 eR i1 i3
            generalize fitN a b s = N at *
            have i2' : N ≤ 4294967295 := by omega
            go_wp2_with fail
            try rw [wpH.out]
            refine (c1H.out _).mono ?_
            rintro e w1 ⟨rfl, hb1⟩
            have g1 := blk hb1 g0H.out (Array.getElem?_eq_some_iff.1 g0H.out).1
            have hbH1 := Lib.hid (hbH.out.trans (hb1.mono hbH.out.size))
            obtain ⟨x0, x1⟩ := cells2 g1
            have fz := row_frozen g1
            have g1H := Lib.hid g1
            clear g1 hb1
            go_wp2_with fail
            refine bp_ret ?_ rfl
            refine ⟨.tuple #[.agg #[.int .u32 N, .int .i64 s], .int .i64 0], ret_cell_tmp (a := ⟨w.heap.size, 0, none⟩) Tryd.results51 ?_ ?_ (load96 (row_fac g1H.out) rfl), ?_, Below.setCell (Below.setCell hbH1.out (by simp) _) (by simp) _⟩
            · simp
            · simp
            · rw [eRH.out]; rfl
        · rw [fitJ_down i2] at eR
          have eRH := Lib.hid eR
          have c1H := Lib.hid c1
          have i2' : ¬ fitN a b s ≤ 4294967295 := by omega
          clear c1 eR i1 i2
          generalize fitN a b s = N at *
          go_wp2_with fail
          try rw [wpH.out]
          refine (c1H.out _).mono ?_
          rintro e w1 ⟨rfl, hb1⟩
          have g1H := Lib.hid (blk hb1 g0H.out (Array.getElem?_eq_some_iff.1 g0H.out).1)
          have hbH1 := Lib.hid (hbH.out.trans (hb1.mono hbH.out.size))
          clear hb1
          go_wp2_with fail
          refine ⟨⟨s, by omega, rfl, eRH, g1H.out, hbH1.out⟩, by simp [intOf]⟩
      · have i2 : ¬ fitN a b s < 4294967296 := fun k => i1 (by unfold in64; omega)
        rw [md_fit_no b1H.out i1] at c1
        rw [fitJ_down i2] at eR
        unfold refP at c1
        have eRH := Lib.hid eR
        have c1H := Lib.hid c1
        clear c1 eR i1 i2 N0
        go_wp2_with fail
        try rw [wpH.out]
        refine (c1H.out _).mono ?_
        rintro e w1 ⟨rfl, hb1⟩
        have g1H := Lib.hid (blk hb1 g0H.out (Array.getElem?_eq_some_iff.1 g0H.out).1)
        have hbH1 := Lib.hid (hbH.out.trans (hb1.mono hbH.out.size))
        clear hb1
        go_wp2_with fail
        refine ⟨⟨s, by omega, rfl, eRH, g1H.out, hbH1.out⟩, by simp [intOf]⟩
end Go.Proofs.YtkdjfakjnkemiaaDoor
