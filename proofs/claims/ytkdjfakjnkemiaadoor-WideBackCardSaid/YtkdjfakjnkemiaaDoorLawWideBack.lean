/- The statement WideBack: products, quotients and shifts of wide numbers come back: the walk. -/
import Derived.Test.YtkdjfakjnkemiaaDoorSure02
import Derived.Deep.DeepCutAuto
import Derived.Deep.CutBlock
namespace Go.Proofs.YtkdjfakjnkemiaaDoor
open Go.RowKit

theorem wb_arith1 {a b : Int} (hb : 1 ≤ b) : a * b / b = a ∧ a * b % b = 0 := ⟨Int.mul_ediv_cancel _ (by omega), Int.mul_emod_left _ _⟩
theorem ediv_in64 {x d : Int} (hx : in64 x) (hd : 1 ≤ d) : in64 (x / d) := by
  have e := Int.mul_ediv_add_emod x d
  have r0 := Int.emod_nonneg x (b := d) (by omega)
  have r1 := Int.emod_lt_of_pos x (b := d) (by omega)
  unfold in64 at *
  rcases Int.lt_or_le x 0 with h | h
  · have a : x / d < 0 := Int.ediv_neg_of_neg_of_pos h (by omega)
    have b := Int.mul_le_mul_of_nonpos_right (show 1 ≤ d from hd) (show x / d + 1 ≤ 0 by omega)
    rw [Int.mul_add, Int.mul_one] at b
    omega
  · have a : 0 ≤ x / d := Int.ediv_nonneg h (by omega)
    have b : x / d ≤ x := Int.ediv_le_self _ h
    omega
theorem in128_of64 {x : Int} (h : in64 x) : in128 x := by unfold in64 in128 at *; omega
set_option maxHeartbeats 1000000 in
set_option maxRecDepth 100000 in
theorem law_WideBack (a b n0 n1 : Int) (ha : in64 a) (hb : in64 b) (g0 : 0 ≤ n0) (g1 : n0 < 256) (g2 : 0 ≤ n1) (g3 : n1 < 256) (w : World) (hL : LaidW w) :
    Calls Tryd.prog 7 #[.int .i64 a, .int .i64 b, .agg #[.int .u8 n0, .int .u8 n1]] w fun e w' => e = .returned (.bool true) ∧ Below w.heap.size w w' := by
  have hLH := Lib.hid hL
  have hAB := Lib.hid (And.intro ha hb)
  have h1 := Lib.hid (fun w => wide_Mul a b ha hb w)
  clear hL ha hb
  go_enter Tryd.func7, Tryd.ntmps7
  go_upto_if 25 with (fail)
  go_cut [] (fun wc => wc.cell? ⟨w.heap.size, 0, none⟩ = some (.int .u8 n0) ∧ wc.cell? ⟨w.heap.size, 1, none⟩ = some (.int .u8 n1) ∧ w.heap.size < wc.heap.size ∧ Below w.heap.size w wc)
  case first =>
    by_cases bp : 1 ≤ b
    · obtain ⟨ha, hb⟩ := hAB.out
      obtain ⟨m1, m2⟩ := wb_arith1 (a := a) bp
      have c2 := fun w => wide_Div_ok (a * b) b (mul_in128 ha hb) bp hb.2 w
      rw [m1, m2] at c2
      have c3 := fun w => wide_MulDiv a b b ha hb hb w
      unfold mulDivR at c3
      rw [if_neg (by omega), m1, fitI_pos ha] at c3
      have c4 := fun w => wide_Of a ha w
      have c5 := fun w => wide_Div_ok a b (in128_of64 ha) bp hb.2 w
      have c6 := fun w => wide_Int (a / b) (in128_of64 (ediv_in64 ha bp)) w
      rw [fitI_pos (ediv_in64 ha bp)] at c6
      have r0 := Int.emod_nonneg a (b := b) (by omega)
      have r1 := Int.emod_lt_of_pos a (b := b) (by omega)
      have hr : in64 (a % b) := by unfold in64 at *; omega
      have c7 := fun w => wide_Mul (a / b) b (ediv_in64 ha bp) hb w
      have c8 := fun w => wide_Of (a % b) hr w
      have e9 : a / b * b + a % b = a := by have := Int.mul_ediv_add_emod a b; rw [Int.mul_comm b] at this; exact this
      have c9 := fun w => wide_Add (a / b * b) (a % b) (mul_in128 (ediv_in64 ha bp) hb) (in128_of64 hr) w
      rw [e9, fitW_pos (in128_of64 ha)] at c9
      obtain ⟨ah, al, ew, -⟩ := wv_open a (in128_of64 ha)
      obtain ⟨bh, bl, ev, -⟩ := wv_open (a / b) (in128_of64 (ediv_in64 ha bp))
      have c5' := c5
      rw [ew] at c2 c4 c9
      rw [ew, ev] at c5
      rw [ev] at c6
      have h2 := Lib.hid c2
      have h3 := Lib.hid c3
      have h4 := Lib.hid c4
      have h5 := Lib.hid c5
      have h6 := Lib.hid c6
      have h7 := Lib.hid c7
      have h8 := Lib.hid c8
      have h9 := Lib.hid c9
      clear c2 c3 c4 c5 c5' c6 c7 c8 c9 m1 m2 e9 ew ev ha hb hr
      generalize a / b = qq at *
      generalize a % b = rr at *
      go_wp2_with fail
      refine (h1.out _).mono ?_
      rintro e1 w1 ⟨rfl, hb1⟩
      obtain ⟨hc1, hf1⟩ := bcell hb1
      have hz1 := hb1.size
      try simp at hz1
      have hz1_0 : w.heap.size < w1.heap.size := by omega
      go_wp2_with fail
      refine (h2.out _).mono ?_
      rintro e2 w2 ⟨rfl, hb2⟩
      obtain ⟨hc2, hf2⟩ := bcell hb2
      have hz2 := hb2.size
      try simp at hz2
      have hz2_0 : w.heap.size < w2.heap.size := by omega
      go_wp2_with fail
      refine (h3.out _).mono ?_
      rintro e3 w3 ⟨rfl, hb3⟩
      obtain ⟨hc3, hf3⟩ := bcell hb3
      have hz3 := hb3.size
      try simp at hz3
      have hz3_0 : w.heap.size < w3.heap.size := by omega
      go_wp2_with fail
      have hz3q : w2.heap.size < w3.heap.size := by omega
      go_region_held3 (fun w' => w'.cell? ⟨w2.heap.size, 0, none⟩ = some (.int .i64 ah) ∧ w'.cell? ⟨w2.heap.size, 1, none⟩ = some (.int .u64 al) ∧ w2.heap.size < w'.heap.size)
        (first
          | go_keep
          | (go_split_ands
             refine ⟨?_, ?_, ?_⟩
             · (rw [hb4.cell (by first | omega | (simp; done) | (simp; omega))]; assumption)
             · (rw [hb4.cell (by first | omega | (simp; done) | (simp; omega))]; assumption)
             · exact Nat.lt_of_lt_of_le (by assumption) hb4.size))
        ((go_at_call 41; refine (h4.out _).mono ?_; rintro e w4 ⟨rfl, hb4⟩))
      obtain ⟨hc4, hf4⟩ := bcell_drew hb4
      have hz4 := hb4.size
      simp at hz4
      have hz4_0 : w.heap.size < w4.heap.size := by omega
      have hz4_1 : w2.heap.size < w4.heap.size := by omega
      go_wp2_with fail
      refine (h4.out _).mono ?_
      rintro e5 w5 ⟨rfl, hb5⟩
      obtain ⟨hc5, hf5⟩ := bcell hb5
      have hz5 := hb5.size
      try simp at hz5
      have hz5_0 : w.heap.size < w5.heap.size := by omega
      have hz5_1 : w2.heap.size < w5.heap.size := by omega
      go_wp2_with fail
      refine (h5.out _).mono ?_
      rintro e6 w6 ⟨rfl, hb6⟩
      obtain ⟨hc6, hf6⟩ := bcell hb6
      have hz6 := hb6.size
      try simp at hz6
      have hz6_0 : w.heap.size < w6.heap.size := by omega
      have hz6_1 : w2.heap.size < w6.heap.size := by omega
      go_wp2_with fail
      refine (h6.out _).mono ?_
      rintro e7 w7 ⟨rfl, hb7⟩
      obtain ⟨hc7, hf7⟩ := bcell hb7
      have hz7 := hb7.size
      try simp at hz7
      have hz7_0 : w.heap.size < w7.heap.size := by omega
      have hz7_1 : w2.heap.size < w7.heap.size := by omega
      go_wp2_with fail
      refine (h7.out _).mono ?_
      rintro e8 w8 ⟨rfl, hb8⟩
      obtain ⟨hc8, hf8⟩ := bcell hb8
      have hz8 := hb8.size
      try simp at hz8
      have hz8_0 : w.heap.size < w8.heap.size := by omega
      have hz8_1 : w2.heap.size < w8.heap.size := by omega
      go_wp2_with fail
      refine (h8.out _).mono ?_
      rintro e9 w9 ⟨rfl, hb9⟩
      obtain ⟨hc9, hf9⟩ := bcell hb9
      have hz9 := hb9.size
      try simp at hz9
      have hz9_0 : w.heap.size < w9.heap.size := by omega
      have hz9_1 : w2.heap.size < w9.heap.size := by omega
      go_wp2_with fail
      refine (h9.out _).mono ?_
      rintro e10 w10 ⟨rfl, hb10⟩
      obtain ⟨hc10, hf10⟩ := bcell hb10
      have hz10 := hb10.size
      try simp at hz10
      have hz10_0 : w.heap.size < w10.heap.size := by omega
      have hz10_1 : w2.heap.size < w10.heap.size := by omega
      go_wp2_with fail
      go_region_held3 (fun w' => w'.cell? ⟨w10.heap.size, 0, none⟩ = some (.int .i64 ah) ∧ w'.cell? ⟨w10.heap.size, 1, none⟩ = some (.int .u64 al) ∧ w10.heap.size < w'.heap.size)
        (first
          | go_keep
          | (go_split_ands
             refine ⟨?_, ?_, ?_⟩
             · (rw [hb11.cell (by first | omega | (simp; done) | (simp; omega))]; assumption)
             · (rw [hb11.cell (by first | omega | (simp; done) | (simp; omega))]; assumption)
             · exact Nat.lt_of_lt_of_le (by assumption) hb11.size))
        ((go_at_call 41; refine (h4.out _).mono ?_; rintro e w11 ⟨rfl, hb11⟩))
      obtain ⟨hc11, hf11⟩ := bcell_drew hb11
      have hz11 := hb11.size
      simp at hz11
      have hz11_0 : w.heap.size < w11.heap.size := by omega
      have hz10_0' : w.heap.size < w10.heap.size + 1 := by omega
      go_wp2_with fail
      go_meet
      case rel => exact ⟨by go_simp, by go_simp, hz11_0, by repeat (first | exact Below.refl _ _ | assumption | (refine Below.alloc ?_ (by first | omega | (simp; done) | (simp; omega) | (simp at *; omega)) _) | (refine Below.setCell ?_ (by first | omega | (simp; done) | (simp; omega) | (simp at *; omega)) _) | (refine Below.trans ?_ (below_drewN _ _ _)) | (refine Below.drew ?_) | (refine Below.trans ?_ (Below.mono (by assumption) (by first | omega | (simp; done) | (simp; omega) | (simp at *; omega)))))⟩
    · go_wp2_with fail
      go_meet
      case rel => exact ⟨by simp, by simp, by simp, (Below.refl _ _).alloc (Nat.le_refl _) _⟩
  case rest =>
    obtain ⟨k1, k2, k3, k4⟩ := hcut
    obtain ⟨ha, hb⟩ := hAB.out
    have hp := mul_in128 ha hb
    have j0 := Int.emod_nonneg n0 (b := 64) (by omega)
    have j1 := Int.emod_lt_of_pos n0 (b := 64) (by omega)
    have i0 := Int.emod_nonneg n1 (b := 64) (by omega)
    have i1 := Int.emod_lt_of_pos n1 (b := 64) (by omega)
    have d1 := fun w => wide_Shr (a * b) (n0 % 64) hp w
    rw [shrR_pos j0 (by omega)] at d1
    have hX := shr_in128 (n0 % 64).toNat hp
    have d2 := fun w => wide_Shr (a * b / 2 ^ (n0 % 64).toNat) (n1 % 64) hX w
    rw [shrR_pos i0 (by omega)] at d2
    have hY := shr_in128 (n1 % 64).toNat hX
    have d3 := fun w => wide_Shr (a * b) (n0 % 64 + n1 % 64) hp w
    rw [shrR_pos (by omega) (by omega), show (n0 % 64 + n1 % 64).toNat = (n0 % 64).toNat + (n1 % 64).toNat by omega, Int.pow_add, ← Int.ediv_ediv_of_nonneg (Int.pow_nonneg (by omega))] at d3
    have d4 := fun w => wide_Mul b a hb ha w
    rw [Int.mul_comm b a] at d4
    have d5 := h1.out
    have d6 := fun w (h : LaidW w) => sure02 w h
    generalize a * b / 2 ^ (n0 % 64).toNat / 2 ^ (n1 % 64).toNat = Y at *
    generalize a * b / 2 ^ (n0 % 64).toNat = X at *
    generalize a * b = P at *
    obtain ⟨ph, pl, ep, -⟩ := wv_open P hp
    obtain ⟨xh, xl, ex, -⟩ := wv_open X hX
    obtain ⟨yh, yl, ey, -⟩ := wv_open Y hY
    rw [ep] at d1 d3 d4 d5
    rw [ex] at d1 d2
    rw [ey] at d2 d3
    have f1 := Lib.hid d1
    have f2 := Lib.hid d2
    have f3 := Lib.hid d3
    have f4 := Lib.hid d4
    have f5 := Lib.hid d5
    have f6 := Lib.hid d6
    clear d1 d2 d3 d4 d5 d6 hp hX hY ep ex ey ha hb h1
    go_wp2_with fail
    go_quiet (fail)
    go_wp2_with fail
    refine (f5.out _).mono ?_
    rintro e1 w1 ⟨rfl, hb1⟩
    obtain ⟨hc1, hf1⟩ := bcell hb1
    have hz1 := hb1.size
    try simp at hz1
    go_wp2_with fail
    refine (f1.out _).mono ?_
    rintro e2 w2 ⟨rfl, hb2⟩
    obtain ⟨hc2, hf2⟩ := bcell hb2
    have hz2 := hb2.size
    try simp at hz2
    go_wp2_with fail
    refine (f2.out _).mono ?_
    rintro e3 w3 ⟨rfl, hb3⟩
    obtain ⟨hc3, hf3⟩ := bcell hb3
    have hz3 := hb3.size
    try simp at hz3
    go_wp2_with fail
    refine (f5.out _).mono ?_
    rintro e4 w4 ⟨rfl, hb4⟩
    obtain ⟨hc4, hf4⟩ := bcell hb4
    have hz4 := hb4.size
    try simp at hz4
    have q4 : w3.heap.size < w4.heap.size := by omega
    go_wp2_with fail
    refine (f3.out _).mono ?_
    rintro e5 w5 ⟨rfl, hb5⟩
    obtain ⟨hc5, hf5⟩ := bcell hb5
    have hz5 := hb5.size
    try simp at hz5
    have q5 : w3.heap.size < w5.heap.size := by omega
    go_wp2_with fail
    refine (f5.out _).mono ?_
    rintro e6 w6 ⟨rfl, hb6⟩
    obtain ⟨hc6, hf6⟩ := bcell hb6
    have hz6 := hb6.size
    try simp at hz6
    go_wp2_with fail
    refine (f4.out _).mono ?_
    rintro e7 w7 ⟨rfl, hb7⟩
    obtain ⟨hc7, hf7⟩ := bcell hb7
    have hz7 := hb7.size
    try simp at hz7
    go_wp2_with fail
    refine (f6.out _ (LaidW.below hLH.out (by repeat (first | exact Below.refl _ _ | assumption | (refine Below.alloc ?_ (by first | omega | (simp; done) | (simp; omega) | (simp at *; omega)) _) | (refine Below.setCell ?_ (by first | omega | (simp; done) | (simp; omega) | (simp at *; omega)) _) | (refine Below.trans ?_ (below_drewN _ _ _)) | (refine Below.drew ?_) | (refine Below.trans ?_ (Below.mono (by assumption) (by first | omega | (simp; done) | (simp; omega) | (simp at *; omega)))))))).mono ?_
    rintro e8 w8 ⟨rfl, hb8⟩
    obtain ⟨hc8, hf8⟩ := bcell hb8
    have hz8 := hb8.size
    try simp at hz8
    go_wp2_with fail
    refine bp_ret ⟨?_, ?_, ?_, ?_⟩ rfl; rotate_left
    · (simp [results, Tryd.results7, go_sem, *]; rfl)
    rotate_left
    · repeat (first | exact Below.refl _ _ | assumption | (refine Below.alloc ?_ (by first | omega | (simp; done) | (simp; omega) | (simp at *; omega)) _) | (refine Below.setCell ?_ (by first | omega | (simp; done) | (simp; omega) | (simp at *; omega)) _) | (refine Below.trans ?_ (below_drewN _ _ _)) | (refine Below.drew ?_) | (refine Below.trans ?_ (Below.mono (by assumption) (by first | omega | (simp; done) | (simp; omega) | (simp at *; omega)))))
    · rfl
theorem law_WideBack_row (a b n0 n1 : Int) (w : World) (hL : LaidW w) (ha : (Lit.int .i64 a).wf = true) (hb : (Lit.int .i64 b).wf = true) (h0 : (Lit.int .u8 n0).wf = true) (h1 : (Lit.int .u8 n1).wf = true) :
    Calls Tryd.prog 7 #[.int .i64 a, .int .i64 b, .agg #[.int .u8 n0, .int .u8 n1]] w fun e w' => e = .returned (.bool true) ∧ Below w.heap.size w w' :=
  law_WideBack a b n0 n1 (wf_i64 ha) (wf_i64 hb) (wf_u8 h0).1 (wf_u8 h0).2 (wf_u8 h1).1 (wf_u8 h1).2 w hL
end Go.Proofs.YtkdjfakjnkemiaaDoor
