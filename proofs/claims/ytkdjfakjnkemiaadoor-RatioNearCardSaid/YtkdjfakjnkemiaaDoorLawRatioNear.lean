/- The statement RatioNear: where a factor fits and the numbers are in their span, what it gives is near. -/
import Derived.Test.YtkdjfakjnkemiaaDoorNearA
namespace Go.Proofs.YtkdjfakjnkemiaaDoor
open Go.RowKit

theorem wrap_in64 {x : Int} (h : in64 x) : IntKind.i64.wrap x = x := by
  rw [i64_wrap64]; unfold wrap64; unfold in64 at h; omega

theorem law_RatioNear (a b n0 n1 : Int) (ha : 0 ≤ a) (hb : 0 ≤ b) (hn0 : in64 n0) (hn1 : in64 n1) (w : World) (hL : LaidW w) :
    Calls Tryd.prog 9 #[.int .u64 a, .int .u64 b, .agg #[.int .i64 n0, .int .i64 n1]] w fun e w' => e = .returned (.bool true) ∧ Below w.heap.size w w' := by
  have h6 := Lib.hid (fun w (h : LaidW w) => sure03 w h)
  have hLH := Lib.hid hL
  by_cases hm : mayFit a b
  case neg => exact near_fit a b n0 n1 1 w hLH (Lib.hid fun w => ratio_Fit_no a b hm w) h6
  have c1 := fun w => ratio_Fit_yes a b hm ha hb w
  cases hf : fitS a b 31 with
  | none => rw [hf] at c1; exact near_fit a b n0 n1 2 w hLH (Lib.hid c1) h6
  | some f =>
  obtain ⟨m, t⟩ := f
  rw [hf] at c1
  have h1 := Lib.hid c1
  obtain ⟨hm1, hm2, hm3, ht⟩ := fitS_some hf
  have hm0 : 0 ≤ m := by rw [hm1]; exact fitN_nonneg ha hb t
  by_cases k0 : 0 ≤ n0
  case neg => exact near_out_a a b n0 n1 m t (by omega) w hLH h1 h6
  by_cases k1 : n0 ≤ 4611686018427387904
  case neg => exact near_out_b a b n0 n1 m t k0 (by omega) w hLH h1 h6
  by_cases k2 : n0 ≤ n1
  case neg => exact near_out_c a b n0 n1 m t k0 k1 (by omega) w hLH h1 h6
  by_cases k3 : n1 ≤ 4611686018427387904
  case neg => exact near_out_d a b n0 n1 m t k0 k1 k2 (by omega) w hLH h1 h6
  have hP : (0 : Int) < 2 ^ t := by rw [natPow]; have := Nat.two_pow_pos t; omega
  obtain ⟨ha1, hb1, ha2, hb2⟩ := hm
  have hbp : 0 < b := by omega
  have j1 := near_mono (P := 2 ^ t) hm0 k2 hP
  have j2 : n0 * m / 2 ^ t ≤ n0 * a / b := by rw [hm1]; exact near_le hbp k0 hP
  have j3 : n0 * a / b - n0 * m / 2 ^ t ≤ n0 / 2 ^ t + 1 := by rw [hm1]; exact near_off hbp k0 hP
  have x0 : 0 ≤ n0 * m / 2 ^ t := Int.ediv_nonneg (Int.mul_nonneg k0 hm0) (by omega)
  have r0 : 0 ≤ n0 / 2 ^ t := Int.ediv_nonneg k0 (by omega)
  have r1 : n0 / 2 ^ t ≤ n0 := Int.ediv_le_self _ k0
  have mf : mayF m t := ⟨hm2, by omega, by omega⟩
  have ha64 : in64 a := by unfold in64; omega
  have hb64 : in64 b := by unfold in64; omega
  have c2 := fun w => ratio_Scale m t n0 hm0 hm3 hn0 w
  have c3 := fun w => ratio_Scale m t n1 hm0 hm3 hn1 w
  have c4 := fun w => wide_MulDiv n0 a b hn0 ha64 hb64 w
  have c5 := fun w => ratio_Off m t n0 hn0 w
  unfold scaleR mulShiftR at c2 c3
  unfold mulDivR at c4
  unfold offR at c5
  rw [if_pos mf, if_neg (by omega), Int.toNat_natCast] at c2 c3
  rw [if_neg (by omega)] at c4
  rw [if_pos ⟨mf, k0⟩, Int.toNat_natCast, fitI_pos (by unfold in64; omega)] at c5
  have wa : IntKind.i64.wrap a = a := wrap_in64 ha64
  have wb : IntKind.i64.wrap b = b := wrap_in64 hb64
  have wd : IntKind.i64.wrap (n0 * a / b - n0 * m / 2 ^ t) = n0 * a / b - n0 * m / 2 ^ t := wrap_in64 (by unfold in64; omega)
  unfold fv at c2 c3 c5
  have h5 := Lib.hid c5
  have j3' : n0 * a / b - n0 * m / 2 ^ t ≤ n0 / 2 ^ t + 2 := by omega
  by_cases ky : in64 (n1 * m / 2 ^ t)
  · have kx : in64 (n0 * m / 2 ^ t) := by unfold in64 at *; omega
    rw [fitI_pos ky] at c3
    rw [fitI_pos kx] at c2
    by_cases kz : in64 (n0 * a / b)
    · rw [fitI_pos kz] at c4
      exact near_in111 a b n0 n1 m t _ _ _ _ wa wb k0 k1 k2 k3 wd j1 j2 j3' w hLH h1 (Lib.hid c2) (Lib.hid c3) (Lib.hid c4) h5 h6
    · rw [fitI_neg kz] at c4
      exact near_in110 a b n0 n1 m t _ _ _ _ wa wb k0 k1 k2 k3 wd j1 j2 j3' w hLH h1 (Lib.hid c2) (Lib.hid c3) (Lib.hid c4) h5 h6
  · rw [fitI_neg ky] at c3
    by_cases kx : in64 (n0 * m / 2 ^ t)
    · rw [fitI_pos kx] at c2
      by_cases kz : in64 (n0 * a / b)
      · rw [fitI_pos kz] at c4
        exact near_in101 a b n0 n1 m t _ _ _ _ wa wb k0 k1 k2 k3 wd j1 j2 j3' w hLH h1 (Lib.hid c2) (Lib.hid c3) (Lib.hid c4) h5 h6
      · rw [fitI_neg kz] at c4
        exact near_in100 a b n0 n1 m t _ _ _ _ wa wb k0 k1 k2 k3 wd j1 j2 j3' w hLH h1 (Lib.hid c2) (Lib.hid c3) (Lib.hid c4) h5 h6
    · rw [fitI_neg kx] at c2
      by_cases kz : in64 (n0 * a / b)
      · rw [fitI_pos kz] at c4
        exact near_in001 a b n0 n1 m t _ _ _ _ wa wb k0 k1 k2 k3 wd j1 j2 j3' w hLH h1 (Lib.hid c2) (Lib.hid c3) (Lib.hid c4) h5 h6
      · rw [fitI_neg kz] at c4
        exact near_in000 a b n0 n1 m t _ _ _ _ wa wb k0 k1 k2 k3 wd j1 j2 j3' w hLH h1 (Lib.hid c2) (Lib.hid c3) (Lib.hid c4) h5 h6
theorem law_RatioNear_row (a b n0 n1 : Int) (w : World) (hL : LaidW w) (ha : (Lit.int .u64 a).wf = true) (hb : (Lit.int .u64 b).wf = true) (h0 : (Lit.int .i64 n0).wf = true) (h1 : (Lit.int .i64 n1).wf = true) :
    Calls Tryd.prog 9 #[.int .u64 a, .int .u64 b, .agg #[.int .i64 n0, .int .i64 n1]] w fun e w' => e = .returned (.bool true) ∧ Below w.heap.size w w' :=
  law_RatioNear a b n0 n1 (wf_u64 ha).1 (wf_u64 hb).1 (wf_i64 h0) (wf_i64 h1) w hL
end Go.Proofs.YtkdjfakjnkemiaaDoor
