/- Division of 128 bits by 64, digit by digit of 32 bits: the plain arithmetic of it; no program in sight. -/
import Derived.Test.YtmdnnlfoljdfpaaDoorMath
import Derived.Lib.BitFns
import Derived.Lib.Bits
import Derived.Laws.MathBits
import Derived.Laws.Bits64b
namespace Go.Proofs.YtmdnnlfoljdfpaaDoor

theorem kn_exit {Y u d q r : Int} (hY : 0 < Y) (hq : q * (Y / 4294967296) + r = u) (hQ : (u * 4294967296 + d) / Y ≤ q) (hc : q * (Y % 4294967296) ≤ 4294967296 * r + d) : q = (u * 4294967296 + d) / Y := by
  have e : q * Y = q * (Y / 4294967296) * 4294967296 + q * (Y % 4294967296) := by
    have h := Int.mul_ediv_add_emod Y 4294967296
    generalize Y / 4294967296 = y1 at *
    generalize Y % 4294967296 = y0 at *
    subst h; grind
  have h2 : q ≤ (u * 4294967296 + d) / Y := Int.le_ediv_of_mul_le hY (by omega)
  omega
theorem kn_first {Y u d : Int} (hY : 9223372036854775808 ≤ Y) (hY1 : Y < 18446744073709551616) (hu : 0 ≤ u) (huY : u < Y) (hd : 0 ≤ d) (hd1 : d < 4294967296) :
    u / (Y / 4294967296) * (Y / 4294967296) + (u - u / (Y / 4294967296) * (Y / 4294967296)) = u ∧ 0 ≤ u - u / (Y / 4294967296) * (Y / 4294967296) ∧ u - u / (Y / 4294967296) * (Y / 4294967296) < 4294967296 ∧ (u * 4294967296 + d) / Y ≤ u / (Y / 4294967296) ∧ u / (Y / 4294967296) ≤ 4294967297 ∧ 0 ≤ u / (Y / 4294967296) := by
  have h1 : 2147483648 ≤ Y / 4294967296 := by omega
  have h2 : Y / 4294967296 < 4294967296 := by omega
  have e := Int.mul_ediv_add_emod u (Y / 4294967296)
  have e0 := Int.emod_nonneg u (b := Y / 4294967296) (by omega)
  have e1 := Int.emod_lt_of_pos u (b := Y / 4294967296) (by omega)
  have c := Int.mul_comm (Y / 4294967296) (u / (Y / 4294967296))
  have hQ0 : 0 ≤ (u * 4294967296 + d) / Y := Int.ediv_nonneg (by omega) (by omega)
  have hQ : (u * 4294967296 + d) / Y * Y ≤ u * 4294967296 + d := Int.ediv_mul_le _ (by omega)
  refine ⟨by omega, by omega, by omega, ?_, ?_, Int.ediv_nonneg hu (by omega)⟩
  · refine Int.le_ediv_of_mul_le (by omega) ?_
    generalize (u * 4294967296 + d) / Y = Q at *
    have : Q * Y = Q * (Y / 4294967296) * 4294967296 + Q * (Y % 4294967296) := by
      have h := Int.mul_ediv_add_emod Y 4294967296
      generalize Y / 4294967296 = y1 at *
      generalize Y % 4294967296 = y0 at *
      subst h; grind
    have : 0 ≤ Q * (Y % 4294967296) := Int.mul_nonneg hQ0 (by omega)
    omega
  · have : u / (Y / 4294967296) < 4294967298 := by
      refine Int.ediv_lt_of_lt_mul (by omega) ?_
      omega
    omega
theorem kn_step {Y u d q r : Int} (hY : 9223372036854775808 ≤ Y) (huY : u < Y) (hd1 : d < 4294967296) (hq : q * (Y / 4294967296) + r = u) (hc : 4294967296 ≤ q ∨ 4294967296 * r + d < q * (Y % 4294967296)) : (u * 4294967296 + d) / Y ≤ q - 1 := by
  have : (u * 4294967296 + d) / Y < q := by
    rcases hc with hc | hc
    · have : (u * 4294967296 + d) / Y < 4294967296 := Int.ediv_lt_of_lt_mul (by omega) (by omega)
      omega
    · refine Int.ediv_lt_of_lt_mul (by omega) ?_
      have e : q * Y = q * (Y / 4294967296) * 4294967296 + q * (Y % 4294967296) := by
        have h := Int.mul_ediv_add_emod Y 4294967296
        generalize Y / 4294967296 = y1 at *
        generalize Y % 4294967296 = y0 at *
        subst h; grind
      omega
  omega
theorem kn_break {Y u d q r : Int} (hY : 9223372036854775808 ≤ Y) (hd : 0 ≤ d) (hq : q * (Y / 4294967296) + r = u) (hr : 4294967296 ≤ r) (hQ : (u * 4294967296 + d) / Y ≤ q) (hq1 : q ≤ 4294967296) : q = (u * 4294967296 + d) / Y := by
  refine kn_exit (by omega) hq hQ ?_
  have h1 : q * (Y % 4294967296) ≤ 4294967296 * 4294967295 := by
    have := Int.mul_le_mul hq1 (show Y % 4294967296 ≤ 4294967295 by omega) (by omega) (by omega)
    omega
  omega
theorem kn_small {q y0 : Int} (hq : q < 4294967296) (hq0 : 0 ≤ q) (h0 : 0 ≤ y0) (h1 : y0 < 4294967296) : 0 ≤ q * y0 ∧ q * y0 < 18446744073709551616 := by
  have := Int.mul_le_mul (show q ≤ 4294967295 by omega) (show y0 ≤ 4294967295 by omega) (by omega) (by omega)
  exact ⟨Int.mul_nonneg hq0 h0, by omega⟩
/-- Two digits, one behind the other. -/
theorem kn_two {Y U L : Int} (hY : 0 < Y) :
    (U * 18446744073709551616 + L) / Y = (U * 4294967296 + L / 4294967296) / Y * 4294967296 + ((U * 4294967296 + L / 4294967296) % Y * 4294967296 + L % 4294967296) / Y ∧
    (U * 18446744073709551616 + L) % Y = ((U * 4294967296 + L / 4294967296) % Y * 4294967296 + L % 4294967296) % Y := by
  have e := Int.mul_ediv_add_emod (U * 4294967296 + L / 4294967296) Y
  generalize (U * 4294967296 + L / 4294967296) % Y = R at *
  generalize (U * 4294967296 + L / 4294967296) / Y = Q at *
  have x : U * 18446744073709551616 + L = (R * 4294967296 + L % 4294967296) + Y * (Q * 4294967296) := by
    have : Y * (Q * 4294967296) = Y * Q * 4294967296 := by grind
    omega
  rw [x, Int.add_mul_ediv_left _ _ (by omega), Int.add_mul_emod_self_left]
  exact ⟨by omega, rfl⟩
theorem bitLenAux_spec : ∀ (f x : Nat), x < 2 ^ f → x < 2 ^ Lib.bitLenAux f x ∧ (x ≠ 0 → 2 ^ (Lib.bitLenAux f x - 1) ≤ x)
  | 0, x, h => by simp at h; subst h; simp [Lib.bitLenAux]
  | f + 1, x, h => by
    unfold Lib.bitLenAux
    split
    · subst_vars; simp
    · rename_i hx
      obtain ⟨a, b⟩ := bitLenAux_spec f (x / 2) (by rw [Nat.pow_succ] at h; omega)
      refine ⟨by rw [Nat.add_comm, Nat.pow_succ]; omega, fun _ => ?_⟩
      rw [Nat.add_sub_cancel_left]
      by_cases h1 : x / 2 = 0
      · have : Lib.bitLenAux f (x / 2) = 0 := by rw [h1]; cases f <;> simp [Lib.bitLenAux]
        rw [this]; simp; omega
      · have := b h1
        have h0 : 0 < Lib.bitLenAux f (x / 2) := by
          rcases Nat.eq_zero_or_pos (Lib.bitLenAux f (x / 2)) with h0 | h0
          · rw [h0] at a; omega
          · exact h0
        have e : 2 ^ Lib.bitLenAux f (x / 2) = 2 ^ (Lib.bitLenAux f (x / 2) - 1) * 2 := by rw [← Nat.pow_succ]; congr 1; omega
        omega
/-- How far a number is moved up that its first bit of 64 is set. -/
theorem norm_bits (y : Int) (h0 : 0 < y) (h1 : y < 18446744073709551616) : ∃ s : Nat, s < 64 ∧ (64 - (Lib.bitLen y.toNat : Int)) = s ∧ 9223372036854775808 ≤ y * 2 ^ s ∧ y * 2 ^ s < 18446744073709551616 := by
  obtain ⟨n, rfl⟩ := Int.eq_ofNat_of_zero_le (Int.le_of_lt h0)
  obtain ⟨h2, h3⟩ := bitLenAux_spec 64 n (by omega)
  change n < 2 ^ Lib.bitLen n at h2
  change n ≠ 0 → 2 ^ (Lib.bitLen n - 1) ≤ n at h3
  have h3 := h3 (by omega)
  have hb : Lib.bitLen n ≤ 64 := Lib.bitLen_le n 64 (by omega) (by omega)
  have hb1 : 0 < Lib.bitLen n := by
    rcases Nat.eq_zero_or_pos (Lib.bitLen n) with h | h
    · rw [h] at h2; omega
    · exact h
  have h5 : (n : Int) * 2 ^ (64 - Lib.bitLen n) = ((n * 2 ^ (64 - Lib.bitLen n) : Nat) : Int) := by rw [Int.natCast_mul, Int.natCast_pow]; rfl
  have l : 9223372036854775808 ≤ n * 2 ^ (64 - Lib.bitLen n) := by
    have e : 9223372036854775808 = 2 ^ (Lib.bitLen n - 1) * 2 ^ (64 - Lib.bitLen n) := by rw [← Nat.pow_add, show Lib.bitLen n - 1 + (64 - Lib.bitLen n) = 63 by omega]
    rw [e]; exact Nat.mul_le_mul_right _ h3
  have u : n * 2 ^ (64 - Lib.bitLen n) < 18446744073709551616 := by
    have e : 18446744073709551616 = 2 ^ Lib.bitLen n * 2 ^ (64 - Lib.bitLen n) := by rw [← Nat.pow_add, show Lib.bitLen n + (64 - Lib.bitLen n) = 64 by omega]
    rw [e]; exact (Nat.mul_lt_mul_right (Nat.two_pow_pos _)).mpr h2
  refine ⟨64 - Lib.bitLen n, by omega, ?_, ?_, ?_⟩
  · simp only [Int.toNat_natCast]; omega
  · rw [h5]; generalize n * 2 ^ (64 - Lib.bitLen n) = m at *; omega
  · rw [h5]; generalize n * 2 ^ (64 - Lib.bitLen n) = m at *; omega
theorem natPow (s : Nat) : ((2 : Int) ^ s) = ((2 ^ s : Nat) : Int) := by rw [Int.natCast_pow]; rfl
theorem or_join (hi lo : Int) (s : Nat) (h0 : 0 ≤ hi) (h1 : hi * 2 ^ s < 18446744073709551616) (l0 : 0 ≤ lo) (l1 : lo < 18446744073709551616) (hs : s ≤ 64) :
    bits .or .u64 (hi * 2 ^ s) (lo / 2 ^ (64 - s)) = (hi * 18446744073709551616 + lo) * 2 ^ s / 18446744073709551616 := by
  obtain ⟨h, rfl⟩ := Int.eq_ofNat_of_zero_le h0
  obtain ⟨l, rfl⟩ := Int.eq_ofNat_of_zero_le l0
  have e1 : (h : Int) * 2 ^ s = ((h * 2 ^ s : Nat) : Int) := by rw [natPow, Int.natCast_mul]
  have e2 : (l : Int) / 2 ^ (64 - s) = ((l / 2 ^ (64 - s) : Nat) : Int) := by rw [natPow, Int.natCast_ediv]
  have b1 : h * 2 ^ s < 18446744073709551616 := by rw [e1] at h1; omega
  have e64 : 18446744073709551616 = 2 ^ (64 - s) * 2 ^ s := by rw [← Nat.pow_add, show 64 - s + s = 64 by omega]
  have b2 : l / 2 ^ (64 - s) < 2 ^ s := by
    rw [Nat.div_lt_iff_lt_mul (Nat.two_pow_pos _)]
    have : l < 18446744073709551616 := by omega
    rw [e64] at this; rw [Nat.mul_comm]; exact this
  have b3 : l / 2 ^ (64 - s) < 18446744073709551616 := Nat.lt_of_le_of_lt (Nat.div_le_self _ _) (by omega)
  rw [e1, e2, bits_or_u64_nat _ _ b1 b3]
  have e3 : h * 2 ^ s ||| l / 2 ^ (64 - s) = h * 2 ^ s + l / 2 ^ (64 - s) := by
    rw [Nat.mul_comm h, ← Nat.two_pow_add_eq_or_of_lt b2]
  have e4 : l * 2 ^ s / 18446744073709551616 = l / 2 ^ (64 - s) := by
    rw [e64, Nat.mul_div_mul_right _ _ (Nat.two_pow_pos _)]
  rw [e3, ← e4]
  have e5 : ((h : Int) * 18446744073709551616 + l) * 2 ^ s = ((h * 2 ^ s : Nat) : Int) * 18446744073709551616 + ((l * 2 ^ s : Nat) : Int) := by
    rw [natPow, Int.natCast_mul, Int.natCast_mul]; grind
  rw [e5]
  omega
end Go.Proofs.YtmdnnlfoljdfpaaDoor
