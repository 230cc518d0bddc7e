/- The statement RatioNear: its plain law. -/
import Derived.Test.YtkdjfakjnkemiaaDoorRatioFit
namespace Go.Proofs.YtkdjfakjnkemiaaDoor
open Go.RowKit

theorem near_le {a b n P : Int} (hb : 0 < b) (hn : 0 ≤ n) (hP : 0 < P) : n * (a * P / b) / P ≤ n * a / b := by
  have hbne : b ≠ 0 := by omega
  have hPne : P ≠ 0 := by omega
  generalize hm : a * P / b = m
  have k1 : m * b ≤ a * P := by rw [← hm]; exact Int.ediv_mul_le _ hbne
  have k2 : n * m / P * P ≤ n * m := Int.ediv_mul_le _ hPne
  refine (Int.le_ediv_iff_mul_le hb).2 ?_
  refine Int.le_of_mul_le_mul_right (a := P) ?_ hP
  have k3 : n * (m * b) ≤ n * (a * P) := Int.mul_le_mul_of_nonneg_left k1 hn
  have k4 : n * m / P * P * b ≤ n * m * b := Int.mul_le_mul_of_nonneg_right k2 (by omega)
  have e1 : n * m / P * b * P = n * m / P * P * b := Int.mul_right_comm _ _ _
  have e2 : n * a * P = n * (a * P) := Int.mul_assoc _ _ _
  have e3 : n * m * b = n * (m * b) := Int.mul_assoc _ _ _
  rw [e1, e2]; rw [e3] at k4; omega

theorem near_off {a b n P : Int} (hb : 0 < b) (hn : 0 ≤ n) (hP : 0 < P) : n * a / b - n * (a * P / b) / P ≤ n / P + 1 := by
  generalize hm : a * P / b = m
  generalize hq : n * m / P = q
  generalize hr : n / P = r
  have k1 : a * P < (m + 1) * b := by rw [← hm]; exact Int.lt_ediv_add_one_mul_self _ hb
  have k2 : n * m < (q + 1) * P := by rw [← hq]; exact Int.lt_ediv_add_one_mul_self _ hP
  have k3 : n < (r + 1) * P := by rw [← hr]; exact Int.lt_ediv_add_one_mul_self _ hP
  have k : n * a / b < q + r + 2 := by
    refine (Int.ediv_lt_iff_lt_mul hb).2 ?_
    refine Int.lt_of_mul_lt_mul_right (a := P) ?_ (by omega)
    have j1 : n * (a * P) ≤ n * ((m + 1) * b) := Int.mul_le_mul_of_nonneg_left (by omega) hn
    have j2 : (n * m + n) * b < ((q + 1) * P + (r + 1) * P) * b := Int.mul_lt_mul_of_pos_right (by omega) hb
    have e1 : n * ((m + 1) * b) = (n * m + n) * b := by rw [← Int.mul_assoc, Int.mul_add, Int.mul_one]
    have e2 : ((q + 1) * P + (r + 1) * P) * b = (q + r + 2) * b * P := by
      rw [← Int.add_mul, Int.mul_right_comm, show q + 1 + (r + 1) = q + r + 2 by omega]
    have e3 : n * a * P = n * (a * P) := Int.mul_assoc _ _ _
    rw [e3, ← e2]; omega
  omega

theorem near_mono {m n0 n1 P : Int} (hm : 0 ≤ m) (h : n0 ≤ n1) (hP : 0 < P) : n0 * m / P ≤ n1 * m / P :=
  Int.ediv_le_ediv hP (Int.mul_le_mul_of_nonneg_right h hm)

/-- What a found factor is. -/
theorem fitS_some {a b : Int} : ∀ {s : Nat} {m : Int} {t : Nat}, fitS a b s = some (m, t) → m = fitN a b t ∧ m ≠ 0 ∧ m < 4294967296 ∧ t ≤ s
  | 0, m, t, h => by
    unfold fitS at h
    split at h
    · split at h
      · cases h
      · rename_i h1 h0; cases h; exact ⟨rfl, h0, h1, Nat.le_refl _⟩
    · cases h
  | s + 1, m, t, h => by
    unfold fitS at h
    split at h
    · split at h
      · cases h
      · rename_i h1 h0; cases h; exact ⟨rfl, h0, h1, Nat.le_refl _⟩
    · obtain ⟨h1, h2, h3, h4⟩ := fitS_some h; exact ⟨h1, h2, h3, by omega⟩
end Go.Proofs.YtkdjfakjnkemiaaDoor
