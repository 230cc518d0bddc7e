/- Package wide's functions, more: Cmp, Shr, Int. -/
import Derived.Test.YtmdnnlfoljdfpaaDoorWide2
import Derived.Deep.RegionHeld3
namespace Go.Proofs.YtmdnnlfoljdfpaaDoor
open Go.RowKit

def cmpZ (a b : Int) : Int := if a < b then -1 else if b < a then 1 else 0
theorem cmpZ_lt {a b : Int} (h : a < b) : cmpZ a b = -1 := by unfold cmpZ; rw [if_pos h]
theorem cmpZ_gt {a b : Int} (h : b < a) : cmpZ a b = 1 := by unfold cmpZ; rw [if_neg (by omega), if_pos h]
theorem cmpZ_eq {a b : Int} (h : a = b) : cmpZ a b = 0 := by unfold cmpZ; rw [if_neg (by omega), if_neg (by omega)]
theorem isNaN_i64 (x : Int) (w : World) : Calls Tryd.prog 108 #[.int .i64 x] w fun e w' => e = .returned (.bool false) ∧ w = w' := by
  go_enter Tryd.func108, Tryd.ntmps108
  go_wp2
  go_ret
  exact ⟨rfl, rfl⟩
theorem compare_i64 (x y : Int) (w : World) : Calls Tryd.prog 83 #[.int .i64 x, .int .i64 y] w fun e w' => e = .returned (.int .i64 (cmpZ x y)) ∧ w = w' := by
  rcases Int.lt_trichotomy x y with h | h | h
  · rw [cmpZ_lt h]
    go_enter Tryd.func83, Tryd.ntmps83
    go_wp2_with (go_at_call 108; refine (isNaN_i64 _ _).mono ?_; rintro e w' ⟨rfl, rfl⟩)
    go_ret
    exact ⟨rfl, rfl⟩
  · rw [cmpZ_eq h]
    subst h
    go_enter Tryd.func83, Tryd.ntmps83
    go_wp2_with (go_at_call 108; refine (isNaN_i64 _ _).mono ?_; rintro e w' ⟨rfl, rfl⟩)
    go_ret
    exact ⟨rfl, rfl⟩
  · rw [cmpZ_gt h]
    have h' : ¬ x < y := by omega
    go_enter Tryd.func83, Tryd.ntmps83
    go_wp2_with (go_at_call 108; refine (isNaN_i64 _ _).mono ?_; rintro e w' ⟨rfl, rfl⟩)
    go_ret
    exact ⟨rfl, rfl⟩
theorem i64_wrap64 (x : Int) : IntKind.i64.wrap x = wrap64 x := by
  simp [IntKind.wrap, IntKind.bits, IntKind.signed, wrap64]
  split <;> omega
theorem in64_wrap (x : Int) : in64 (IntKind.i64.wrap x) := by
  rw [i64_wrap64]; unfold in64 wrap64; omega
/-- A wide number as a number, if it is one; else an error. -/
def fitI (s : Int) : Value := if in64 s then pairV (.int .i64 s) none else pairV (.int .i64 0) (some 2)
theorem fitI_pos {s : Int} (h : in64 s) : fitI s = .tuple #[.int .i64 s, .nilIface] := by unfold fitI; rw [if_pos h]; rfl
theorem fitI_neg {s : Int} (h : ¬ in64 s) : fitI s = .tuple #[.int .i64 0, .iface 95 (.int .i64 2)] := by unfold fitI; rw [if_neg h]; rfl
set_option maxRecDepth 100000 in
theorem wide_Int (x : Int) (hx : in128 x) (w : World) :
    Calls Tryd.prog 91 #[wv x] w fun e w' => e = .returned (fitI x) ∧ Below w.heap.size w w' := by
  obtain ⟨xh, xl, ex, rfl, x1, x2, x3, x4⟩ := wv_open x hx
  rw [ex]
  clear ex hx
  obtain ⟨qh, hq, hOf⟩ : ∃ qh : Int, Hid (qh = IntKind.i64.wrap xl / 18446744073709551616) ∧ ∀ w, Calls Tryd.prog 118 #[.int .i64 (IntKind.i64.wrap xl)] w fun e w' => e = .returned (.agg #[.int .i64 qh, .int .u64 xl]) ∧ Below w.heap.size w w' := by
    refine ⟨_, Lib.hid rfl, fun w => ?_⟩
    have h := wide_Of _ (in64_wrap xl) w
    have e : wv (IntKind.i64.wrap xl) = .agg #[.int .i64 (IntKind.i64.wrap xl / 18446744073709551616), .int .u64 xl] := by
      refine (wv_of rfl ?_).symm
      rw [i64_wrap64]; unfold wrap64; omega
    rw [e] at h
    exact h
  have hB := Lib.hid (And.intro (And.intro x1 x2) (And.intro x3 x4))
  have hOfH := Lib.hid hOf
  clear hOf x1 x2 x3 x4
  by_cases hd : qh = xh
  · subst hd
    go_enter Tryd.func91, Tryd.ntmps91
    go_wp2_with fail
    go_region_held3 (fun w' => w'.cell? ⟨w.heap.size, 0, none⟩ = some (.int .i64 qh) ∧ w'.cell? ⟨w.heap.size, 1, none⟩ = some (.int .u64 xl))
      (first
        | go_keep
        | (go_split_ands
           refine ⟨?_, ?_⟩
           · (rw [hb.cell (by simp)]; assumption)
           · (rw [hb.cell (by simp)]; assumption)))
      ((go_at_call 118; refine (hOfH.out _).mono ?_; rintro e w1 ⟨rfl, hb⟩))
    go_wp2
    refine bp_ret ⟨?_, ?_, ?_, ?_⟩ rfl; rotate_left
    · (simp [results, Tryd.results91, go_sem, *]; rfl)
    rotate_left
    · repeat (first | exact Below.refl _ _ | assumption | (refine Below.alloc ?_ (by first | omega | (simp; done) | (simp; omega) | (simp at *; omega)) _) | (refine Below.setCell ?_ (by first | omega | (simp; done) | (simp; omega) | (simp at *; omega)) _) | (refine Below.trans ?_ (below_drewN _ _ _)) | (refine Below.drew ?_) | (refine Below.trans ?_ (Below.mono (by assumption) (by first | omega | (simp; done) | (simp; omega) | (simp at *; omega)))))
    · have hq := hq.out
      obtain ⟨⟨x1, x2⟩, x3, x4⟩ := hB.out
      simp only [i64_wrap64, wrap64] at hq ⊢
      rw [fitI_pos (by unfold in64; omega)]
      refine ret_eq (congrArg (fun v => Value.tuple #[Value.int .i64 v, .nilIface]) (by omega))
  · have hd' : (qh == xh) = false := by simpa using hd
    go_enter Tryd.func91, Tryd.ntmps91
    go_wp2_with fail
    go_region_held3 (fun w' => w'.cell? ⟨w.heap.size, 0, none⟩ = some (.int .i64 xh) ∧ w'.cell? ⟨w.heap.size, 1, none⟩ = some (.int .u64 xl))
      (first
        | go_keep
        | (go_split_ands
           refine ⟨?_, ?_⟩
           · (rw [hb.cell (by simp)]; assumption)
           · (rw [hb.cell (by simp)]; assumption)))
      ((go_at_call 118; refine (hOfH.out _).mono ?_; rintro e w1 ⟨rfl, hb⟩))
    go_wp2
    refine bp_ret ⟨?_, ?_, ?_, ?_⟩ rfl; rotate_left
    · (simp [results, Tryd.results91, go_sem, *]; rfl)
    rotate_left
    · repeat (first | exact Below.refl _ _ | assumption | (refine Below.alloc ?_ (by first | omega | (simp; done) | (simp; omega) | (simp at *; omega)) _) | (refine Below.setCell ?_ (by first | omega | (simp; done) | (simp; omega) | (simp at *; omega)) _) | (refine Below.trans ?_ (below_drewN _ _ _)) | (refine Below.drew ?_) | (refine Below.trans ?_ (Below.mono (by assumption) (by first | omega | (simp; done) | (simp; omega) | (simp at *; omega)))))
    · have hq := hq.out
      obtain ⟨⟨x1, x2⟩, x3, x4⟩ := hB.out
      simp only [i64_wrap64, wrap64] at hq
      rw [fitI_neg (by unfold in64; omega)]
theorem shr_high (h l : Int) (n : Nat) (h1 : 64 ≤ n) (_x1 : -9223372036854775808 ≤ h) (_x2 : h < 9223372036854775808) (x3 : 0 ≤ l) (x4 : l < 18446744073709551616) :
    (h * 18446744073709551616 + l) / 2 ^ n = h / 2 ^ (n - 64) := by
  have e : (2 : Int) ^ n = 18446744073709551616 * 2 ^ (n - 64) := by
    have : (2 : Int) ^ n = 2 ^ 64 * 2 ^ (n - 64) := by rw [← Int.pow_add]; congr 1; omega
    rw [this]; rfl
  rw [e, ← Int.ediv_ediv_of_nonneg (by omega)]
  congr 1
  omega
theorem shr_top {h : Int} {n : Nat} (x1 : -9223372036854775808 ≤ h) (x2 : h < 9223372036854775808) : h / 9223372036854775808 = h / 2 ^ (n - 64) / 18446744073709551616 := by
  have hp : (0 : Int) < 2 ^ (n - 64) := by rw [natPow]; have := Nat.two_pow_pos (n - 64); omega
  rcases Int.lt_or_le h 0 with hn | hn
  · have a : h / 2 ^ (n - 64) < 0 := Int.ediv_neg_of_neg_of_pos hn hp
    have b : h ≤ h / 2 ^ (n - 64) := by
      refine Int.le_ediv_of_mul_le hp ?_
      have : (2 : Int) ^ (n - 64) = 1 + (2 ^ (n - 64) - 1) := by omega
      rw [this, Int.mul_add, Int.mul_one]
      have := Int.mul_nonneg (a := -h) (b := 2 ^ (n - 64) - 1) (by omega) (by omega)
      rw [Int.neg_mul] at this
      omega
    omega
  · have a : 0 ≤ h / 2 ^ (n - 64) := Int.ediv_nonneg hn (by omega)
    have b : h / 2 ^ (n - 64) ≤ h := Int.ediv_le_self _ hn
    omega
theorem or_disj (r t : Int) (k : Nat) (hr : 0 ≤ r) (ht : 0 ≤ t) (h : t < 2 ^ k) (hb : 2 ^ k * r + t < 18446744073709551616) : bits .or .u64 t (2 ^ k * r) = 2 ^ k * r + t := by
  obtain ⟨r, rfl⟩ := Int.eq_ofNat_of_zero_le hr
  obtain ⟨t, rfl⟩ := Int.eq_ofNat_of_zero_le ht
  have h' : t < 2 ^ k := by rw [natPow] at h; omega
  have c1 : (2 : Int) ^ k * r = ((2 ^ k * r : Nat) : Int) := by rw [natPow, Int.natCast_mul]
  rw [c1] at hb ⊢
  have e := Nat.two_pow_add_eq_or_of_lt h' r
  generalize 2 ^ k * r = m at *
  rw [bits_or_u64_nat _ _ (by omega) (by omega), Nat.or_comm, ← e]
  omega
theorem emod_mul_emod' (a b M : Int) : a % M * b % M = a * b % M := by
  have h := Int.mul_ediv_add_emod a M
  generalize a % M = r at *
  generalize a / M = q at *
  subst h
  have : (M * q + r) * b = r * b + M * (q * b) := by grind
  rw [this, Int.add_mul_emod_self_left]
theorem shr_low (h l : Int) (n : Nat) (hn : n < 64) (x3 : 0 ≤ l) (x4 : l < 18446744073709551616) :
    h / 2 ^ n = (h * 18446744073709551616 + l) / 2 ^ n / 18446744073709551616 ∧
    bits .or .u64 (l / 2 ^ n) (IntKind.u64.wrap (IntKind.u64.wrap h * 2 ^ (64 - n))) = (h * 18446744073709551616 + l) / 2 ^ n % 18446744073709551616 := by
  have hP : (0 : Int) < 2 ^ n := by rw [natPow]; have := Nat.two_pow_pos n; omega
  have hR : (0 : Int) < 2 ^ (64 - n) := by rw [natPow]; have := Nat.two_pow_pos (64 - n); omega
  have e64 : (18446744073709551616 : Int) = 2 ^ (64 - n) * 2 ^ n := by
    have : (2 : Int) ^ (64 - n) * 2 ^ n = 2 ^ 64 := by rw [← Int.pow_add]; congr 1; omega
    rw [this]; rfl
  have e1 : (h * 18446744073709551616 + l) / 2 ^ n = h * 2 ^ (64 - n) + l / 2 ^ n := by
    have : h * 18446744073709551616 + l = l + h * 2 ^ (64 - n) * 2 ^ n := by rw [e64]; grind
    rw [this, Int.add_mul_ediv_right _ _ (by omega)]; omega
  have t0 : 0 ≤ l / 2 ^ n := Int.ediv_nonneg x3 (by omega)
  have t1 : l / 2 ^ n < 2 ^ (64 - n) := Int.ediv_lt_of_lt_mul hP (by rw [← e64]; exact x4)
  have m1 := Int.mul_ediv_add_emod h (2 ^ n)
  have m2 := Int.emod_nonneg h (b := 2 ^ n) (by omega)
  have m3 := Int.emod_lt_of_pos h hP
  have e2 : h * 2 ^ (64 - n) + l / 2 ^ n = (2 ^ (64 - n) * (h % 2 ^ n) + l / 2 ^ n) + 18446744073709551616 * (h / 2 ^ n) := by
    rw [e64]; generalize (2 : Int) ^ (64 - n) = R at *; generalize (2 : Int) ^ n = P at *; generalize h / P = q at *; generalize h % P = r at *; subst m1; grind
  have b1 : 2 ^ (64 - n) * (h % 2 ^ n) + l / 2 ^ n < 18446744073709551616 := by
    have := Int.mul_le_mul_of_nonneg_left (show h % 2 ^ n ≤ 2 ^ n - 1 by omega) (show (0 : Int) ≤ 2 ^ (64 - n) by omega)
    rw [Int.mul_sub, ← e64] at this; omega
  have b0 : 0 ≤ 2 ^ (64 - n) * (h % 2 ^ n) := Int.mul_nonneg (by omega) m2
  have w1 : IntKind.u64.wrap (IntKind.u64.wrap h * 2 ^ (64 - n)) = 2 ^ (64 - n) * (h % 2 ^ n) := by
    rw [IntKind.wrap_u64, IntKind.wrap_u64, emod_mul_emod']
    have : h * 2 ^ (64 - n) = 2 ^ (64 - n) * (h % 2 ^ n) + 18446744073709551616 * (h / 2 ^ n) := by omega
    rw [this, Int.add_mul_emod_self_left]
    exact Int.emod_eq_of_lt b0 (by omega)
  refine ⟨?_, ?_⟩
  · rw [e1, e2, Int.add_mul_ediv_left _ _ (by omega), Int.ediv_eq_zero_of_lt (by omega) b1]; omega
  · rw [w1, e1, e2, Int.add_mul_emod_self_left, Int.emod_eq_of_lt (by omega) b1]
    exact or_disj _ _ _ m2 t0 t1 b1

/-- A number by a power of two. -/
def shrR (x n : Int) : Value := if 0 ≤ n ∧ n < 128 then pairV (wv (x / 2 ^ n.toNat)) none else pairV (wv 0) (some 1)
theorem shrR_pos {x n : Int} (h0 : 0 ≤ n) (h : n < 128) : shrR x n = .tuple #[wv (x / 2 ^ n.toNat), .nilIface] := by unfold shrR; rw [if_pos ⟨h0, h⟩]; rfl
theorem shrR_neg {x n : Int} (h : ¬ (0 ≤ n ∧ n < 128)) : shrR x n = .tuple #[.agg #[.int .i64 0, .int .u64 0], .iface 95 (.int .i64 1)] := by unfold shrR; rw [if_neg h]; rfl
end Go.Proofs.YtmdnnlfoljdfpaaDoor
