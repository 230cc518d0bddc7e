/- Package wide's functions: what each answers, as whole numbers of 128 bits. -/
import Derived.Test.YtkdjfakjnkemiaaDoorBits
import Derived.Test.YtkdjfakjnkemiaaDoorNum
import Derived.Test.YtkdjfakjnkemiaaDoorMath
namespace Go.Proofs.YtkdjfakjnkemiaaDoor
open Go.RowKit

theorem wide_Of (a : Int) (ha : in64 a) (w : World) :
    Calls Tryd.prog 41 #[.int .i64 a] w fun e w' => e = .returned (wv a) ∧ Below w.heap.size w w' := by
  unfold in64 at ha
  obtain ⟨h1, h2⟩ := ha
  go_enter Tryd.func41, Tryd.ntmps41
  go_wp2
  refine bp_ret ⟨?_, ?_, ?_, ?_⟩ rfl; rotate_left
  · simp [results, Tryd.results41, go_sem]; rfl
  rotate_left
  · exact (Below.refl _ _).alloc (Nat.le_refl _) _
  · exact ret_eq (wv_of (by omega) (by rw [IntKind.wrap_u64]))
theorem wide_Mul (a b : Int) (ha : in64 a) (hb : in64 b) (w : World) :
    Calls Tryd.prog 40 #[.int .i64 a, .int .i64 b] w fun e w' => e = .returned (wv (a * b)) ∧ Below w.heap.size w w' := by
  have hm := mul_parts a b
  have hp := mul_in128 ha hb
  unfold in64 at ha hb
  unfold in128 at hp
  obtain ⟨a1, a2⟩ := ha
  obtain ⟨b1, b2⟩ := hb
  have hm' := Lib.hid hm
  have hp' := Lib.hid hp
  clear hm hp
  have wa : IntKind.u64.wrap a = a % 18446744073709551616 := IntKind.wrap_u64 a
  have wb : IntKind.u64.wrap b = b % 18446744073709551616 := IntKind.wrap_u64 b
  go_enter Tryd.func40, Tryd.ntmps40
  go_wp2_with (go_at_call 83; refine (mul64 _ _ (by omega) (by omega) (by omega) (by omega) _).mono ?_; rintro e w' ⟨rfl, rfl⟩)
  all_goals
    refine bp_ret ⟨?_, ?_, ?_, ?_⟩ rfl; rotate_left
    · simp [results, Tryd.results40, go_sem]; rfl
    rotate_left
    · exact (Below.refl _ _).alloc (Nat.le_refl _) _
    ·
      have hm := hm'.out
      have hp := hp'.out
      clear hm' hp' wa wb
      simp only [IntKind.wrap_u64, wrap64]
      generalize a % 18446744073709551616 * (b % 18446744073709551616) = P at *
      refine ret_eq (wv_of ?_ ?_)
      · first
        | (rw [show a / 18446744073709551616 = 0 by omega, show b / 18446744073709551616 = 0 by omega] at hm; omega)
        | (rw [show a / 18446744073709551616 = -1 by omega, show b / 18446744073709551616 = 0 by omega] at hm; omega)
        | (rw [show a / 18446744073709551616 = 0 by omega, show b / 18446744073709551616 = -1 by omega] at hm; omega)
        | (rw [show a / 18446744073709551616 = -1 by omega, show b / 18446744073709551616 = -1 by omega] at hm; omega)
      · generalize (a / 18446744073709551616 * (b % 18446744073709551616) + a % 18446744073709551616 * (b / 18446744073709551616) + a / 18446744073709551616 * (b / 18446744073709551616) * 18446744073709551616) = Q at hm
        omega

/-- A number of 128 bits, if it is one; else an error. -/
def fitW (s : Int) : Value := if in128 s then pairV (wv s) none else pairV (wv 0) (some 2)
theorem fitW_pos {s : Int} (h : in128 s) : fitW s = .tuple #[wv s, .nilIface] := by unfold fitW; rw [if_pos h]; rfl
theorem fitW_neg {s : Int} (h : ¬ in128 s) : fitW s = .tuple #[.agg #[.int .i64 0, .int .u64 0], .iface 122 (.int .i64 2)] := by unfold fitW; rw [if_neg h]; rfl
set_option maxHeartbeats 1000000 in
set_option maxRecDepth 100000 in
theorem wide_Add (x y : Int) (hx : in128 x) (hy : in128 y) (w : World) :
    Calls Tryd.prog 43 #[wv x, wv y] w fun e w' => e = .returned (fitW (x + y)) ∧ Below w.heap.size w w' := by
  obtain ⟨xh, xl, ex, rfl, x1, x2, x3, x4⟩ := wv_open x hx
  obtain ⟨yh, yl, ey, rfl, y1, y2, y3, y4⟩ := wv_open y hy
  rw [ex, ey]
  clear ex ey hx hy
  have f1 := add64 xl yl 0 x3 y3 (by omega) (by omega)
  have f2 := add64 (IntKind.u64.wrap xh) (IntKind.u64.wrap yh) ((xl + yl) / 18446744073709551616) (by rw [IntKind.wrap_u64]; omega) (by rw [IntKind.wrap_u64]; omega) (by omega) (by omega)
  by_cases ha : xh < 0
  all_goals by_cases hb : yh < 0
  all_goals by_cases hc : wrap64 ((IntKind.u64.wrap xh + IntKind.u64.wrap yh + (xl + yl) / 18446744073709551616) % 18446744073709551616) < 0
  all_goals
    try rw [show IntKind.u64.wrap xh = xh by rw [IntKind.wrap_u64]; omega] at f2 hc
    try rw [show IntKind.u64.wrap yh = yh by rw [IntKind.wrap_u64]; omega] at f2 hc
    have hcH := Lib.hid hc
    go_enter Tryd.func43, Tryd.ntmps43
    go_wp2
    refine bp_ret ⟨?_, ?_, ?_, ?_⟩ rfl; rotate_left
    · simp [results, Tryd.results43, go_sem]; rfl
    rotate_left
    · repeat (first | exact Below.refl _ _ | refine Below.alloc ?_ (by first | (simp; done) | (simp; omega)) _ | refine Below.setCell ?_ (by first | (simp; done) | (simp; omega)) _)
    · have hc' := hcH.out
      simp only [IntKind.wrap_u64, wrap64] at hc'
      clear hc hcH f1 f2
      first
      | rw [fitW_neg (by unfold in128; omega)]
      | (rw [fitW_pos (by unfold in128; omega)]
         simp only [IntKind.wrap_u64, wrap64]
         refine ret_eq (congrArg (fun v => Value.tuple #[v, .nilIface]) (wv_of (by omega) (by omega))))
theorem minus_any (x : Int) (hx : in128 x) (hm : -170141183460469231731687303715884105728 < x) (w : World) :
    Calls Tryd.prog 88 #[wv x] w fun e w' => e = .returned (wv (-x)) ∧ Below w.heap.size w w' := by
  obtain ⟨xh, xl, ex, rfl, x1, x2, x3, x4⟩ := wv_open x hx
  rw [ex]
  clear ex hx
  have hmH := Lib.hid hm
  clear hm
  by_cases hz : 0 < xl
  all_goals
    have f1 := sub64 0 xl 0 (by omega) x3 x4 (by omega) (by omega)
    first
    | (have g1 : (if (0 : Int) < xl + 0 then 1 else 0) = (1 : Int) := if_pos (by omega)
       rw [g1] at f1
       clear g1
       obtain ⟨b2, f2⟩ := sub64x 0 (IntKind.u64.wrap xh) 1 (by omega) (by rw [IntKind.wrap_u64]; omega) (by rw [IntKind.wrap_u64]; omega) (by omega) (by omega))
    | (have g1 : (if (0 : Int) < xl + 0 then 1 else 0) = (0 : Int) := if_neg (by omega)
       rw [g1] at f1
       clear g1
       obtain ⟨b2, f2⟩ := sub64x 0 (IntKind.u64.wrap xh) 0 (by omega) (by rw [IntKind.wrap_u64]; omega) (by rw [IntKind.wrap_u64]; omega) (by omega) (by omega))
    go_enter Tryd.func88, Tryd.ntmps88
    go_wp2
    refine bp_ret ⟨?_, ?_, ?_, ?_⟩ rfl; rotate_left
    · simp [results, Tryd.results88, go_sem]; rfl
    rotate_left
    · repeat (first | exact Below.refl _ _ | refine Below.alloc ?_ (by first | (simp; done) | (simp; omega)) _ | refine Below.setCell ?_ (by first | (simp; done) | (simp; omega)) _)
    · have hm := hmH.out
      clear f1 f2
      refine ret_eq (wv_of ?_ ?_)
      · simp only [IntKind.wrap_u64, wrap64]; omega
      · omega
end Go.Proofs.YtkdjfakjnkemiaaDoor
