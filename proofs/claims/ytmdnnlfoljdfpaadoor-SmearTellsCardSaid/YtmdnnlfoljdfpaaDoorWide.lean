/- Package wide's functions: what each answers, as whole numbers of 128 bits. -/
import Derived.Test.YtmdnnlfoljdfpaaDoorBits
import Derived.Test.YtmdnnlfoljdfpaaDoorNum
import Derived.Test.YtmdnnlfoljdfpaaDoorMath
namespace Go.Proofs.YtmdnnlfoljdfpaaDoor
open Go.RowKit

theorem wide_Of (a : Int) (ha : in64 a) (w : World) :
    Calls Tryd.prog 118 #[.int .i64 a] w fun e w' => e = .returned (wv a) ∧ Below w.heap.size w w' := by
  unfold in64 at ha
  obtain ⟨h1, h2⟩ := ha
  go_enter Tryd.func118, Tryd.ntmps118
  go_wp2
  refine bp_ret ⟨?_, ?_, ?_, ?_⟩ rfl; rotate_left
  · simp [results, Tryd.results118, go_sem]; rfl
  rotate_left
  · exact (Below.refl _ _).alloc (Nat.le_refl _) _
  · exact ret_eq (wv_of (by omega) (by rw [IntKind.wrap_u64]))
theorem wide_Mul (a b : Int) (ha : in64 a) (hb : in64 b) (w : World) :
    Calls Tryd.prog 90 #[.int .i64 a, .int .i64 b] w fun e w' => e = .returned (wv (a * b)) ∧ Below w.heap.size w w' := by
  have hm := mul_parts a b
  have hp := mul_in128 ha hb
  unfold in64 at ha hb
  unfold in128 at hp
  obtain ⟨a1, a2⟩ := ha
  obtain ⟨b1, b2⟩ := hb
  have hm' := Lib.hid hm
  have hp' := Lib.hid hp
  clear hm hp
  have wa : IntKind.u64.wrap a = a % 18446744073709551616 := IntKind.wrap_u64 a
  have wb : IntKind.u64.wrap b = b % 18446744073709551616 := IntKind.wrap_u64 b
  go_enter Tryd.func90, Tryd.ntmps90
  go_wp2_with (go_at_call 117; refine (mul64 _ _ (by omega) (by omega) (by omega) (by omega) _).mono ?_; rintro e w' ⟨rfl, rfl⟩)
  all_goals
    refine bp_ret ⟨?_, ?_, ?_, ?_⟩ rfl; rotate_left
    · simp [results, Tryd.results90, go_sem]; rfl
    rotate_left
    · exact (Below.refl _ _).alloc (Nat.le_refl _) _
    ·
      have hm := hm'.out
      have hp := hp'.out
      clear hm' hp' wa wb
      simp only [IntKind.wrap_u64, wrap64]
      generalize a % 18446744073709551616 * (b % 18446744073709551616) = P at *
      refine ret_eq (wv_of ?_ ?_)
      · first
        | (rw [show a / 18446744073709551616 = 0 by omega, show b / 18446744073709551616 = 0 by omega] at hm; omega)
        | (rw [show a / 18446744073709551616 = -1 by omega, show b / 18446744073709551616 = 0 by omega] at hm; omega)
        | (rw [show a / 18446744073709551616 = 0 by omega, show b / 18446744073709551616 = -1 by omega] at hm; omega)
        | (rw [show a / 18446744073709551616 = -1 by omega, show b / 18446744073709551616 = -1 by omega] at hm; omega)
      · generalize (a / 18446744073709551616 * (b % 18446744073709551616) + a % 18446744073709551616 * (b / 18446744073709551616) + a / 18446744073709551616 * (b / 18446744073709551616) * 18446744073709551616) = Q at hm
        omega

/-- A number of 128 bits, if it is one; else an error. -/
def fitW (s : Int) : Value := if in128 s then pairV (wv s) none else pairV (wv 0) (some 2)
theorem fitW_pos {s : Int} (h : in128 s) : fitW s = .tuple #[wv s, .nilIface] := by unfold fitW; rw [if_pos h]; rfl
theorem fitW_neg {s : Int} (h : ¬ in128 s) : fitW s = .tuple #[.agg #[.int .i64 0, .int .u64 0], .iface 95 (.int .i64 2)] := by unfold fitW; rw [if_neg h]; rfl
end Go.Proofs.YtmdnnlfoljdfpaaDoor
