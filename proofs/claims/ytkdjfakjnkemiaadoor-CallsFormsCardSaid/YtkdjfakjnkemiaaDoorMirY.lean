/- The mirror's given functions at this program: math/bits.Add64, Sub64; errors.As. -/
import Derived.Test.YtkdjfakjnkemiaaDoorMirX
import Derived.Test.YtkdjfakjnkemiaaDoorAs
import Derived.Test.YtkdjfakjnkemiaaDoorBits
import Derived.Test.YtkdjfakjnkemiaaDoorDiv64
namespace Go.Proofs.YtkdjfakjnkemiaaDoor.Mir
open Go Go.RowKit
set_option maxRecDepth 100000

def laidL : List (Nat × Nat × Value) := [(0, 0, .iface 185 (.agg #[.pointer (some ⟨3, 38, none⟩)]))]
theorem laidW_of {w : World} (h : ∀ q ∈ laidL, w.cell? ⟨q.1, q.2.1, none⟩ = some q.2.2) : LaidW w := by
  have := h (0, 0, .iface 185 (.agg #[.pointer (some ⟨3, 38, none⟩)])) (List.mem_singleton.2 rfl)
  exact this
def asS : Sum := asSum 122 144
set_option maxHeartbeats 2000000 in
theorem asS_ok : SumOk Tryd.prog laidL 76 asS := by
  refine as_ok Tryd.func76 (by kernel_rfl) (by kernel_rfl) (fun t w => as_nil t w) (fun n t old w hl ht hf => (as_hit n t old w (laidW_of hl) ht hf).mono ?_)
  rintro e w' ⟨rfl, rfl⟩
  exact ⟨rfl, _, by repeat (first | exact Below.refl _ _ | refine Below.alloc ?_ (by first | (simp; done) | (simp; omega)) _), rfl⟩
def u64B (x : Int) : Bool := decide (0 ≤ x ∧ x < 18446744073709551616)
theorem u64B_iff {x : Int} : u64B x = true ↔ 0 ≤ x ∧ x < 18446744073709551616 := by simp [u64B]
def addF (x y c : Int) : Option (TAs [.one (.d (.int .u64)), .one (.d (.int .u64))]) := bif u64B x && (u64B y && decide (0 ≤ c ∧ c ≤ 1)) then some ((x + y + c) % 18446744073709551616, (x + y + c) / 18446744073709551616) else none
def addS : Sum := fnSum 3 0 2 [.one (.d (.int .u64)), .one (.d (.int .u64)), .one (.d (.int .u64))] [.one (.d (.int .u64)), .one (.d (.int .u64))] (fun p => addF p.1 p.2.1 p.2.2)
theorem addS_ok : SumOk Tryd.prog laidL 84 addS := by
  refine bridge rfl (fun _ => rfl) ?_
  rintro ⟨x, y, c⟩ r h g w vs _ ⟨_, _, rfl, hx, _, _, rfl, hy, _, _, rfl, hc, rfl⟩
  simp only [addF] at h
  cases hk : (u64B x && (u64B y && decide (0 ≤ c ∧ c ≤ 1))) with
  | false => rw [hk] at h; cases h
  | true =>
    rw [hk] at h
    obtain rfl := Option.some.inj h
    simp only [Bool.and_eq_true, u64B_iff, decide_eq_true_eq] at hk
    cases hx; cases hy; cases hc
    exact invokes_of_run (add64 x y c hk.1.1 hk.2.1.1 hk.2.2.1 hk.2.2.2 w) ⟨⟨_, rfl, ⟨_, _, rfl, rfl, ⟨_, _, rfl, rfl, rfl⟩⟩⟩, Below.refl _ _⟩
def subF (x y c : Int) : Option (TAs [.one (.d (.int .u64)), .one (.d (.int .u64))]) := bif u64B x && (u64B y && decide (0 ≤ c ∧ c ≤ 1)) then some ((x - y - c) % 18446744073709551616, if x < y + c then 1 else 0) else none
def subS : Sum := fnSum 3 0 2 [.one (.d (.int .u64)), .one (.d (.int .u64)), .one (.d (.int .u64))] [.one (.d (.int .u64)), .one (.d (.int .u64))] (fun p => subF p.1 p.2.1 p.2.2)
theorem subS_ok : SumOk Tryd.prog laidL 101 subS := by
  refine bridge rfl (fun _ => rfl) ?_
  rintro ⟨x, y, c⟩ r h g w vs _ ⟨_, _, rfl, hx, _, _, rfl, hy, _, _, rfl, hc, rfl⟩
  simp only [subF] at h
  cases hk : (u64B x && (u64B y && decide (0 ≤ c ∧ c ≤ 1))) with
  | false => rw [hk] at h; cases h
  | true =>
    rw [hk] at h
    obtain rfl := Option.some.inj h
    simp only [Bool.and_eq_true, u64B_iff, decide_eq_true_eq] at hk
    cases hx; cases hy; cases hc
    exact invokes_of_run (sub64 x y c hk.1.1 hk.2.1.1 hk.2.1.2 hk.2.2.1 hk.2.2.2 w) ⟨⟨_, rfl, ⟨_, _, rfl, rfl, ⟨_, _, rfl, rfl, rfl⟩⟩⟩, Below.refl _ _⟩
def divF (h l y : Int) : Option (TAs [.one (.d (.int .u64)), .one (.d (.int .u64))]) := bif decide (0 ≤ h ∧ h < y) && (u64B l && u64B y) then some ((h * 18446744073709551616 + l) / y, (h * 18446744073709551616 + l) % y) else none
def divS : Sum := fnSum 3 0 2 [.one (.d (.int .u64)), .one (.d (.int .u64)), .one (.d (.int .u64))] [.one (.d (.int .u64)), .one (.d (.int .u64))] (fun p => divF p.1 p.2.1 p.2.2)
theorem divS_ok : SumOk Tryd.prog laidL 79 divS := by
  refine bridge rfl (fun _ => rfl) ?_
  rintro ⟨x, y, c⟩ r h g w vs _ ⟨_, _, rfl, hx, _, _, rfl, hy, _, _, rfl, hc, rfl⟩
  simp only [divF] at h
  cases hk : (decide (0 ≤ x ∧ x < c) && (u64B y && u64B c)) with
  | false => rw [hk] at h; cases h
  | true =>
    rw [hk] at h
    obtain rfl := Option.some.inj h
    simp only [Bool.and_eq_true, u64B_iff, decide_eq_true_eq] at hk
    cases hx; cases hy; cases hc
    refine invokes_of_calls Tryd.func79 (by kernel_rfl) (by kernel_rfl) ((div64 x y c hk.1.1 hk.1.2 hk.2.2.2 hk.2.1.1 hk.2.1.2 w).mono ?_)
    rintro e w' ⟨rfl, hw⟩
    exact ⟨_, rfl, ⟨_, rfl, ⟨_, _, rfl, rfl, ⟨_, _, rfl, rfl, rfl⟩⟩⟩, hw⟩
end Go.Proofs.YtkdjfakjnkemiaaDoor.Mir
