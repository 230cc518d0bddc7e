/- The mirror's given functions at this program: math/bits.Add64, Sub64; errors.As. -/
import Derived.Test.YtmdnnlfoljdfpaaDoorMirX
import Derived.Test.YtmdnnlfoljdfpaaDoorAs
import Derived.Test.YtmdnnlfoljdfpaaDoorBits
import Derived.Test.YtmdnnlfoljdfpaaDoorDiv64
namespace Go.Proofs.YtmdnnlfoljdfpaaDoor.Mir
open Go Go.RowKit
set_option maxRecDepth 100000

def laidL : List (Nat × Nat × Value) := [(0, 0, .iface 188 (.agg #[.pointer (some ⟨6, 32, none⟩)]))]
theorem laidW_of {w : World} (h : ∀ q ∈ laidL, w.cell? ⟨q.1, q.2.1, none⟩ = some q.2.2) : LaidW w := by
  have := h (0, 0, .iface 188 (.agg #[.pointer (some ⟨6, 32, none⟩)])) (List.mem_singleton.2 rfl)
  exact this
def asS : Sum := asSum 95 99
set_option maxHeartbeats 2000000 in
theorem asS_ok : SumOk Tryd.prog laidL 47 asS := by
  refine as_ok Tryd.func47 (by kernel_rfl) (by kernel_rfl) (fun t w => as_nil t w) (fun n t old w hl ht hf => (as_hit n t old w (laidW_of hl) ht hf).mono ?_)
  rintro e w' ⟨rfl, rfl⟩
  exact ⟨rfl, _, by repeat (first | exact Below.refl _ _ | refine Below.alloc ?_ (by first | (simp; done) | (simp; omega)) _), rfl⟩
def u64B (x : Int) : Bool := decide (0 ≤ x ∧ x < 18446744073709551616)
theorem u64B_iff {x : Int} : u64B x = true ↔ 0 ≤ x ∧ x < 18446744073709551616 := by simp [u64B]
def divF (h l y : Int) : Option (TAs [.one (.d (.int .u64)), .one (.d (.int .u64))]) := bif decide (0 ≤ h ∧ h < y) && (u64B l && u64B y) then some ((h * 18446744073709551616 + l) / y, (h * 18446744073709551616 + l) % y) else none
def divS : Sum := fnSum 3 0 2 [.one (.d (.int .u64)), .one (.d (.int .u64)), .one (.d (.int .u64))] [.one (.d (.int .u64)), .one (.d (.int .u64))] (fun p => divF p.1 p.2.1 p.2.2)
theorem divS_ok : SumOk Tryd.prog laidL 116 divS := by
  refine bridge rfl (fun _ => rfl) ?_
  rintro ⟨x, y, c⟩ r h g w vs _ ⟨_, _, rfl, hx, _, _, rfl, hy, _, _, rfl, hc, rfl⟩
  simp only [divF] at h
  cases hk : (decide (0 ≤ x ∧ x < c) && (u64B y && u64B c)) with
  | false => rw [hk] at h; cases h
  | true =>
    rw [hk] at h
    obtain rfl := Option.some.inj h
    simp only [Bool.and_eq_true, u64B_iff, decide_eq_true_eq] at hk
    cases hx; cases hy; cases hc
    refine invokes_of_calls Tryd.func116 (by kernel_rfl) (by kernel_rfl) ((div64 x y c hk.1.1 hk.1.2 hk.2.2.2 hk.2.1.1 hk.2.1.2 w).mono ?_)
    rintro e w' ⟨rfl, hw⟩
    exact ⟨_, rfl, ⟨_, rfl, ⟨_, _, rfl, rfl, ⟨_, _, rfl, rfl, rfl⟩⟩⟩, hw⟩
end Go.Proofs.YtmdnnlfoljdfpaaDoor.Mir
