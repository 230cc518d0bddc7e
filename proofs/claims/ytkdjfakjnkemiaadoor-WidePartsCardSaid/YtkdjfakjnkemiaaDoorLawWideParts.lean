/- The statement WideParts: both walks joined. -/
import Derived.Test.YtkdjfakjnkemiaaDoorPartsIn
import Derived.Test.YtkdjfakjnkemiaaDoorPartsOut
namespace Go.Proofs.YtkdjfakjnkemiaaDoor
open Go.RowKit

theorem law_WideParts_row (h l n d : Int) (w : World) (hL : LaidW w) (hh : (Lit.int .i64 h).wf = true) (hl : (Lit.int .u64 l).wf = true) (hn : (Lit.int .i64 n).wf = true) (hd : (Lit.int .i64 d).wf = true) :
    Calls Tryd.prog 5 #[.agg #[.int .i64 h, .int .u64 l], .int .i64 n, .int .i64 d] w fun e w' => e = .returned (.bool true) ∧ Below w.heap.size w w' := by
  have h1 := wf_i64 hh
  obtain ⟨l0, l1⟩ := wf_u64 hl
  unfold in64 at h1
  have e : Value.agg #[.int .i64 h, .int .u64 l] = wv (h * 18446744073709551616 + l) := wv_of (by omega) (by omega)
  rw [e]
  have hv : in128 (h * 18446744073709551616 + l) := by unfold in128; omega
  by_cases hr : 0 ≤ n ∧ n < 128
  · exact law_WideParts_in _ n d hv (wf_i64 hn) (wf_i64 hd) hr w hL
  · exact law_WideParts_out _ n d hv (wf_i64 hn) (wf_i64 hd) hr w hL
end Go.Proofs.YtkdjfakjnkemiaaDoor
