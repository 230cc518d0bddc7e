/- One operation of a walk in the order of the text: passed over, or run. -/
import Derived.Test.YtkdjfakjnkemiaaDoorSure03
import Derived.StillTailTactics
namespace Go.Proofs.YtkdjfakjnkemiaaDoor
open Go.RowKit

theorem wpStill_pass {P : Program} {ops : Array Oper} {w : World} {Q : Act → Prop} {a : Act} {o : Oper} {rest : List Oper} (hw : Region.wanted o (yielded ops a.tmps) = false)
    (h : ∀ K : Act → Prop, (∀ a, wpStill P ops w Q rest a → K a) → K (a.put o.dst undef)) : wpStill P ops w Q (o :: rest) a :=
  wpStill_step fun K hK => by rw [if_neg (by rw [hw]; exact Bool.false_ne_true)]; exact h K hK
end Go.Proofs.YtkdjfakjnkemiaaDoor
