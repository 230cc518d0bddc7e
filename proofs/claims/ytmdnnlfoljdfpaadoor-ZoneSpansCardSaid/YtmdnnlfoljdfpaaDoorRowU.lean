/- As the text Row, for rows that list the tables of unicode/utf8 too. -/
import Derived.Test.YtmdnnlfoljdfpaaDoorRow
import Derived.Lay
import Derived.LaidSub
namespace Go.Proofs.YtmdnnlfoljdfpaaDoor
open Go.ChangeShapes Go.WideShapes Go.ChangeAt Go.RowKit
def laidU : List (String × DataW Unit) := [("unicode/utf8.acceptRanges", Rows.laid_unicode_utf8_acceptRanges), ("errors.errorType", Rows.laid_errors_errorType), ("unicode/utf8.first", Rows.laid_unicode_utf8_first)]
def laidD : List (String × DataW Unit) := [("unicode/utf8.acceptRanges", Rows.laid_unicode_utf8_acceptRanges), ("unicode/utf8.first", Rows.laid_unicode_utf8_first)]
theorem laidU_of {W : World} (h : laidMetH Tryd.prog laidU W) : laidMetH Tryd.prog laidL W := h.filter fun x => x.1 == "errors.errorType"
noncomputable def laidWorldU (os : Os) : World := (laidWorld os).layVars Tryd.prog laidD
theorem laidWorldU_met (os : Os) (args : Array Value) : laidMetH Tryd.prog laidU ((laidWorldU os).forCall (fun _ _ => 0) ⟨#[], args, []⟩).memory :=
  laidMetH_of_parts (laidMet_layVars (w0 := laidWorld os) ["unicode/utf8.acceptRanges", "unicode/utf8.first"] [] (by show _ = ((laidWorld os).layVars Tryd.prog laidD).heap; simp [World.memory, World.forCall, Input.heap]; rfl) (by kernel_rfl) (by kernel_rfl) LaidIn.none) (by kernel_rfl)
end Go.Proofs.YtmdnnlfoljdfpaaDoor
