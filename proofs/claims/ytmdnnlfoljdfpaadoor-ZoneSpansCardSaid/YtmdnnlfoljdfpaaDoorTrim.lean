/- strings.TrimLeft at an ASCII cutset, by the shelf's contract, as a summary. -/
import Derived.Test.YtmdnnlfoljdfpaaDoorMirY
import Derived.Test.YtmdnnlfoljdfpaaDoorShelf
import Derived.Shelf.Strings.SlTrimAscii
namespace Go.Proofs.YtmdnnlfoljdfpaaDoor.Mir
open Go Go.RowKit
set_option maxRecDepth 1000000

def trimF (s c : ByteArray) : Option (TAs [.one (.d .str)]) := bif Nat.blt c.size 4294967281 && c.data.toList.all (fun b => Nat.blt b.toNat 128) then some ⟨(Lib.trimLeftS s.data.toList c.data.toList).toArray⟩ else none
def trimS : Sum := fnSum 2 0 1 [.one (.d .str), .one (.d .str)] [.one (.d .str)] (fun p => trimF p.1 p.2)
theorem trimS_ok : SumOk Tryd.prog laidL 84 trimS := by
  refine bridge rfl (fun _ => rfl) ?_
  rintro ⟨s, c⟩ r h g w vs _ ⟨_, _, rfl, hs, _, _, rfl, hc, rfl⟩
  simp only [trimF] at h
  cases hk : (Nat.blt c.size 4294967281 && c.data.toList.all (fun b => Nat.blt b.toNat 128)) with
  | false => rw [hk] at h; cases h
  | true =>
    rw [hk] at h
    obtain rfl := Option.some.inj h
    simp only [Bool.and_eq_true] at hk
    cases hs; cases hc
    refine invokes_of_calls Tryd.func84 (by kernel_rfl) (by kernel_rfl) ((Any.strings_TrimLeft_laid Tryd.lays161 (by kernel_rfl) s c w (Nat.le_of_ble_eq_true hk.1) (fun j b hb => ?_)).mono ?_)
    · exact Nat.le_of_ble_eq_true (List.all_eq_true.1 hk.2 b (List.mem_of_getElem? hb))
    · rintro e w' ⟨rfl, hw⟩
      exact ⟨_, rfl, rfl, hw⟩
end Go.Proofs.YtmdnnlfoljdfpaaDoor.Mir
