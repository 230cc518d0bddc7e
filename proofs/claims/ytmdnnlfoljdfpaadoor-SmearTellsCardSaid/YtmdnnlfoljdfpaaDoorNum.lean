/- The statements' own 'num' of an error, and its contract; worlds that only grew. -/
import Derived.Test.YtmdnnlfoljdfpaaDoorAs
namespace Go.Proofs.YtmdnnlfoljdfpaaDoor
open Go.RowKit

/-- Results beside an error. -/
def pairV (v : Value) (e : Option Int) : Value := .tuple #[v, errV e]
/-- The statements' own num: an error's number. -/
def numV : Option Int → Int
  | none => 0
  | some n => n
set_option maxHeartbeats 4000000 in
theorem law10_num (e : Option Int) (w : World) (hg : LaidW w) :
    Calls Tryd.prog 18 #[errV e] w fun ev w' => ev = .returned (.int .i64 (numV e)) ∧ Below w.heap.size w w' := by
  cases e with
  | none =>
    unfold errV
    go_enter Tryd.func18, Tryd.ntmps18
    go_wp2
    go_ret
    exact ⟨rfl, (Below.refl _ _).alloc (Nat.le_refl _) _⟩
  | some n =>
    have hgA : LaidW (w.alloc (.cells #[.int .i64 0] 95)) := hg.below ((Below.refl _ _).alloc (Nat.le_refl _) _)
    have hA := as_hit n ⟨w.heap.size, 0, none⟩ (.int .i64 0) _ hgA (by simp) (by simp)
    clear hgA hg
    unfold errV
    go_enter Tryd.func18, Tryd.ntmps18
    go_wp2_with (go_at_call 47; refine hA.mono ?_; rintro e w' ⟨rfl, rfl⟩)
    go_ret
    exact ⟨rfl, by repeat (first | exact Below.refl _ _ | refine Below.alloc ?_ (by first | (simp; done) | (simp; omega)) _ | refine Below.setCell ?_ (by first | (simp; done) | (simp; omega)) _)⟩
set_option maxHeartbeats 4000000 in
theorem law12_num (e : Option Int) (w : World) (hg : LaidW w) :
    Calls Tryd.prog 28 #[errV e] w fun ev w' => ev = .returned (.int .i64 (numV e)) ∧ Below w.heap.size w w' := by
  cases e with
  | none =>
    unfold errV
    go_enter Tryd.func28, Tryd.ntmps28
    go_wp2
    go_ret
    exact ⟨rfl, (Below.refl _ _).alloc (Nat.le_refl _) _⟩
  | some n =>
    have hgA : LaidW (w.alloc (.cells #[.int .i64 0] 95)) := hg.below ((Below.refl _ _).alloc (Nat.le_refl _) _)
    have hA := as_hit n ⟨w.heap.size, 0, none⟩ (.int .i64 0) _ hgA (by simp) (by simp)
    clear hgA hg
    unfold errV
    go_enter Tryd.func28, Tryd.ntmps28
    go_wp2_with (go_at_call 47; refine hA.mono ?_; rintro e w' ⟨rfl, rfl⟩)
    go_ret
    exact ⟨rfl, by repeat (first | exact Below.refl _ _ | refine Below.alloc ?_ (by first | (simp; done) | (simp; omega)) _ | refine Below.setCell ?_ (by first | (simp; done) | (simp; omega)) _)⟩
set_option maxHeartbeats 4000000 in
theorem law28_num (e : Option Int) (w : World) (hg : LaidW w) :
    Calls Tryd.prog 67 #[errV e] w fun ev w' => ev = .returned (.int .i64 (numV e)) ∧ Below w.heap.size w w' := by
  cases e with
  | none =>
    unfold errV
    go_enter Tryd.func67, Tryd.ntmps67
    go_wp2
    go_ret
    exact ⟨rfl, (Below.refl _ _).alloc (Nat.le_refl _) _⟩
  | some n =>
    have hgA : LaidW (w.alloc (.cells #[.int .i64 0] 95)) := hg.below ((Below.refl _ _).alloc (Nat.le_refl _) _)
    have hA := as_hit n ⟨w.heap.size, 0, none⟩ (.int .i64 0) _ hgA (by simp) (by simp)
    clear hgA hg
    unfold errV
    go_enter Tryd.func67, Tryd.ntmps67
    go_wp2_with (go_at_call 47; refine hA.mono ?_; rintro e w' ⟨rfl, rfl⟩)
    go_ret
    exact ⟨rfl, by repeat (first | exact Below.refl _ _ | refine Below.alloc ?_ (by first | (simp; done) | (simp; omega)) _ | refine Below.setCell ?_ (by first | (simp; done) | (simp; omega)) _)⟩
end Go.Proofs.YtmdnnlfoljdfpaaDoor
