/- cmp.Or of two numbers, and wide.Cmp. -/
import Derived.Test.YtkdjfakjnkemiaaDoorWide3
import Derived.Deep.RegionHeld3
namespace Go.Proofs.YtkdjfakjnkemiaaDoor
open Go.RowKit

def orZ (a b : Int) : Int := if a = 0 then b else a
theorem cmp_Or (a b : Int) (g : Nat) (w : World) (h0 : w.cell? ⟨g, 0, none⟩ = some (.int .i64 a)) (h1 : w.cell? ⟨g, 1, none⟩ = some (.int .i64 b)) :
    Calls Tryd.prog 89 #[.slice (some ⟨g, 0, none⟩) 2 2] w fun e w' => e = .returned (.int .i64 (orZ a b)) ∧ Below w.heap.size w w' := by
  unfold orZ
  by_cases ha : a = 0
  · subst ha
    rw [if_pos rfl]
    by_cases hb : b = 0
    · subst hb
      go_enter Tryd.func89, Tryd.ntmps89
      go_wp2
      go_loop [8] (fun u => ∃ k : Nat, k ≤ 2 ∧ u = .int .i64 k) (fun u => 2 - (intOf u).toNat)
      case atStart => exact ⟨0, by omega, rfl⟩
      case round =>
        obtain ⟨k, hk, rfl⟩ := hrel
        have hk3 : k = 0 ∨ k = 1 ∨ k = 2 := by omega
        rcases hk3 with rfl | rfl | rfl
        · go_wp2
          exact ⟨⟨1, by omega, rfl⟩, by simp [intOf]⟩
        · go_wp2
          exact ⟨⟨2, by omega, rfl⟩, by simp [intOf]⟩
        · go_wp2
          refine bp_ret ⟨?_, ?_, ?_, ?_⟩ rfl; rotate_left
          · (simp [results, Tryd.results89, go_sem, *]; rfl)
          rotate_left
          · repeat (first | exact Below.refl _ _ | assumption | (refine Below.alloc ?_ (by first | omega | (simp; done) | (simp; omega) | (simp at *; omega)) _) | (refine Below.setCell ?_ (by first | omega | (simp; done) | (simp; omega) | (simp at *; omega)) _) | (refine Below.trans ?_ (below_drewN _ _ _)) | (refine Below.drew ?_) | (refine Below.trans ?_ (Below.mono (by assumption) (by first | omega | (simp; done) | (simp; omega) | (simp at *; omega)))))
          · rfl
    · have hb' : (b == 0) = false := by simpa using hb
      go_enter Tryd.func89, Tryd.ntmps89
      go_wp2
      go_loop [8] (fun u => ∃ k : Nat, k ≤ 1 ∧ u = .int .i64 k) (fun u => 2 - (intOf u).toNat)
      case atStart => exact ⟨0, by omega, rfl⟩
      case round =>
        obtain ⟨k, hk, rfl⟩ := hrel
        have hk3 : k = 0 ∨ k = 1 := by omega
        rcases hk3 with rfl | rfl
        · go_wp2
          exact ⟨⟨1, by omega, rfl⟩, by simp [intOf]⟩
        · go_wp2
          refine bp_ret ⟨?_, ?_, ?_, ?_⟩ rfl; rotate_left
          · (simp [results, Tryd.results89, go_sem, *]; rfl)
          rotate_left
          · repeat (first | exact Below.refl _ _ | assumption | (refine Below.alloc ?_ (by first | omega | (simp; done) | (simp; omega) | (simp at *; omega)) _) | (refine Below.setCell ?_ (by first | omega | (simp; done) | (simp; omega) | (simp at *; omega)) _) | (refine Below.trans ?_ (below_drewN _ _ _)) | (refine Below.drew ?_) | (refine Below.trans ?_ (Below.mono (by assumption) (by first | omega | (simp; done) | (simp; omega) | (simp at *; omega)))))
          · rfl
  · rw [if_neg ha]
    have ha' : (a == 0) = false := by simpa using ha
    go_enter Tryd.func89, Tryd.ntmps89
    go_wp2
    go_loop [8] (fun u => u = .int .i64 0) (fun u => 2 - (intOf u).toNat)
    case atStart => exact rfl
    case round =>
      subst hrel
      go_wp2
      refine bp_ret ⟨?_, ?_, ?_, ?_⟩ rfl; rotate_left
      · (simp [results, Tryd.results89, go_sem, *]; rfl)
      rotate_left
      · repeat (first | exact Below.refl _ _ | assumption | (refine Below.alloc ?_ (by first | omega | (simp; done) | (simp; omega) | (simp at *; omega)) _) | (refine Below.setCell ?_ (by first | omega | (simp; done) | (simp; omega) | (simp at *; omega)) _) | (refine Below.trans ?_ (below_drewN _ _ _)) | (refine Below.drew ?_) | (refine Below.trans ?_ (Below.mono (by assumption) (by first | omega | (simp; done) | (simp; omega) | (simp at *; omega)))))
      · rfl
theorem cmp_halves (x y : Int) : orZ (cmpZ (x / 18446744073709551616) (y / 18446744073709551616)) (cmpZ (x % 18446744073709551616) (y % 18446744073709551616)) = cmpZ x y := by
  unfold orZ cmpZ
  repeat' split
  all_goals omega
set_option maxRecDepth 100000 in
theorem wide_Cmp (x y : Int) (w : World) :
    Calls Tryd.prog 60 #[wv x, wv y] w fun e w' => e = .returned (.int .i64 (cmpZ x y)) ∧ Below w.heap.size w w' := by
  rw [← cmp_halves x y]
  unfold wv
  generalize x / 18446744073709551616 = xh
  generalize x % 18446744073709551616 = xl
  generalize y / 18446744073709551616 = yh
  generalize y % 18446744073709551616 = yl
  have h1 := Lib.hid (fun w => compare_i64 xh yh w)
  have h2 := Lib.hid (fun w => compare_u64 xl yl w)
  generalize cmpZ xh yh = a at *
  generalize cmpZ xl yl = b at *
  go_enter Tryd.func60, Tryd.ntmps60
  go_wp2_with fail
  go_region_held3 (fun w' => w'.cell? ⟨w.heap.size, 0, none⟩ = some (.int .i64 xh) ∧ w'.cell? ⟨w.heap.size, 1, none⟩ = some (.int .u64 xl) ∧ w'.cell? ⟨w.heap.size + 1, 0, none⟩ = some (.int .i64 yh) ∧ w'.cell? ⟨w.heap.size + 1, 1, none⟩ = some (.int .u64 yl))
    (first | (refine ⟨?_, ?_, ?_, ?_⟩ <;> with_reducible assumption) | go_keep)
    (((try go_split_ands); (first | (go_at_call 90; refine (h1.out _).mono ?_; rintro e w1 ⟨rfl, rfl⟩) | (go_at_call 91; refine (h2.out _).mono ?_; rintro e w2 ⟨rfl, rfl⟩) | (go_at_call 89; refine (cmp_Or a b _ _ (by first | (simp; done) | (go_simp; done)) (by first | (simp; done) | (go_simp; done))).mono ?_; rintro e w3 ⟨rfl, hb3⟩; have f0 := (hb3.cell (p := ⟨w.heap.size, 0, none⟩) (by first | omega | (simp; done) | (simp; omega))).trans (by with_reducible assumption); have f1 := (hb3.cell (p := ⟨w.heap.size, 1, none⟩) (by first | omega | (simp; done) | (simp; omega))).trans (by with_reducible assumption); have f2 := (hb3.cell (p := ⟨w.heap.size + 1, 0, none⟩) (by first | omega | (simp; done) | (simp; omega))).trans (by with_reducible assumption); have f3 := (hb3.cell (p := ⟨w.heap.size + 1, 1, none⟩) (by first | omega | (simp; done) | (simp; omega))).trans (by with_reducible assumption)))))
  all_goals
    go_wp2_with fail
    refine bp_ret ?_ rfl
    refine ⟨.int .i64 (orZ a b), ?_, rfl, ?_⟩
    · simp [results, Tryd.results60, go_sem]
    · refine Below.trans ?_ (hb3.mono (by simp; omega))
      repeat (first | exact Below.refl _ _ | assumption | (refine Below.alloc ?_ (by first | omega | (simp; done) | (simp; omega) | (simp at *; omega)) _) | (refine Below.setCell ?_ (by first | omega | (simp; done) | (simp; omega) | (simp at *; omega)) _) | (refine Below.trans ?_ (below_drewN _ _ _)) | (refine Below.drew ?_) | (refine Below.trans ?_ (Below.mono (by assumption) (by first | omega | (simp; done) | (simp; omega) | (simp at *; omega)))))
end Go.Proofs.YtkdjfakjnkemiaaDoor
