/- The statement WideParts: a wide number by a power of two, and by a number, the program's and the document's. -/
import Derived.Test.YtkdjfakjnkemiaaDoorIs02
import Derived.Test.YtkdjfakjnkemiaaDoorSure02
import Derived.Deep.DeepCutAuto
namespace Go.Proofs.YtkdjfakjnkemiaaDoor
open Go.RowKit

theorem cell_set2 {w : World} {a b o : Nat} {v0 v1 : Value} {o0 o1 : Nat} (h : a ≠ b) : ((w.setCell ⟨b, o0, none⟩ v0).setCell ⟨b, o1, none⟩ v1).cell? ⟨a, o, none⟩ = w.cell? ⟨a, o, none⟩ :=
  World.cell?_of_block (by
    show _ = w.heap[a]?
    rw [Below.heap_setCell _ _ _ _ h, Below.heap_setCell _ _ _ _ h])
theorem row_other2 {w : World} {a b : Nat} {x : Option Obj} {v0 v1 : Value} {o0 o1 : Nat} (q : w.heap[a]? = x) (h : a ≠ b) : ((w.setCell ⟨b, o0, none⟩ v0).setCell ⟨b, o1, none⟩ v1).heap[a]? = x := by
  rw [Below.heap_setCell _ _ _ _ h, Below.heap_setCell _ _ _ _ h, q]

theorem wv_zero {h l : Int} (e : wv 0 = .agg #[.int .i64 h, .int .u64 l]) : h = 0 ∧ l = 0 := by
  unfold wv at e
  injection e with e
  injection e with e
  injection e with e1 e2
  injection e2 with e2 e3
  injection e1 with _ e1
  injection e2 with _ e2
  exact ⟨by omega, by omega⟩
theorem pow_lt (N : Nat) (h : N ≤ 127) : (2 : Int) ^ N < 2 ^ 255 := by
  rw [natPow]
  have := Nat.pow_le_pow_right (show 0 < 2 by omega) h
  omega
theorem shr_pack (v n : Int) (hv : in128 v) : ∃ sS eS, (∀ w, Calls Tryd.prog 27 #[wv v, .int .i64 n] w fun e w' => e = .returned (.tuple #[wv sS, errV eS]) ∧ Below w.heap.size w w') ∧ in128 sS ∧ ((0 ≤ n ∧ n < 128) → sS = v / 2 ^ n.toNat ∧ eS = none) ∧ (¬ (0 ≤ n ∧ n < 128) → sS = 0 ∧ eS = some 1) := by
  by_cases h : 0 ≤ n ∧ n < 128
  · refine ⟨v / 2 ^ n.toNat, none, fun w => ?_, shr_in128 _ hv, fun _ => ⟨rfl, rfl⟩, fun k => absurd h k⟩
    have c := wide_Shr v n hv w
    rw [shrR_pos h.1 h.2] at c
    exact c
  · refine ⟨0, some 1, fun w => ?_, by decide, fun k => absurd k h, fun _ => ⟨rfl, rfl⟩⟩
    have c := wide_Shr v n hv w
    rw [shrR_neg h] at c
    exact c
theorem div_pack (v d : Int) (hv : in128 v) (hd : in64 d) : ∃ sq r eD, (∀ w, Calls Tryd.prog 28 #[wv v, .int .i64 d] w fun e w' => e = .returned (.tuple #[wv sq, .int .i64 r, errV eD]) ∧ Below w.heap.size w w') ∧ in128 sq ∧ (1 ≤ d → sq = v / d ∧ r = v % d ∧ eD = none) ∧ (d < 1 → sq = 0 ∧ r = 0 ∧ eD = some 1) := by
  by_cases h : 1 ≤ d
  · refine ⟨v / d, v % d, none, fun w => ?_, ediv_in128 hv h, fun _ => ⟨rfl, rfl, rfl⟩, fun k => absurd h (by omega)⟩
    exact wide_Div_ok v d hv h hd.2 w
  · refine ⟨0, 0, some 1, fun w => ?_, by decide, fun k => absurd k h, fun _ => ⟨rfl, rfl, rfl⟩⟩
    exact wide_Div_err v d hv (by omega) w
end Go.Proofs.YtkdjfakjnkemiaaDoor
