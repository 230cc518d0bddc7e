/- The statement WideTimes: products divided, the program's and the document's. -/
import Derived.Test.YtkdjfakjnkemiaaDoorBigF
import Derived.Test.YtkdjfakjnkemiaaDoorSure02
namespace Go.Proofs.YtkdjfakjnkemiaaDoor
open Go.RowKit

theorem mulDivR_md (a b c : Int) : mulDivR a b c = .tuple #[.int .i64 (mdX a b c).1, errV (mdX a b c).2] := by
  unfold mulDivR mdX fitI
  by_cases h : c < 1
  · rw [if_pos h, if_pos h]; rfl
  · rw [if_neg h, if_neg h]
    by_cases k : in64 (a * b / c)
    · rw [if_pos k, if_pos k]; rfl
    · rw [if_neg k, if_neg k]; rfl
theorem mulShiftR_ms (a m s : Int) : mulShiftR a m s = .tuple #[.int .i64 (msX a m s).1, errV (msX a m s).2] := by
  unfold mulShiftR msX mdX fitI
  by_cases h : s < 0 ∨ 31 < s
  · rw [if_pos h, if_pos h]; rfl
  · rw [if_neg h, if_neg h, if_neg (show ¬ (2 : Int) ^ s.toNat < 1 from fun h => by have := two_pos s.toNat; omega)]
    by_cases k : in64 (a * m / 2 ^ s.toNat)
    · rw [if_pos k, if_pos k]; rfl
    · rw [if_neg k, if_neg k]; rfl
set_option maxHeartbeats 2000000 in
set_option maxRecDepth 100000 in
theorem law_WideTimes (a b c : Int) (ha : in64 a) (hb : in64 b) (hc : in64 c) (w : World) (hL : LaidW w) :
    Calls Tryd.prog 6 #[.int .i64 a, .int .i64 b, .int .i64 c] w fun e w' => e = .returned (.bool true) ∧ Below w.heap.size w w' := by
  have hLH := Lib.hid hL
  have m0 : 0 ≤ b % 4294967296 := by omega
  have m1 : b % 4294967296 < 4294967296 := by omega
  have k0 : in64 (c % 32) := by unfold in64; omega
  have c1 := fun w => wide_MulDiv a b c ha hb hc w
  have c2 := fun w => ref_MulDiv a b c ha hb hc w
  have c3 := fun w => wide_MulShift a (b % 4294967296) c ha m0 m1 w
  have c4 := fun w => ref_MulShift a (b % 4294967296) c ha m0 m1 hc w
  have c5 := fun w => wide_MulShift a (b % 4294967296) (c % 32) ha m0 m1 w
  have c6 := fun w => ref_MulShift a (b % 4294967296) (c % 32) ha m0 m1 k0 w
  rw [mulDivR_md] at c1
  rw [mulShiftR_ms] at c3 c5
  unfold refP at c2 c4 c6
  generalize mdX a b c = r1 at *
  generalize msX a (b % 4294967296) c = r2 at *
  generalize msX a (b % 4294967296) (c % 32) = r3 at *
  obtain ⟨x1, e1⟩ := r1
  obtain ⟨x2, e2⟩ := r2
  obtain ⟨x3, e3⟩ := r3
  have n1 := Lib.hid (fun w (h : LaidW w) => law02_num e1 w h)
  have n2 := Lib.hid (fun w (h : LaidW w) => law02_num e2 w h)
  have n3 := Lib.hid (fun w (h : LaidW w) => law02_num e3 w h)
  have h1 := Lib.hid c1
  have h2 := Lib.hid c2
  have h3 := Lib.hid c3
  have h4 := Lib.hid c4
  have h5 := Lib.hid c5
  have h6 := Lib.hid c6
  have hs := Lib.hid (fun w (h : LaidW w) => sure02 w h)
  clear c1 c2 c3 c4 c5 c6 hL
  generalize errV e1 = E1 at *
  generalize errV e2 = E2 at *
  generalize errV e3 = E3 at *
  generalize numV e1 = N1 at *
  generalize numV e2 = N2 at *
  generalize numV e3 = N3 at *
  go_enter Tryd.func6, Tryd.ntmps6
  go_wp2_with fail
  refine (h1.out _).mono ?_
  rintro e1 w1 ⟨rfl, hb1⟩
  obtain ⟨hc1, hf1⟩ := bcell hb1
  have hz1 := hb1.size
  try simp at hz1
  go_wp2_with fail
  refine (h2.out _).mono ?_
  rintro e2 w2 ⟨rfl, hb2⟩
  obtain ⟨hc2, hf2⟩ := bcell hb2
  have hz2 := hb2.size
  try simp at hz2
  go_wp2_with fail
  refine (h3.out _).mono ?_
  rintro e3 w3 ⟨rfl, hb3⟩
  obtain ⟨hc3, hf3⟩ := bcell hb3
  have hz3 := hb3.size
  try simp at hz3
  go_wp2_with fail
  refine (h4.out _).mono ?_
  rintro e4 w4 ⟨rfl, hb4⟩
  obtain ⟨hc4, hf4⟩ := bcell hb4
  have hz4 := hb4.size
  try simp at hz4
  go_wp2_with fail
  refine (h5.out _).mono ?_
  rintro e5 w5 ⟨rfl, hb5⟩
  obtain ⟨hc5, hf5⟩ := bcell hb5
  have hz5 := hb5.size
  try simp at hz5
  go_wp2_with fail
  refine (h6.out _).mono ?_
  rintro e6 w6 ⟨rfl, hb6⟩
  obtain ⟨hc6, hf6⟩ := bcell hb6
  have hz6 := hb6.size
  try simp at hz6
  go_wp2_with fail
  refine (n1.out _ (LaidW.below hLH.out (by repeat (first | exact Below.refl _ _ | assumption | (refine Below.alloc ?_ (by first | omega | (simp; done) | (simp; omega) | (simp at *; omega)) _) | (refine Below.setCell ?_ (by first | omega | (simp; done) | (simp; omega) | (simp at *; omega)) _) | (refine Below.trans ?_ (below_drewN _ _ _)) | (refine Below.drew ?_) | (refine Below.trans ?_ (Below.mono (by assumption) (by first | omega | (simp; done) | (simp; omega) | (simp at *; omega)))))))).mono ?_
  rintro e7 w7 ⟨rfl, hb7⟩
  obtain ⟨hc7, hf7⟩ := bcell hb7
  have hz7 := hb7.size
  try simp at hz7
  go_wp2_with fail
  refine (n2.out _ (LaidW.below hLH.out (by repeat (first | exact Below.refl _ _ | assumption | (refine Below.alloc ?_ (by first | omega | (simp; done) | (simp; omega) | (simp at *; omega)) _) | (refine Below.setCell ?_ (by first | omega | (simp; done) | (simp; omega) | (simp at *; omega)) _) | (refine Below.trans ?_ (below_drewN _ _ _)) | (refine Below.drew ?_) | (refine Below.trans ?_ (Below.mono (by assumption) (by first | omega | (simp; done) | (simp; omega) | (simp at *; omega)))))))).mono ?_
  rintro e8 w8 ⟨rfl, hb8⟩
  obtain ⟨hc8, hf8⟩ := bcell hb8
  have hz8 := hb8.size
  try simp at hz8
  go_wp2_with fail
  refine (n3.out _ (LaidW.below hLH.out (by repeat (first | exact Below.refl _ _ | assumption | (refine Below.alloc ?_ (by first | omega | (simp; done) | (simp; omega) | (simp at *; omega)) _) | (refine Below.setCell ?_ (by first | omega | (simp; done) | (simp; omega) | (simp at *; omega)) _) | (refine Below.trans ?_ (below_drewN _ _ _)) | (refine Below.drew ?_) | (refine Below.trans ?_ (Below.mono (by assumption) (by first | omega | (simp; done) | (simp; omega) | (simp at *; omega)))))))).mono ?_
  rintro e9 w9 ⟨rfl, hb9⟩
  obtain ⟨hc9, hf9⟩ := bcell hb9
  have hz9 := hb9.size
  try simp at hz9
  go_wp2_with fail
  refine (hs.out _ (LaidW.below hLH.out (by repeat (first | exact Below.refl _ _ | assumption | (refine Below.alloc ?_ (by first | omega | (simp; done) | (simp; omega) | (simp at *; omega)) _) | (refine Below.setCell ?_ (by first | omega | (simp; done) | (simp; omega) | (simp at *; omega)) _) | (refine Below.trans ?_ (below_drewN _ _ _)) | (refine Below.drew ?_) | (refine Below.trans ?_ (Below.mono (by assumption) (by first | omega | (simp; done) | (simp; omega) | (simp at *; omega)))))))).mono ?_
  rintro e10 w10 ⟨rfl, hb10⟩
  obtain ⟨hc10, hf10⟩ := bcell hb10
  have hz10 := hb10.size
  try simp at hz10
  go_wp2_with fail
  refine bp_ret ⟨?_, ?_, ?_, ?_⟩ rfl; rotate_left
  · (simp [results, Tryd.results6, go_sem, *]; rfl)
  rotate_left
  · repeat (first | exact Below.refl _ _ | assumption | (refine Below.alloc ?_ (by first | omega | (simp; done) | (simp; omega) | (simp at *; omega)) _) | (refine Below.setCell ?_ (by first | omega | (simp; done) | (simp; omega) | (simp at *; omega)) _) | (refine Below.trans ?_ (below_drewN _ _ _)) | (refine Below.drew ?_) | (refine Below.trans ?_ (Below.mono (by assumption) (by first | omega | (simp; done) | (simp; omega) | (simp at *; omega)))))
  · rfl
theorem law_WideTimes_row (a b c : Int) (w : World) (hL : LaidW w) (ha : (Lit.int .i64 a).wf = true) (hb : (Lit.int .i64 b).wf = true) (hc : (Lit.int .i64 c).wf = true) :
    Calls Tryd.prog 6 #[.int .i64 a, .int .i64 b, .int .i64 c] w fun e w' => e = .returned (.bool true) ∧ Below w.heap.size w w' :=
  law_WideTimes a b c (wf_i64 ha) (wf_i64 hb) (wf_i64 hc) w hL
end Go.Proofs.YtkdjfakjnkemiaaDoor
