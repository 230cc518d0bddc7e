/- Package fuseeref02's Power, MulDiv, MulShift. -/
import Derived.Test.YtmdnnlfoljdfpaaDoorBigE
import Derived.Test.YtmdnnlfoljdfpaaDoorNum
namespace Go.Proofs.YtmdnnlfoljdfpaaDoor
open Go.RowKit

/-- A product divided, or a product with a factor divided by 2^s: the number, and which error. -/
def mdX (a b c : Int) : Int × Option Int := if c < 1 then (0, some 1) else if in64 (a * b / c) then (a * b / c, none) else (0, some 2)
def msX (a m s : Int) : Int × Option Int := if s < 0 ∨ 31 < s then (0, some 1) else mdX a m (2 ^ s.toNat)
def refP (r : Int × Option Int) : Value := .tuple #[.int .i64 r.1, .int .i64 (numV r.2)]
theorem mul_in128' {a b : Int} (ha : in64 a) (hb : in64 b) : -(2 ^ 254) < a * b ∧ a * b < 2 ^ 254 := by
  have h := mul_in128 ha hb
  unfold in128 at h
  omega
theorem in64_lim {a : Int} (h : in64 a) : -(4294967296 ^ 4) < a ∧ a < 4294967296 ^ 4 := by unfold in64 at h; omega
theorem ediv_lim {x d : Int} (h0 : -(2 ^ 254) < x) (h1 : x < 2 ^ 254) (hd : 0 < d) : -(2 ^ 255) < x / d ∧ x / d < 2 ^ 255 := by
  have e := Int.mul_ediv_add_emod x d
  have r0 := Int.emod_nonneg x (Int.ne_of_gt hd)
  have r1 := Int.emod_lt_of_pos x hd
  rcases Int.lt_or_le x 0 with h | h
  · have a : x / d < 0 := Int.ediv_neg_of_neg_of_pos h hd
    have b := Int.mul_le_mul_of_nonpos_right (show 1 ≤ d from hd) (show x / d + 1 ≤ 0 by omega)
    rw [Int.mul_add, Int.mul_one] at b
    omega
  · have a : 0 ≤ x / d := Int.ediv_nonneg h (by omega)
    have b : x / d ≤ x := Int.ediv_le_self _ h
    omega
set_option maxHeartbeats 1000000 in
set_option maxRecDepth 100000 in
theorem ref_MulDiv (a b c : Int) (ha : in64 a) (hb : in64 b) (hc : in64 c) (w : World) :
    Calls Tryd.prog 52 #[.int .i64 a, .int .i64 b, .int .i64 c] w fun e w' => e = .returned (refP (mdX a b c)) ∧ Below w.heap.size w w' := by
  unfold refP mdX
  by_cases h : c < 1
  · rw [if_pos h]
    go_enter Tryd.func52, Tryd.ntmps52
    go_wp2_with fail
    refine bp_ret ⟨?_, ?_, ?_, ?_⟩ rfl; rotate_left
    · (simp [results, Tryd.results52, go_sem, *]; rfl)
    rotate_left
    · repeat (first | exact Below.refl _ _ | assumption | (refine Below.alloc ?_ (by first | omega | (simp; done) | (simp; omega) | (simp at *; omega)) _) | (refine Below.setCell ?_ (by first | omega | (simp; done) | (simp; omega) | (simp at *; omega)) _) | (refine Below.trans ?_ (below_drewN _ _ _)) | (refine Below.drew ?_) | (refine Below.trans ?_ (Below.mono (by assumption) (by first | omega | (simp; done) | (simp; omega) | (simp at *; omega)))))
    · rfl
  · rw [if_neg h]
    obtain ⟨p0, p1⟩ := mul_in128' ha hb
    have c0 : 0 < c := by omega
    have q := ediv_lim p0 p1 c0
    have h1 := Lib.hid (fun w => ref_Int a ha w)
    have h2 := Lib.hid (fun w => ref_Int b hb w)
    have h3 := Lib.hid (fun w => ref_Mul a b (in64_lim ha).1 (in64_lim ha).2 (in64_lim hb).1 (in64_lim hb).2 w)
    have h4 := Lib.hid (fun w => ref_Int c hc w)
    have c5 := fun w => ref_Div (a * b) c p0 p1 c0 (by have := (in64_lim hc).2; unfold in64 at hc; omega) w
    rw [bigV_open (a * b / c), bigV_open (a * b % c)] at c5
    unfold bigA at c5
    have h5 := Lib.hid c5
    have c6 := fun w => ref_Number (a * b / c) (by omega) (by omega) w
    rw [bigV_open (a * b / c)] at c6
    unfold bigA at c6
    by_cases hq : in64 (a * b / c)
    · rw [numR_yes hq] at c6
      rw [if_pos hq]
      have h6 := Lib.hid c6
      clear c5 c6 p0 p1 q
      go_enter Tryd.func52, Tryd.ntmps52
      go_wp2_with fail
      refine (h1.out _).mono ?_
      rintro e1 w1 ⟨rfl, hb1⟩
      obtain ⟨hc1, hf1⟩ := bcell hb1
      have hz1 := hb1.size
      try simp at hz1
      go_wp2_with fail
      refine (h2.out _).mono ?_
      rintro e2 w2 ⟨rfl, hb2⟩
      obtain ⟨hc2, hf2⟩ := bcell hb2
      have hz2 := hb2.size
      try simp at hz2
      go_wp2_with fail
      refine (h3.out _).mono ?_
      rintro e3 w3 ⟨rfl, hb3⟩
      obtain ⟨hc3, hf3⟩ := bcell hb3
      have hz3 := hb3.size
      try simp at hz3
      go_wp2_with fail
      refine (h4.out _).mono ?_
      rintro e4 w4 ⟨rfl, hb4⟩
      obtain ⟨hc4, hf4⟩ := bcell hb4
      have hz4 := hb4.size
      try simp at hz4
      go_wp2_with fail
      refine (h5.out _).mono ?_
      rintro e5 w5 ⟨rfl, hb5⟩
      obtain ⟨hc5, hf5⟩ := bcell hb5
      have hz5 := hb5.size
      try simp at hz5
      go_wp2_with fail
      refine (h6.out _).mono ?_
      rintro e6 w6 ⟨rfl, hb6⟩
      obtain ⟨hc6, hf6⟩ := bcell hb6
      have hz6 := hb6.size
      try simp at hz6
      go_wp2_with fail
      refine bp_ret ⟨?_, ?_, ?_, ?_⟩ rfl; rotate_left
      · (simp [results, Tryd.results52, go_sem, *]; rfl)
      rotate_left
      · repeat (first | exact Below.refl _ _ | assumption | (refine Below.alloc ?_ (by first | omega | (simp; done) | (simp; omega) | (simp at *; omega)) _) | (refine Below.setCell ?_ (by first | omega | (simp; done) | (simp; omega) | (simp at *; omega)) _) | (refine Below.trans ?_ (below_drewN _ _ _)) | (refine Below.drew ?_) | (refine Below.trans ?_ (Below.mono (by assumption) (by first | omega | (simp; done) | (simp; omega) | (simp at *; omega)))))
      · rfl
    · rw [numR_no hq] at c6
      rw [if_neg hq]
      have h6 := Lib.hid c6
      clear c5 c6 p0 p1 q
      go_enter Tryd.func52, Tryd.ntmps52
      go_wp2_with fail
      refine (h1.out _).mono ?_
      rintro e1 w1 ⟨rfl, hb1⟩
      obtain ⟨hc1, hf1⟩ := bcell hb1
      have hz1 := hb1.size
      try simp at hz1
      go_wp2_with fail
      refine (h2.out _).mono ?_
      rintro e2 w2 ⟨rfl, hb2⟩
      obtain ⟨hc2, hf2⟩ := bcell hb2
      have hz2 := hb2.size
      try simp at hz2
      go_wp2_with fail
      refine (h3.out _).mono ?_
      rintro e3 w3 ⟨rfl, hb3⟩
      obtain ⟨hc3, hf3⟩ := bcell hb3
      have hz3 := hb3.size
      try simp at hz3
      go_wp2_with fail
      refine (h4.out _).mono ?_
      rintro e4 w4 ⟨rfl, hb4⟩
      obtain ⟨hc4, hf4⟩ := bcell hb4
      have hz4 := hb4.size
      try simp at hz4
      go_wp2_with fail
      refine (h5.out _).mono ?_
      rintro e5 w5 ⟨rfl, hb5⟩
      obtain ⟨hc5, hf5⟩ := bcell hb5
      have hz5 := hb5.size
      try simp at hz5
      go_wp2_with fail
      refine (h6.out _).mono ?_
      rintro e6 w6 ⟨rfl, hb6⟩
      obtain ⟨hc6, hf6⟩ := bcell hb6
      have hz6 := hb6.size
      try simp at hz6
      go_wp2_with fail
      refine bp_ret ⟨?_, ?_, ?_, ?_⟩ rfl; rotate_left
      · (simp [results, Tryd.results52, go_sem, *]; rfl)
      rotate_left
      · repeat (first | exact Below.refl _ _ | assumption | (refine Below.alloc ?_ (by first | omega | (simp; done) | (simp; omega) | (simp at *; omega)) _) | (refine Below.setCell ?_ (by first | omega | (simp; done) | (simp; omega) | (simp at *; omega)) _) | (refine Below.trans ?_ (below_drewN _ _ _)) | (refine Below.drew ?_) | (refine Below.trans ?_ (Below.mono (by assumption) (by first | omega | (simp; done) | (simp; omega) | (simp at *; omega)))))
      · rfl
end Go.Proofs.YtmdnnlfoljdfpaaDoor
