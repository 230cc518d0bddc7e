/- Package wide's functions, more: Div, MulDiv, MulShift. -/
import Derived.Test.YtmdnnlfoljdfpaaDoorWide3
namespace Go.Proofs.YtmdnnlfoljdfpaaDoor
open Go.RowKit

theorem div_parts (xh xl d : Int) (hd : 0 < d) (x3 : 0 ≤ xl) (x4 : xl < 18446744073709551616) :
    (xh * 18446744073709551616 + xl) / d = xh / d * 18446744073709551616 + (xh % d * 18446744073709551616 + xl) / d ∧ (xh * 18446744073709551616 + xl) % d = (xh % d * 18446744073709551616 + xl) % d ∧ 0 ≤ (xh % d * 18446744073709551616 + xl) / d ∧ (xh % d * 18446744073709551616 + xl) / d < 18446744073709551616 := by
  have h := Int.mul_ediv_add_emod xh d
  have h0 := Int.emod_nonneg xh (b := d) (by omega)
  have h1 := Int.emod_lt_of_pos xh hd
  generalize xh % d = r at *
  generalize xh / d = q at *
  have e : xh * 18446744073709551616 + xl = r * 18446744073709551616 + xl + d * (q * 18446744073709551616) := by subst h; grind
  rw [e, Int.add_mul_ediv_left _ _ (by omega), Int.add_mul_emod_self_left]
  refine ⟨by omega, rfl, Int.ediv_nonneg (by omega) (by omega), ?_⟩
  refine Int.ediv_lt_of_lt_mul hd ?_
  have : r * 18446744073709551616 ≤ (d - 1) * 18446744073709551616 := by omega
  have e2 : 18446744073709551616 * d = d * 18446744073709551616 := Int.mul_comm _ _
  omega
/-- A quotient rounded down, and what is left; or an error. -/
def divR (x d : Int) : Value := if d < 1 then .tuple #[wv 0, .int .i64 0, errV (some 1)] else .tuple #[wv (x / d), .int .i64 (x % d), errV none]
set_option maxRecDepth 100000 in
theorem wide_Div_pos (x d : Int) (hx : in128 x) (h0 : 0 ≤ x) (hd : 1 ≤ d) (hd2 : d < 9223372036854775808) (w : World) :
    Calls Tryd.prog 89 #[wv x, .int .i64 d] w fun e w' => e = .returned (.tuple #[wv (x / d), .int .i64 (x % d), .nilIface]) ∧ Below w.heap.size w w' := by
  obtain ⟨xh, xl, ex, rfl, x1, x2, x3, x4⟩ := wv_open x hx
  rw [ex]
  have xh0 : 0 ≤ xh := by omega
  obtain ⟨q1, q2, q3, q4⟩ := div_parts xh xl d (by omega) x3 x4
  have r0 := Int.emod_nonneg xh (b := d) (by omega)
  have r1 := Int.emod_lt_of_pos xh (b := d) (by omega)
  have hQ := Lib.hid (And.intro q1 q2)
  have hR := Lib.hid (And.intro q3 q4)
  clear ex hx x1 h0 q1 q2 q3 q4
  have c1 := fun w => div64 0 xh d (by omega) (by omega) (by omega) xh0 (by omega) w
  have c2 := fun w => div64 (xh % d) xl d r0 r1 (by omega) x3 x4 w
  rw [Int.zero_mul, Int.zero_add] at c1
  have c1H := Lib.hid c1
  have c2H := Lib.hid c2
  clear c1 c2
  go_enter Tryd.func89, Tryd.ntmps89
  go_wp2_with fail
  refine (c1H.out _).mono ?_
  rintro e1 w1 ⟨rfl, hb1⟩
  obtain ⟨hc1, hf1⟩ := bcell hb1
  have hz1 := hb1.size
  try simp at hz1
  have hz1_0 : w.heap.size < w1.heap.size := by omega
  have hz1_1 : w.heap.size + 1 < w1.heap.size := by omega
  go_wp2_with fail
  refine (c2H.out _).mono ?_
  rintro e2 w2 ⟨rfl, hb2⟩
  obtain ⟨hc2, hf2⟩ := bcell hb2
  have hz2 := hb2.size
  try simp at hz2
  have hz2_0 : w.heap.size < w2.heap.size := by omega
  have hz2_1 : w.heap.size + 1 < w2.heap.size := by omega
  go_wp2_with fail
  refine bp_ret ⟨?_, ?_, ?_, ?_⟩ rfl; rotate_left
  · (simp [results, Tryd.results89, go_sem, *]; rfl)
  rotate_left
  · repeat (first | exact Below.refl _ _ | assumption | (refine Below.alloc ?_ (by first | omega | (simp; done) | (simp; omega) | (simp at *; omega)) _) | (refine Below.setCell ?_ (by first | omega | (simp; done) | (simp; omega) | (simp at *; omega)) _) | (refine Below.trans ?_ (below_drewN _ _ _)) | (refine Below.drew ?_) | (refine Below.trans ?_ (Below.mono (by assumption) (by first | omega | (simp; done) | (simp; omega) | (simp at *; omega)))))
  · obtain ⟨q1, q2⟩ := hQ.out
    obtain ⟨q3, q4⟩ := hR.out
    rw [q1, q2]
    have p0 : 0 ≤ xh / d := Int.ediv_nonneg xh0 (by omega)
    have p1 : xh / d ≤ xh := Int.ediv_le_self _ xh0
    have m0 := Int.emod_nonneg (xh % d * 18446744073709551616 + xl) (b := d) (by omega)
    have m1 := Int.emod_lt_of_pos (xh % d * 18446744073709551616 + xl) (b := d) (by omega)
    have s1 : wrap64 (xh / d) = xh / d := by unfold wrap64; omega
    have s2 : wrap64 ((xh % d * 18446744073709551616 + xl) % d) = (xh % d * 18446744073709551616 + xl) % d := by unfold wrap64; omega
    rw [s1, s2, wv_hl _ _ q3 q4]
theorem not_i64 (a : Int) (h0 : -9223372036854775808 ≤ a) (h1 : a < 9223372036854775808) : bits .xor .i64 (-1) a = -a - 1 := by
  show IntKind.i64.wrap ((BitVec.ofInt 64 (-1) ^^^ BitVec.ofInt 64 a).toNat : Int) = _
  have e1 : BitVec.ofInt 64 (-1) = BitVec.allOnes 64 := by decide
  rw [e1, BitVec.allOnes_xor, BitVec.toNat_not, BitVec.toNat_ofInt]
  rw [i64_wrap64]
  unfold wrap64
  omega
theorem not_u64 (a : Int) (h0 : 0 ≤ a) (h1 : a < 18446744073709551616) : bits .xor .u64 18446744073709551615 a = 18446744073709551615 - a := by
  show IntKind.u64.wrap ((BitVec.ofInt 64 18446744073709551615 ^^^ BitVec.ofInt 64 a).toNat : Int) = _
  have e1 : BitVec.ofInt 64 18446744073709551615 = BitVec.allOnes 64 := by decide
  rw [e1, BitVec.allOnes_xor, BitVec.toNat_not, BitVec.toNat_ofInt, IntKind.wrap_u64]
  omega
theorem not_parts (xh xl : Int) (x1 : -9223372036854775808 ≤ xh) (x2 : xh < 9223372036854775808) (x3 : 0 ≤ xl) (x4 : xl < 18446744073709551616) :
    Value.agg #[.int .i64 (-xh - 1), .int .u64 (18446744073709551615 - xl)] = wv (-(xh * 18446744073709551616 + xl) - 1) ∧ in128 (-(xh * 18446744073709551616 + xl) - 1) := by
  refine ⟨wv_of (by omega) (by omega), ?_⟩
  unfold in128; omega
set_option maxRecDepth 100000 in
theorem wide_Div_neg (x d : Int) (hx : in128 x) (h0 : x < 0) (hd : 1 ≤ d) (hd2 : d < 9223372036854775808) (w : World) :
    Calls Tryd.prog 89 #[wv x, .int .i64 d] w fun e w' => e = .returned (.tuple #[wv (x / d), .int .i64 (x % d), .nilIface]) ∧ Below w.heap.size w w' := by
  obtain ⟨xh, xl, ex, rfl, x1, x2, x3, x4⟩ := wv_open x hx
  rw [ex]
  obtain ⟨n1, n2⟩ := not_parts xh xl x1 x2 x3 x4
  have c1 := fun w => wide_Div_pos _ d n2 (by omega) hd hd2 w
  rw [← n1] at c1
  have md0 : 0 ≤ (-(xh * 18446744073709551616 + xl) - 1) / d := Int.ediv_nonneg (by omega) (by omega)
  have md1 : (-(xh * 18446744073709551616 + xl) - 1) / d ≤ -(xh * 18446744073709551616 + xl) - 1 := Int.ediv_le_self _ (by omega)
  obtain ⟨qh, ql, ew, ev, v1, v2, v3, v4⟩ := wv_open ((-(xh * 18446744073709551616 + xl) - 1) / d) (by unfold in128; omega)
  rw [ew] at c1
  have rr0 := Int.emod_nonneg (-(xh * 18446744073709551616 + xl) - 1) (b := d) (by omega)
  have rr1 := Int.emod_lt_of_pos (-(xh * 18446744073709551616 + xl) - 1) (b := d) (by omega)
  have eV := Int.mul_ediv_add_emod (-(xh * 18446744073709551616 + xl) - 1) d
  rw [ev] at eV
  generalize (-(xh * 18446744073709551616 + xl) - 1) % d = rr at *
  have hE := Lib.hid (And.intro ev (And.intro eV (And.intro rr0 rr1)))
  have t3 := not_i64 qh v1 v2
  have t4 := not_u64 ql v3 v4
  have hV := Lib.hid (And.intro (And.intro v1 v2) (And.intro v3 v4))
  clear ev eV ew md0 md1 v1 v2 v3 v4
  have c1H := Lib.hid c1
  have xh0 : xh < 0 := by omega
  have hB := Lib.hid (And.intro (And.intro x1 x2) (And.intro x3 x4))
  have sI : IntKind.i64.signed = true := rfl
  have sU : IntKind.u64.signed = false := rfl
  have mU : IntKind.u64.max = 18446744073709551615 := by decide
  have t1 := not_i64 xh x1 x2
  have t2 := not_u64 xl x3 x4
  clear ex hx x1 h0 c1 n1 n2
  go_enter Tryd.func89, Tryd.ntmps89
  go_wp2_with fail
  refine (c1H.out _).mono ?_
  rintro e1 w1 ⟨rfl, hb1⟩
  obtain ⟨hc1, hf1⟩ := bcell hb1
  have hz1 := hb1.size
  try simp at hz1
  have hz1_0 : w.heap.size < w1.heap.size := by omega
  have hz1_1 : w.heap.size + 1 < w1.heap.size := by omega
  go_wp2_with fail
  refine bp_ret ⟨?_, ?_, ?_, ?_⟩ rfl; rotate_left
  · (simp [results, Tryd.results89, go_sem, *]; rfl)
  rotate_left
  · repeat (first | exact Below.refl _ _ | assumption | (refine Below.alloc ?_ (by first | omega | (simp; done) | (simp; omega) | (simp at *; omega)) _) | (refine Below.setCell ?_ (by first | omega | (simp; done) | (simp; omega) | (simp at *; omega)) _) | (refine Below.trans ?_ (below_drewN _ _ _)) | (refine Below.drew ?_) | (refine Below.trans ?_ (Below.mono (by assumption) (by first | omega | (simp; done) | (simp; omega) | (simp at *; omega)))))
  · obtain ⟨ev, eV, _, _⟩ := hE.out
    obtain ⟨⟨v1, v2⟩, v3, v4⟩ := hV.out
    clear t1 t2 t3 t4 mU sI sU hc1 hf1
    obtain ⟨e1, e2⟩ := (Int.ediv_emod_unique (a := xh * 18446744073709551616 + xl) (b := d) (r := d - 1 - rr) (q := -(qh * 18446744073709551616 + ql) - 1) (by omega)).mpr ⟨by
      have : d * (-(qh * 18446744073709551616 + ql) - 1) = -(d * (qh * 18446744073709551616 + ql)) - d := by grind
      omega, by omega, by omega⟩
    rw [e1, e2]
    exact ret_eq (congrArg (fun v => Value.tuple #[v, .int .i64 (d - 1 - rr), .nilIface]) (not_parts qh ql v1 v2 v3 v4).1)
theorem wide_Div_err (x d : Int) (hx : in128 x) (hd : d < 1) (w : World) :
    Calls Tryd.prog 89 #[wv x, .int .i64 d] w fun e w' => e = .returned (.tuple #[.agg #[.int .i64 0, .int .u64 0], .int .i64 0, .iface 95 (.int .i64 1)]) ∧ Below w.heap.size w w' := by
  obtain ⟨xh, xl, ex, rfl, x1, x2, x3, x4⟩ := wv_open x hx
  rw [ex]
  clear ex hx x1 x2 x3 x4
  go_enter Tryd.func89, Tryd.ntmps89
  go_wp2_with fail
  refine bp_ret ⟨?_, ?_, ?_, ?_⟩ rfl; rotate_left
  · (simp [results, Tryd.results89, go_sem, *]; rfl)
  rotate_left
  · repeat (first | exact Below.refl _ _ | assumption | (refine Below.alloc ?_ (by first | omega | (simp; done) | (simp; omega) | (simp at *; omega)) _) | (refine Below.setCell ?_ (by first | omega | (simp; done) | (simp; omega) | (simp at *; omega)) _) | (refine Below.trans ?_ (below_drewN _ _ _)) | (refine Below.drew ?_) | (refine Below.trans ?_ (Below.mono (by assumption) (by first | omega | (simp; done) | (simp; omega) | (simp at *; omega)))))
  · rfl
theorem wide_Div_ok (x d : Int) (hx : in128 x) (hd : 1 ≤ d) (hd2 : d < 9223372036854775808) (w : World) :
    Calls Tryd.prog 89 #[wv x, .int .i64 d] w fun e w' => e = .returned (.tuple #[wv (x / d), .int .i64 (x % d), .nilIface]) ∧ Below w.heap.size w w' := by
  rcases Int.lt_or_le x 0 with h | h
  · exact wide_Div_neg x d hx h hd hd2 w
  · exact wide_Div_pos x d hx h hd hd2 w
theorem ediv_in128 {x d : Int} (hx : in128 x) (hd : 1 ≤ d) : in128 (x / d) := by
  have e := Int.mul_ediv_add_emod x d
  have r0 := Int.emod_nonneg x (b := d) (by omega)
  have r1 := Int.emod_lt_of_pos x (b := d) (by omega)
  unfold in128 at *
  rcases Int.lt_or_le x 0 with h | h
  · have a : x / d < 0 := Int.ediv_neg_of_neg_of_pos h (by omega)
    have b := Int.mul_le_mul_of_nonpos_right (show 1 ≤ d from hd) (show x / d + 1 ≤ 0 by omega)
    rw [Int.mul_add, Int.mul_one] at b
    omega
  · have a : 0 ≤ x / d := Int.ediv_nonneg h (by omega)
    have b : x / d ≤ x := Int.ediv_le_self _ h
    omega
/-- A product, divided, rounded down; or an error. -/
def mulDivR (a b c : Int) : Value := if c < 1 then pairV (.int .i64 0) (some 1) else fitI (a * b / c)
set_option maxRecDepth 100000 in
theorem wide_MulDiv (a b c : Int) (ha : in64 a) (hb : in64 b) (hc : in64 c) (w : World) :
    Calls Tryd.prog 49 #[.int .i64 a, .int .i64 b, .int .i64 c] w fun e w' => e = .returned (mulDivR a b c) ∧ Below w.heap.size w w' := by
  have hp := mul_in128 ha hb
  have hM := Lib.hid (fun w => wide_Mul a b ha hb w)
  unfold mulDivR
  by_cases h1 : c < 1
  · rw [if_pos h1]
    have hD := Lib.hid (fun w => wide_Div_err (a * b) c hp h1 w)
    clear ha hb hc hp
    go_enter Tryd.func49, Tryd.ntmps49
    go_wp2_with fail
    refine (hM.out _).mono ?_
    rintro e1 w1 ⟨rfl, hb1⟩
    obtain ⟨hc1, hf1⟩ := bcell hb1
    have hz1 := hb1.size
    try simp at hz1
    go_wp2_with fail
    refine (hD.out _).mono ?_
    rintro e2 w2 ⟨rfl, hb2⟩
    obtain ⟨hc2, hf2⟩ := bcell hb2
    have hz2 := hb2.size
    try simp at hz2
    go_wp2_with fail
    refine bp_ret ⟨?_, ?_, ?_, ?_⟩ rfl; rotate_left
    · (simp [results, Tryd.results49, go_sem, *]; rfl)
    rotate_left
    · repeat (first | exact Below.refl _ _ | assumption | (refine Below.alloc ?_ (by first | omega | (simp; done) | (simp; omega) | (simp at *; omega)) _) | (refine Below.setCell ?_ (by first | omega | (simp; done) | (simp; omega) | (simp at *; omega)) _) | (refine Below.trans ?_ (below_drewN _ _ _)) | (refine Below.drew ?_) | (refine Below.trans ?_ (Below.mono (by assumption) (by first | omega | (simp; done) | (simp; omega) | (simp at *; omega)))))
    · rfl
  · rw [if_neg h1]
    have hq := ediv_in128 (d := c) hp (by omega)
    have hD := fun w => wide_Div_ok (a * b) c hp (by omega) hc.2 w
    have hI := fun w => wide_Int (a * b / c) hq w
    obtain ⟨qh, ql, ew, ev, v1, v2, v3, v4⟩ := wv_open _ hq
    rw [ew] at hD hI
    clear ha hb hc hp hq ew ev v1 v2 v3 v4
    have hDH := Lib.hid hD
    have hIH := Lib.hid hI
    clear hD hI
    by_cases h2 : in64 (a * b / c)
    · rw [fitI_pos h2] at hIH ⊢
      clear h2
      go_enter Tryd.func49, Tryd.ntmps49
      go_wp2_with fail
      refine (hM.out _).mono ?_
      rintro e1 w1 ⟨rfl, hb1⟩
      obtain ⟨hc1, hf1⟩ := bcell hb1
      have hz1 := hb1.size
      try simp at hz1
      go_wp2_with fail
      refine (hDH.out _).mono ?_
      rintro e2 w2 ⟨rfl, hb2⟩
      obtain ⟨hc2, hf2⟩ := bcell hb2
      have hz2 := hb2.size
      try simp at hz2
      go_wp2_with fail
      refine (hIH.out _).mono ?_
      rintro e3 w3 ⟨rfl, hb3⟩
      obtain ⟨hc3, hf3⟩ := bcell hb3
      have hz3 := hb3.size
      try simp at hz3
      go_wp2_with fail
      refine bp_ret ⟨?_, ?_, ?_, ?_⟩ rfl; rotate_left
      · (simp [results, Tryd.results49, go_sem, *]; rfl)
      rotate_left
      · repeat (first | exact Below.refl _ _ | assumption | (refine Below.alloc ?_ (by first | omega | (simp; done) | (simp; omega) | (simp at *; omega)) _) | (refine Below.setCell ?_ (by first | omega | (simp; done) | (simp; omega) | (simp at *; omega)) _) | (refine Below.trans ?_ (below_drewN _ _ _)) | (refine Below.drew ?_) | (refine Below.trans ?_ (Below.mono (by assumption) (by first | omega | (simp; done) | (simp; omega) | (simp at *; omega)))))
      · rfl
    · rw [fitI_neg h2] at hIH ⊢
      clear h2
      go_enter Tryd.func49, Tryd.ntmps49
      go_wp2_with fail
      refine (hM.out _).mono ?_
      rintro e1 w1 ⟨rfl, hb1⟩
      obtain ⟨hc1, hf1⟩ := bcell hb1
      have hz1 := hb1.size
      try simp at hz1
      go_wp2_with fail
      refine (hDH.out _).mono ?_
      rintro e2 w2 ⟨rfl, hb2⟩
      obtain ⟨hc2, hf2⟩ := bcell hb2
      have hz2 := hb2.size
      try simp at hz2
      go_wp2_with fail
      refine (hIH.out _).mono ?_
      rintro e3 w3 ⟨rfl, hb3⟩
      obtain ⟨hc3, hf3⟩ := bcell hb3
      have hz3 := hb3.size
      try simp at hz3
      go_wp2_with fail
      refine bp_ret ⟨?_, ?_, ?_, ?_⟩ rfl; rotate_left
      · (simp [results, Tryd.results49, go_sem, *]; rfl)
      rotate_left
      · repeat (first | exact Below.refl _ _ | assumption | (refine Below.alloc ?_ (by first | omega | (simp; done) | (simp; omega) | (simp at *; omega)) _) | (refine Below.setCell ?_ (by first | omega | (simp; done) | (simp; omega) | (simp at *; omega)) _) | (refine Below.trans ?_ (below_drewN _ _ _)) | (refine Below.drew ?_) | (refine Below.trans ?_ (Below.mono (by assumption) (by first | omega | (simp; done) | (simp; omega) | (simp at *; omega)))))
      · rfl
/-- A product with a factor, by a power of two; or an error. -/
def mulShiftR (a m s : Int) : Value := if s < 0 ∨ 31 < s then pairV (.int .i64 0) (some 1) else fitI (a * m / 2 ^ s.toNat)
theorem shr_in128 {x : Int} (n : Nat) (hx : in128 x) : in128 (x / 2 ^ n) := by
  have hp : (0 : Int) < 2 ^ n := by rw [natPow]; have := Nat.two_pow_pos n; omega
  exact ediv_in128 hx (by omega)
end Go.Proofs.YtmdnnlfoljdfpaaDoor
