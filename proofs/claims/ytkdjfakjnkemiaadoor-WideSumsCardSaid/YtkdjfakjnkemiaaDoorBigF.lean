/- Package fuseeref02's Power, MulDiv, MulShift. -/
import Derived.Test.YtkdjfakjnkemiaaDoorBigE
import Derived.Test.YtkdjfakjnkemiaaDoorNum
namespace Go.Proofs.YtkdjfakjnkemiaaDoor
open Go.RowKit

/-- A product divided, or a product with a factor divided by 2^s: the number, and which error. -/
def mdX (a b c : Int) : Int × Option Int := if c < 1 then (0, some 1) else if in64 (a * b / c) then (a * b / c, none) else (0, some 2)
def msX (a m s : Int) : Int × Option Int := if s < 0 ∨ 31 < s then (0, some 1) else mdX a m (2 ^ s.toNat)
def refP (r : Int × Option Int) : Value := .tuple #[.int .i64 r.1, .int .i64 (numV r.2)]
set_option maxHeartbeats 1000000 in
set_option maxRecDepth 100000 in
theorem ref_Power (N : Nat) (hN : N ≤ 127) (w : World) :
    Calls Tryd.prog 31 #[.int .i64 N] w fun e w' => e = .returned (.agg (bigV (2 ^ N))) ∧ Below w.heap.size w w' := by
  have hO := fun w => ref_one w
  unfold dgs rowF at hO
  have hOH := Lib.hid hO
  clear hO
  have hsz := bigA_size
  have hsd := dgs_size
  go_enter Tryd.func31, Tryd.ntmps31
  go_wp2_with fail
  refine (hOH.out _).mono ?_
  rintro e1 w1 ⟨rfl, hb1⟩
  obtain ⟨hc1, hf1⟩ := bcell hb1
  have hz1 := hb1.size
  try simp at hz1
  have hz1_0 : w.heap.size < w1.heap.size := by omega
  go_upto_block 0 with (fail)
  refine wp_gen (fun wd => wd.heap[w.heap.size]? = some (.cells (bigA false fun _ => 0) 67) ∧ wd.heap[w1.heap.size]? = some (.cells (bigA false (dgI (2 ^ 0))) 67) ∧ w1.heap.size < wd.heap.size ∧ Below w.heap.size w wd) ⟨row_past (blk hb1 (row_new rfl) (by simp)), row_new rfl, by simp, by repeat (first | exact Below.refl _ _ | assumption | (refine Below.alloc ?_ (by first | omega | (simp; done) | (simp; omega) | (simp at *; omega)) _) | (refine Below.setCell ?_ (by first | omega | (simp; done) | (simp; omega) | (simp at *; omega)) _) | (refine Below.trans ?_ (below_drewN _ _ _)) | (refine Below.drew ?_) | (refine Below.trans ?_ (Below.mono (by assumption) (by first | omega | (simp; done) | (simp; omega) | (simp at *; omega)))))⟩ ?_
  rintro wd ⟨g0, g1, hz, hb⟩
  clear hb1 hc1 hf1
  go_wp2_with fail
  go_loopw [4] (fun u wr => ∃ k : Nat, k ≤ N ∧ u = .int .i64 k ∧ wr.heap[w.heap.size]? = some (.cells (bigA false fun _ => 0) 67) ∧ wr.heap[w1.heap.size]? = some (.cells (bigA false (dgI (2 ^ k))) 67) ∧ w1.heap.size < wr.heap.size ∧ Below w.heap.size w wr) (fun u _ => N - (intOf u).toNat)
  case atStart => exact ⟨0, by omega, rfl, g0, g1, hz, hb⟩
  case round =>
    clear g0 g1 hz hb
    obtain ⟨k, hk, rfl, g0, g1, hz, hb⟩ := hrel
    by_cases h : k < N
    · have hT := fun w => ref_twice (2 ^ k) 0 (by omega) (by omega) w
      rw [Int.add_zero, Int.mul_comm, ← Int.pow_succ] at hT
      have l1 := ld_dig g1
      have hTH := Lib.hid hT
      have g0H := Lib.hid g0
      have g1H := Lib.hid g1
      clear g0 g1 hT
      have hlt : (k : Int) < (N : Int) := by omega
      go_wp2_with (first | (refine wpList_load_at _ _ rfl rfl _ rfl _ (by with_reducible assumption) ?_; go_simp) | (refine wpList_store_at _ _ _ rfl rfl _ rfl _ (by with_reducible assumption) (by rfl) ?_; go_simp))
      refine (hTH.out _).mono ?_
      rintro e w2 ⟨rfl, hb2⟩
      have k0 := blk hb2 g0H.out (by omega)
      have k1 := blk hb2 g1H.out hz
      have hs2 := hb2.size
      have st := st_dig (2 ^ (k + 1)) k1
      have k0H := Lib.hid (setRow_other (b' := w1.heap.size) (c' := bigA false (dgI (2 ^ (k + 1)))) k0 (by omega))
      have k1H := Lib.hid (setRow_at (c' := bigA false (dgI (2 ^ (k + 1)))) k1)
      have hbH := Lib.hid (below_setRow (b := w1.heap.size) (c := bigA false (dgI (2 ^ (k + 1)))) (hb.trans (hb2.mono (by omega))) (by omega))
      clear k0 k1
      go_wp2_with (first | (refine wpList_load_at _ _ rfl rfl _ rfl _ (by with_reducible assumption) ?_; go_simp) | (refine wpList_store_at _ _ _ rfl rfl _ rfl _ (by with_reducible assumption) (by rfl) ?_; go_simp))
      refine ⟨⟨k + 1, by omega, by go_num, k0H.out, k1H.out, ?_, hbH.out⟩, ?_⟩
      · rw [setRow_size]; omega
      · simp [intOf]; omega
    · have hkN : k = N := by omega
      subst hkN
      have l1 := ld_big g1
      have s1 := st_big false (dgI (2 ^ k)) g0
      have kH := Lib.hid (setRow_at (c' := bigA false (dgI (2 ^ k))) g0)
      have hbH := Lib.hid (below_setRow (b := w.heap.size) (c := bigA false (dgI (2 ^ k))) hb (Nat.le_refl _))
      clear g0 g1
      go_wp2_with (first | (refine wpList_load_at _ _ rfl rfl _ rfl _ (by with_reducible assumption) ?_; go_simp) | (refine wpList_store_at _ _ _ rfl rfl _ rfl _ (by with_reducible assumption) (by rfl) ?_; go_simp))
      refine bp_ret ?_ rfl
      refine ⟨.agg (bigA false (dgI (2 ^ k))), ret_cell (a := ⟨w.heap.size, 0, none⟩) Tryd.results31 ?_ (load67 kH.out rfl), ?_, hbH.out⟩
      · simp
      · rw [bigV_nn (Int.le_of_lt (two_pos k))]
theorem mul_in128' {a b : Int} (ha : in64 a) (hb : in64 b) : -(2 ^ 254) < a * b ∧ a * b < 2 ^ 254 := by
  have h := mul_in128 ha hb
  unfold in128 at h
  omega
theorem in64_lim {a : Int} (h : in64 a) : -(4294967296 ^ 4) < a ∧ a < 4294967296 ^ 4 := by unfold in64 at h; omega
theorem ediv_lim {x d : Int} (h0 : -(2 ^ 254) < x) (h1 : x < 2 ^ 254) (hd : 0 < d) : -(2 ^ 255) < x / d ∧ x / d < 2 ^ 255 := by
  have e := Int.mul_ediv_add_emod x d
  have r0 := Int.emod_nonneg x (Int.ne_of_gt hd)
  have r1 := Int.emod_lt_of_pos x hd
  rcases Int.lt_or_le x 0 with h | h
  · have a : x / d < 0 := Int.ediv_neg_of_neg_of_pos h hd
    have b := Int.mul_le_mul_of_nonpos_right (show 1 ≤ d from hd) (show x / d + 1 ≤ 0 by omega)
    rw [Int.mul_add, Int.mul_one] at b
    omega
  · have a : 0 ≤ x / d := Int.ediv_nonneg h (by omega)
    have b : x / d ≤ x := Int.ediv_le_self _ h
    omega
set_option maxHeartbeats 1000000 in
set_option maxRecDepth 100000 in
theorem ref_MulDiv (a b c : Int) (ha : in64 a) (hb : in64 b) (hc : in64 c) (w : World) :
    Calls Tryd.prog 37 #[.int .i64 a, .int .i64 b, .int .i64 c] w fun e w' => e = .returned (refP (mdX a b c)) ∧ Below w.heap.size w w' := by
  unfold refP mdX
  by_cases h : c < 1
  · rw [if_pos h]
    go_enter Tryd.func37, Tryd.ntmps37
    go_wp2_with fail
    refine bp_ret ⟨?_, ?_, ?_, ?_⟩ rfl; rotate_left
    · (simp [results, Tryd.results37, go_sem, *]; rfl)
    rotate_left
    · repeat (first | exact Below.refl _ _ | assumption | (refine Below.alloc ?_ (by first | omega | (simp; done) | (simp; omega) | (simp at *; omega)) _) | (refine Below.setCell ?_ (by first | omega | (simp; done) | (simp; omega) | (simp at *; omega)) _) | (refine Below.trans ?_ (below_drewN _ _ _)) | (refine Below.drew ?_) | (refine Below.trans ?_ (Below.mono (by assumption) (by first | omega | (simp; done) | (simp; omega) | (simp at *; omega)))))
    · rfl
  · rw [if_neg h]
    obtain ⟨p0, p1⟩ := mul_in128' ha hb
    have c0 : 0 < c := by omega
    have q := ediv_lim p0 p1 c0
    have h1 := Lib.hid (fun w => ref_Int a ha w)
    have h2 := Lib.hid (fun w => ref_Int b hb w)
    have h3 := Lib.hid (fun w => ref_Mul a b (in64_lim ha).1 (in64_lim ha).2 (in64_lim hb).1 (in64_lim hb).2 w)
    have h4 := Lib.hid (fun w => ref_Int c hc w)
    have c5 := fun w => ref_Div (a * b) c p0 p1 c0 (by have := (in64_lim hc).2; unfold in64 at hc; omega) w
    rw [bigV_open (a * b / c), bigV_open (a * b % c)] at c5
    unfold bigA at c5
    have h5 := Lib.hid c5
    have c6 := fun w => ref_Number (a * b / c) (by omega) (by omega) w
    rw [bigV_open (a * b / c)] at c6
    unfold bigA at c6
    by_cases hq : in64 (a * b / c)
    · rw [numR_yes hq] at c6
      rw [if_pos hq]
      have h6 := Lib.hid c6
      clear c5 c6 p0 p1 q
      go_enter Tryd.func37, Tryd.ntmps37
      go_wp2_with fail
      refine (h1.out _).mono ?_
      rintro e1 w1 ⟨rfl, hb1⟩
      obtain ⟨hc1, hf1⟩ := bcell hb1
      have hz1 := hb1.size
      try simp at hz1
      go_wp2_with fail
      refine (h2.out _).mono ?_
      rintro e2 w2 ⟨rfl, hb2⟩
      obtain ⟨hc2, hf2⟩ := bcell hb2
      have hz2 := hb2.size
      try simp at hz2
      go_wp2_with fail
      refine (h3.out _).mono ?_
      rintro e3 w3 ⟨rfl, hb3⟩
      obtain ⟨hc3, hf3⟩ := bcell hb3
      have hz3 := hb3.size
      try simp at hz3
      go_wp2_with fail
      refine (h4.out _).mono ?_
      rintro e4 w4 ⟨rfl, hb4⟩
      obtain ⟨hc4, hf4⟩ := bcell hb4
      have hz4 := hb4.size
      try simp at hz4
      go_wp2_with fail
      refine (h5.out _).mono ?_
      rintro e5 w5 ⟨rfl, hb5⟩
      obtain ⟨hc5, hf5⟩ := bcell hb5
      have hz5 := hb5.size
      try simp at hz5
      go_wp2_with fail
      refine (h6.out _).mono ?_
      rintro e6 w6 ⟨rfl, hb6⟩
      obtain ⟨hc6, hf6⟩ := bcell hb6
      have hz6 := hb6.size
      try simp at hz6
      go_wp2_with fail
      refine bp_ret ⟨?_, ?_, ?_, ?_⟩ rfl; rotate_left
      · (simp [results, Tryd.results37, go_sem, *]; rfl)
      rotate_left
      · repeat (first | exact Below.refl _ _ | assumption | (refine Below.alloc ?_ (by first | omega | (simp; done) | (simp; omega) | (simp at *; omega)) _) | (refine Below.setCell ?_ (by first | omega | (simp; done) | (simp; omega) | (simp at *; omega)) _) | (refine Below.trans ?_ (below_drewN _ _ _)) | (refine Below.drew ?_) | (refine Below.trans ?_ (Below.mono (by assumption) (by first | omega | (simp; done) | (simp; omega) | (simp at *; omega)))))
      · rfl
    · rw [numR_no hq] at c6
      rw [if_neg hq]
      have h6 := Lib.hid c6
      clear c5 c6 p0 p1 q
      go_enter Tryd.func37, Tryd.ntmps37
      go_wp2_with fail
      refine (h1.out _).mono ?_
      rintro e1 w1 ⟨rfl, hb1⟩
      obtain ⟨hc1, hf1⟩ := bcell hb1
      have hz1 := hb1.size
      try simp at hz1
      go_wp2_with fail
      refine (h2.out _).mono ?_
      rintro e2 w2 ⟨rfl, hb2⟩
      obtain ⟨hc2, hf2⟩ := bcell hb2
      have hz2 := hb2.size
      try simp at hz2
      go_wp2_with fail
      refine (h3.out _).mono ?_
      rintro e3 w3 ⟨rfl, hb3⟩
      obtain ⟨hc3, hf3⟩ := bcell hb3
      have hz3 := hb3.size
      try simp at hz3
      go_wp2_with fail
      refine (h4.out _).mono ?_
      rintro e4 w4 ⟨rfl, hb4⟩
      obtain ⟨hc4, hf4⟩ := bcell hb4
      have hz4 := hb4.size
      try simp at hz4
      go_wp2_with fail
      refine (h5.out _).mono ?_
      rintro e5 w5 ⟨rfl, hb5⟩
      obtain ⟨hc5, hf5⟩ := bcell hb5
      have hz5 := hb5.size
      try simp at hz5
      go_wp2_with fail
      refine (h6.out _).mono ?_
      rintro e6 w6 ⟨rfl, hb6⟩
      obtain ⟨hc6, hf6⟩ := bcell hb6
      have hz6 := hb6.size
      try simp at hz6
      go_wp2_with fail
      refine bp_ret ⟨?_, ?_, ?_, ?_⟩ rfl; rotate_left
      · (simp [results, Tryd.results37, go_sem, *]; rfl)
      rotate_left
      · repeat (first | exact Below.refl _ _ | assumption | (refine Below.alloc ?_ (by first | omega | (simp; done) | (simp; omega) | (simp at *; omega)) _) | (refine Below.setCell ?_ (by first | omega | (simp; done) | (simp; omega) | (simp at *; omega)) _) | (refine Below.trans ?_ (below_drewN _ _ _)) | (refine Below.drew ?_) | (refine Below.trans ?_ (Below.mono (by assumption) (by first | omega | (simp; done) | (simp; omega) | (simp at *; omega)))))
      · rfl
theorem ref_MulShift (a m s : Int) (ha : in64 a) (m0 : 0 ≤ m) (m1 : m < 4294967296) (hs : in64 s) (w : World) :
    Calls Tryd.prog 39 #[.int .i64 a, .int .u32 m, .int .i64 s] w fun e w' => e = .returned (refP (msX a m s)) ∧ Below w.heap.size w w' := by
  unfold msX
  by_cases h : s < 0
  · rw [if_pos (.inl h)]
    go_enter Tryd.func39, Tryd.ntmps39
    go_wp2_with fail
    refine bp_ret ⟨?_, ?_, ?_, ?_⟩ rfl; rotate_left
    · (simp [results, Tryd.results39, go_sem, *]; rfl)
    rotate_left
    · repeat (first | exact Below.refl _ _ | assumption | (refine Below.alloc ?_ (by first | omega | (simp; done) | (simp; omega) | (simp at *; omega)) _) | (refine Below.setCell ?_ (by first | omega | (simp; done) | (simp; omega) | (simp at *; omega)) _) | (refine Below.trans ?_ (below_drewN _ _ _)) | (refine Below.drew ?_) | (refine Below.trans ?_ (Below.mono (by assumption) (by first | omega | (simp; done) | (simp; omega) | (simp at *; omega)))))
    · rfl
  · by_cases h' : 31 < s
    · rw [if_pos (.inr h')]
      have h0 : 0 ≤ s := by omega
      clear h
      go_enter Tryd.func39, Tryd.ntmps39
      go_wp2_with fail
      refine bp_ret ⟨?_, ?_, ?_, ?_⟩ rfl; rotate_left
      · (simp [results, Tryd.results39, go_sem, *]; rfl)
      rotate_left
      · repeat (first | exact Below.refl _ _ | assumption | (refine Below.alloc ?_ (by first | omega | (simp; done) | (simp; omega) | (simp at *; omega)) _) | (refine Below.setCell ?_ (by first | omega | (simp; done) | (simp; omega) | (simp at *; omega)) _) | (refine Below.trans ?_ (below_drewN _ _ _)) | (refine Below.drew ?_) | (refine Below.trans ?_ (Below.mono (by assumption) (by first | omega | (simp; done) | (simp; omega) | (simp at *; omega)))))
      · rfl
    · rw [if_neg (by omega)]
      obtain ⟨n, rfl⟩ : ∃ n : Nat, s = n := ⟨s.toNat, by omega⟩
      have hn : n ≤ 31 := by omega
      have p1 : (2 : Int) ^ n ≤ 2147483648 := by
        rw [natPow]
        have := Nat.pow_le_pow_right (show 0 < 2 by omega) hn
        omega
      have p0 := two_pos n
      have hp : in64 (2 ^ n) := by unfold in64; omega
      have wp : wrap64 (2 ^ n) = 2 ^ n := by unfold wrap64; omega
      have wpH := Lib.hid wp
      have c1 := fun w => ref_MulDiv a m (2 ^ n) ha (by unfold in64; omega) hp w
      rw [Int.toNat_natCast]
      have h1 := Lib.hid c1
      clear c1 h h' wp p0 p1
      generalize mdX a m (2 ^ n) = r at *
      unfold refP at *
      have hn' : (n : Int) ≤ 31 := by omega
      go_enter Tryd.func39, Tryd.ntmps39
      go_wp2_with fail
      rw [wpH.out]
      refine (h1.out _).mono ?_
      rintro e1 w1 ⟨rfl, hb1⟩
      obtain ⟨hc1, hf1⟩ := bcell hb1
      have hz1 := hb1.size
      try simp at hz1
      go_wp2_with fail
      refine bp_ret ⟨?_, ?_, ?_, ?_⟩ rfl; rotate_left
      · (simp [results, Tryd.results39, go_sem, *]; rfl)
      rotate_left
      · repeat (first | exact Below.refl _ _ | assumption | (refine Below.alloc ?_ (by first | omega | (simp; done) | (simp; omega) | (simp at *; omega)) _) | (refine Below.setCell ?_ (by first | omega | (simp; done) | (simp; omega) | (simp at *; omega)) _) | (refine Below.trans ?_ (below_drewN _ _ _)) | (refine Below.drew ?_) | (refine Below.trans ?_ (Below.mono (by assumption) (by first | omega | (simp; done) | (simp; omega) | (simp at *; omega)))))
      · rfl
end Go.Proofs.YtkdjfakjnkemiaaDoor
