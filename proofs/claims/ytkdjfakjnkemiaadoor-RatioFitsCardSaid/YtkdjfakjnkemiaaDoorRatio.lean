/- Package ratio's functions but Fit, and what they call of package num. -/
import Derived.Test.YtkdjfakjnkemiaaDoorWide4
namespace Go.Proofs.YtkdjfakjnkemiaaDoor
open Go.RowKit

theorem num_Add (a b : Int) (ha : in64 a) (hb : in64 b) (w : World) :
    Calls Tryd.prog 87 #[.int .i64 a, .int .i64 b] w fun e w' => e = .returned (fitI (a + b)) ∧ Below w.heap.size w w' := by
  obtain ⟨a1, a2⟩ := ha
  obtain ⟨b1, b2⟩ := hb
  have hB := Lib.hid (And.intro (And.intro a1 a2) (And.intro b1 b2))
  clear a1 a2 b1 b2
  by_cases c1 : wrap64 (a + b) < a
  all_goals by_cases c2 : b < 0
  all_goals
    have cH := Lib.hid c1
    have dH := Lib.hid c2
    go_enter Tryd.func87, Tryd.ntmps87
    go_wp2
    refine bp_ret ⟨?_, ?_, ?_, ?_⟩ rfl; rotate_left
    · (simp [results, Tryd.results87, go_sem, *]; rfl)
    rotate_left
    · repeat (first | exact Below.refl _ _ | assumption | (refine Below.alloc ?_ (by first | omega | (simp; done) | (simp; omega) | (simp at *; omega)) _) | (refine Below.setCell ?_ (by first | omega | (simp; done) | (simp; omega) | (simp at *; omega)) _) | (refine Below.trans ?_ (below_drewN _ _ _)) | (refine Below.drew ?_) | (refine Below.trans ?_ (Below.mono (by assumption) (by first | omega | (simp; done) | (simp; omega) | (simp at *; omega)))))
    · obtain ⟨⟨a1, a2⟩, b1, b2⟩ := hB.out
      have c1 := cH.out
      have c2 := dH.out
      unfold wrap64 at c1
      first
      | rw [fitI_neg (by unfold in64; omega)]
      | (rw [fitI_pos (by unfold in64; omega)]
         exact ret_eq (congrArg (fun v => Value.tuple #[Value.int .i64 v, .nilIface]) (by unfold wrap64; omega)))
def clampI (v lo hi : Int) : Int := max lo (min v hi)
theorem num_Clamp (v lo hi : Int) (w : World) :
    Calls Tryd.prog 85 #[.int .i64 v, .int .i64 lo, .int .i64 hi] w fun e w' => e = .returned (.int .i64 (clampI v lo hi)) ∧ Below w.heap.size w w' := by
  go_enter Tryd.func85, Tryd.ntmps85
  go_wp2
  refine bp_ret ⟨?_, ?_, ?_, ?_⟩ rfl; rotate_left
  · (simp [results, Tryd.results85, go_sem, *]; rfl)
  rotate_left
  · repeat (first | exact Below.refl _ _ | assumption | (refine Below.alloc ?_ (by first | omega | (simp; done) | (simp; omega) | (simp at *; omega)) _) | (refine Below.setCell ?_ (by first | omega | (simp; done) | (simp; omega) | (simp at *; omega)) _) | (refine Below.trans ?_ (below_drewN _ _ _)) | (refine Below.drew ?_) | (refine Below.trans ?_ (Below.mono (by assumption) (by first | omega | (simp; done) | (simp; omega) | (simp at *; omega)))))
  · rfl
/-- A factor as a value; whether it may be. -/
def fv (m s : Int) : Value := .agg #[.int .u32 m, .int .i64 s]
def mayF (m s : Int) : Prop := m ≠ 0 ∧ 0 ≤ s ∧ s ≤ 31
instance (m s : Int) : Decidable (mayF m s) := inferInstanceAs (Decidable (_ ∧ _))
theorem ratio_Check_yes (m s : Int) (h : mayF m s) (w : World) :
    Calls Tryd.prog 44 #[fv m s] w fun e w' => e = .returned .nilIface ∧ Below w.heap.size w w' := by
  obtain ⟨h1, h2, h3⟩ := h
  unfold fv
  go_enter Tryd.func44, Tryd.ntmps44
  go_wp2
  all_goals
    refine bp_ret ⟨?_, ?_, ?_, ?_⟩ rfl; rotate_left
    · (simp [results, Tryd.results44, go_sem, *]; rfl)
    rotate_left
    · repeat (first | exact Below.refl _ _ | assumption | (refine Below.alloc ?_ (by first | omega | (simp; done) | (simp; omega) | (simp at *; omega)) _) | (refine Below.setCell ?_ (by first | omega | (simp; done) | (simp; omega) | (simp at *; omega)) _) | (refine Below.trans ?_ (below_drewN _ _ _)) | (refine Below.drew ?_) | (refine Below.trans ?_ (Below.mono (by assumption) (by first | omega | (simp; done) | (simp; omega) | (simp at *; omega)))))
    · first | rfl | (exfalso; rename_i hq; simp at hq; omega)
theorem ratio_Check_no (m s : Int) (h : ¬ mayF m s) (w : World) :
    Calls Tryd.prog 44 #[fv m s] w fun e w' => e = .returned (.iface 122 (.int .i64 1)) ∧ Below w.heap.size w w' := by
  unfold fv mayF at *
  have hH := Lib.hid h
  clear h
  go_enter Tryd.func44, Tryd.ntmps44
  go_wp2
  all_goals
    refine bp_ret ⟨?_, ?_, ?_, ?_⟩ rfl; rotate_left
    · (simp [results, Tryd.results44, go_sem, *]; rfl)
    rotate_left
    · repeat (first | exact Below.refl _ _ | assumption | (refine Below.alloc ?_ (by first | omega | (simp; done) | (simp; omega) | (simp at *; omega)) _) | (refine Below.setCell ?_ (by first | omega | (simp; done) | (simp; omega) | (simp at *; omega)) _) | (refine Below.trans ?_ (below_drewN _ _ _)) | (refine Below.drew ?_) | (refine Below.trans ?_ (Below.mono (by assumption) (by first | omega | (simp; done) | (simp; omega) | (simp at *; omega)))))
    · first | rfl | (exfalso; rename_i hq; simp at hq; have hn := hH.out; omega)
/-- A factor that is so many parts more; or an error. -/
def adjR (m s by_ : Int) : Value :=
  if mayF m s then
    (if 1 ≤ m * (1073741824 + clampI by_ (-1073741824) 1073741824) / 1073741824 ∧ m * (1073741824 + clampI by_ (-1073741824) 1073741824) / 1073741824 < 4294967296
      then pairV (fv (m * (1073741824 + clampI by_ (-1073741824) 1073741824) / 1073741824) s) none else pairV (fv 0 0) (some 2))
  else pairV (fv 0 0) (some 1)
theorem clamp_parts (v : Int) : -1073741824 ≤ clampI v (-1073741824) 1073741824 ∧ clampI v (-1073741824) 1073741824 ≤ 1073741824 := by unfold clampI; omega
set_option maxRecDepth 100000 in
theorem ratio_Adjust (m s b : Int) (hm : 0 ≤ m) (hm2 : m < 4294967296) (w : World) :
    Calls Tryd.prog 45 #[fv m s, .int .i64 b] w fun e w' => e = .returned (adjR m s b) ∧ Below w.heap.size w w' := by
  unfold adjR
  by_cases h1 : mayF m s
  · rw [if_pos h1]
    have c1 := Lib.hid (fun w => ratio_Check_yes m s h1 w)
    have c2 := Lib.hid (fun w => num_Clamp b (-1073741824) 1073741824 w)
    obtain ⟨k1, k2⟩ := clamp_parts b
    generalize clampI b (-1073741824) 1073741824 = C at *
    have hp0 : 0 ≤ m * (1073741824 + C) := Int.mul_nonneg hm (by omega)
    have hp1 : m * (1073741824 + C) ≤ 4294967295 * 2147483648 := Int.mul_le_mul (by omega) (by omega) (by omega) (by omega)
    have c3 := fun w => wide_MulDiv m (1073741824 + C) 1073741824 (by unfold in64; omega) (by unfold in64; omega) (by unfold in64; omega) w
    unfold mulDivR at c3
    rw [if_neg (by omega), fitI_pos (by unfold in64; omega)] at c3
    have hn0 : 0 ≤ m * (1073741824 + C) / 1073741824 := Int.ediv_nonneg hp0 (by omega)
    have hn1 : m * (1073741824 + C) / 1073741824 < 8589934592 := by omega
    clear hp0 hp1 h1
    generalize m * (1073741824 + C) / 1073741824 = N at *
    have c3H := Lib.hid c3
    clear c3
    unfold fv at *
    by_cases h2 : 1 ≤ N ∧ N < 4294967296
    · rw [if_pos h2]
      obtain ⟨h3, h4⟩ := h2
      go_enter Tryd.func45, Tryd.ntmps45
      go_wp2_with fail
      refine (c1.out _).mono ?_
      rintro e1 w1 ⟨rfl, hb1⟩
      obtain ⟨hc1, hf1⟩ := bcell hb1
      have hz1 := hb1.size
      try simp at hz1
      have hz1_0 : w.heap.size < w1.heap.size := by omega
      have hz1_1 : w.heap.size + 1 < w1.heap.size := by omega
      go_wp2_with fail
      refine (c2.out _).mono ?_
      rintro e2 w2 ⟨rfl, hb2⟩
      obtain ⟨hc2, hf2⟩ := bcell hb2
      have hz2 := hb2.size
      try simp at hz2
      have hz2_0 : w.heap.size < w2.heap.size := by omega
      have hz2_1 : w.heap.size + 1 < w2.heap.size := by omega
      go_wp2_with fail
      refine (c3H.out _).mono ?_
      rintro e3 w3 ⟨rfl, hb3⟩
      obtain ⟨hc3, hf3⟩ := bcell hb3
      have hz3 := hb3.size
      try simp at hz3
      have hz3_0 : w.heap.size < w3.heap.size := by omega
      have hz3_1 : w.heap.size + 1 < w3.heap.size := by omega
      go_wp2_with fail
      refine bp_ret ⟨?_, ?_, ?_, ?_⟩ rfl; rotate_left
      · (simp [results, Tryd.results45, go_sem, *]; rfl)
      rotate_left
      · repeat (first | exact Below.refl _ _ | assumption | (refine Below.alloc ?_ (by first | omega | (simp; done) | (simp; omega) | (simp at *; omega)) _) | (refine Below.setCell ?_ (by first | omega | (simp; done) | (simp; omega) | (simp at *; omega)) _) | (refine Below.trans ?_ (below_drewN _ _ _)) | (refine Below.drew ?_) | (refine Below.trans ?_ (Below.mono (by assumption) (by first | omega | (simp; done) | (simp; omega) | (simp at *; omega)))))
      · rfl
    · rw [if_neg h2]
      by_cases h3 : 1 ≤ N
      · have h4 : 4294967296 ≤ N := by omega
        clear h2
        go_enter Tryd.func45, Tryd.ntmps45
        go_wp2_with fail
        refine (c1.out _).mono ?_
        rintro e1 w1 ⟨rfl, hb1⟩
        obtain ⟨hc1, hf1⟩ := bcell hb1
        have hz1 := hb1.size
        try simp at hz1
        have hz1_0 : w.heap.size < w1.heap.size := by omega
        have hz1_1 : w.heap.size + 1 < w1.heap.size := by omega
        go_wp2_with fail
        refine (c2.out _).mono ?_
        rintro e2 w2 ⟨rfl, hb2⟩
        obtain ⟨hc2, hf2⟩ := bcell hb2
        have hz2 := hb2.size
        try simp at hz2
        have hz2_0 : w.heap.size < w2.heap.size := by omega
        have hz2_1 : w.heap.size + 1 < w2.heap.size := by omega
        go_wp2_with fail
        refine (c3H.out _).mono ?_
        rintro e3 w3 ⟨rfl, hb3⟩
        obtain ⟨hc3, hf3⟩ := bcell hb3
        have hz3 := hb3.size
        try simp at hz3
        have hz3_0 : w.heap.size < w3.heap.size := by omega
        have hz3_1 : w.heap.size + 1 < w3.heap.size := by omega
        go_wp2_with fail
        refine bp_ret ⟨?_, ?_, ?_, ?_⟩ rfl; rotate_left
        · (simp [results, Tryd.results45, go_sem, *]; rfl)
        rotate_left
        · repeat (first | exact Below.refl _ _ | assumption | (refine Below.alloc ?_ (by first | omega | (simp; done) | (simp; omega) | (simp at *; omega)) _) | (refine Below.setCell ?_ (by first | omega | (simp; done) | (simp; omega) | (simp at *; omega)) _) | (refine Below.trans ?_ (below_drewN _ _ _)) | (refine Below.drew ?_) | (refine Below.trans ?_ (Below.mono (by assumption) (by first | omega | (simp; done) | (simp; omega) | (simp at *; omega)))))
        · rfl
      · clear h2
        go_enter Tryd.func45, Tryd.ntmps45
        go_wp2_with fail
        refine (c1.out _).mono ?_
        rintro e1 w1 ⟨rfl, hb1⟩
        obtain ⟨hc1, hf1⟩ := bcell hb1
        have hz1 := hb1.size
        try simp at hz1
        have hz1_0 : w.heap.size < w1.heap.size := by omega
        have hz1_1 : w.heap.size + 1 < w1.heap.size := by omega
        go_wp2_with fail
        refine (c2.out _).mono ?_
        rintro e2 w2 ⟨rfl, hb2⟩
        obtain ⟨hc2, hf2⟩ := bcell hb2
        have hz2 := hb2.size
        try simp at hz2
        have hz2_0 : w.heap.size < w2.heap.size := by omega
        have hz2_1 : w.heap.size + 1 < w2.heap.size := by omega
        go_wp2_with fail
        refine (c3H.out _).mono ?_
        rintro e3 w3 ⟨rfl, hb3⟩
        obtain ⟨hc3, hf3⟩ := bcell hb3
        have hz3 := hb3.size
        try simp at hz3
        have hz3_0 : w.heap.size < w3.heap.size := by omega
        have hz3_1 : w.heap.size + 1 < w3.heap.size := by omega
        go_wp2_with fail
        refine bp_ret ⟨?_, ?_, ?_, ?_⟩ rfl; rotate_left
        · (simp [results, Tryd.results45, go_sem, *]; rfl)
        rotate_left
        · repeat (first | exact Below.refl _ _ | assumption | (refine Below.alloc ?_ (by first | omega | (simp; done) | (simp; omega) | (simp at *; omega)) _) | (refine Below.setCell ?_ (by first | omega | (simp; done) | (simp; omega) | (simp at *; omega)) _) | (refine Below.trans ?_ (below_drewN _ _ _)) | (refine Below.drew ?_) | (refine Below.trans ?_ (Below.mono (by assumption) (by first | omega | (simp; done) | (simp; omega) | (simp at *; omega)))))
        · rfl
  · rw [if_neg h1]
    have c1 := Lib.hid (fun w => ratio_Check_no m s h1 w)
    clear h1
    unfold fv at *
    go_enter Tryd.func45, Tryd.ntmps45
    go_wp2_with fail
    refine (c1.out _).mono ?_
    rintro e1 w1 ⟨rfl, hb1⟩
    obtain ⟨hc1, hf1⟩ := bcell hb1
    have hz1 := hb1.size
    try simp at hz1
    have hz1_0 : w.heap.size < w1.heap.size := by omega
    have hz1_1 : w.heap.size + 1 < w1.heap.size := by omega
    go_wp2_with fail
    refine bp_ret ⟨?_, ?_, ?_, ?_⟩ rfl; rotate_left
    · (simp [results, Tryd.results45, go_sem, *]; rfl)
    rotate_left
    · repeat (first | exact Below.refl _ _ | assumption | (refine Below.alloc ?_ (by first | omega | (simp; done) | (simp; omega) | (simp at *; omega)) _) | (refine Below.setCell ?_ (by first | omega | (simp; done) | (simp; omega) | (simp at *; omega)) _) | (refine Below.trans ?_ (below_drewN _ _ _)) | (refine Below.drew ?_) | (refine Below.trans ?_ (Below.mono (by assumption) (by first | omega | (simp; done) | (simp; omega) | (simp at *; omega)))))
    · rfl
/-- A number scaled by a factor; or an error. -/
def scaleR (m s n : Int) : Value := if mayF m s then mulShiftR n m s else pairV (.int .i64 0) (some 1)
theorem fitI_tuple (x : Int) : ∃ r : Int, ∃ e : Option Int, fitI x = .tuple #[.int .i64 r, errV e] := by
  unfold fitI pairV
  split
  · exact ⟨_, _, rfl⟩
  · exact ⟨_, _, rfl⟩
theorem mulDivR_tuple (a b c : Int) : ∃ r : Int, ∃ e : Option Int, mulDivR a b c = .tuple #[.int .i64 r, errV e] := by
  unfold mulDivR pairV
  split
  · exact ⟨_, _, rfl⟩
  · exact fitI_tuple _
theorem mulShiftR_tuple (a m s : Int) : ∃ r : Int, ∃ e : Option Int, mulShiftR a m s = .tuple #[.int .i64 r, errV e] := by
  unfold mulShiftR fitI pairV
  split
  · exact ⟨_, _, rfl⟩
  · split
    · exact ⟨_, _, rfl⟩
    · exact ⟨_, _, rfl⟩
set_option maxRecDepth 100000 in
theorem ratio_Scale (m s n : Int) (hm : 0 ≤ m) (hm2 : m < 4294967296) (hn : in64 n) (w : World) :
    Calls Tryd.prog 49 #[fv m s, .int .i64 n] w fun e w' => e = .returned (scaleR m s n) ∧ Below w.heap.size w w' := by
  unfold scaleR
  by_cases h1 : mayF m s
  · rw [if_pos h1]
    have c1 := Lib.hid (fun w => ratio_Check_yes m s h1 w)
    have c2 := fun w => wide_MulShift n m s hn hm hm2 w
    obtain ⟨r, e, he⟩ := mulShiftR_tuple n m s
    rw [he] at c2 ⊢
    have c2H := Lib.hid c2
    clear c2 he h1 hn
    unfold fv at *
    cases e with
    | none =>
      unfold errV at *
      go_enter Tryd.func49, Tryd.ntmps49
      go_wp2_with fail
      refine (c1.out _).mono ?_
      rintro e1 w1 ⟨rfl, hb1⟩
      obtain ⟨hc1, hf1⟩ := bcell hb1
      have hz1 := hb1.size
      try simp at hz1
      have hz1_0 : w.heap.size < w1.heap.size := by omega
      go_wp2_with fail
      refine (c2H.out _).mono ?_
      rintro e2 w2 ⟨rfl, hb2⟩
      obtain ⟨hc2, hf2⟩ := bcell hb2
      have hz2 := hb2.size
      try simp at hz2
      have hz2_0 : w.heap.size < w2.heap.size := by omega
      go_wp2_with fail
      refine bp_ret ⟨?_, ?_, ?_, ?_⟩ rfl; rotate_left
      · (simp [results, Tryd.results49, go_sem, *]; rfl)
      rotate_left
      · repeat (first | exact Below.refl _ _ | assumption | (refine Below.alloc ?_ (by first | omega | (simp; done) | (simp; omega) | (simp at *; omega)) _) | (refine Below.setCell ?_ (by first | omega | (simp; done) | (simp; omega) | (simp at *; omega)) _) | (refine Below.trans ?_ (below_drewN _ _ _)) | (refine Below.drew ?_) | (refine Below.trans ?_ (Below.mono (by assumption) (by first | omega | (simp; done) | (simp; omega) | (simp at *; omega)))))
      · rfl
    | some k =>
      unfold errV at *
      go_enter Tryd.func49, Tryd.ntmps49
      go_wp2_with fail
      refine (c1.out _).mono ?_
      rintro e1 w1 ⟨rfl, hb1⟩
      obtain ⟨hc1, hf1⟩ := bcell hb1
      have hz1 := hb1.size
      try simp at hz1
      have hz1_0 : w.heap.size < w1.heap.size := by omega
      go_wp2_with fail
      refine (c2H.out _).mono ?_
      rintro e2 w2 ⟨rfl, hb2⟩
      obtain ⟨hc2, hf2⟩ := bcell hb2
      have hz2 := hb2.size
      try simp at hz2
      have hz2_0 : w.heap.size < w2.heap.size := by omega
      go_wp2_with fail
      refine bp_ret ⟨?_, ?_, ?_, ?_⟩ rfl; rotate_left
      · (simp [results, Tryd.results49, go_sem, *]; rfl)
      rotate_left
      · repeat (first | exact Below.refl _ _ | assumption | (refine Below.alloc ?_ (by first | omega | (simp; done) | (simp; omega) | (simp at *; omega)) _) | (refine Below.setCell ?_ (by first | omega | (simp; done) | (simp; omega) | (simp at *; omega)) _) | (refine Below.trans ?_ (below_drewN _ _ _)) | (refine Below.drew ?_) | (refine Below.trans ?_ (Below.mono (by assumption) (by first | omega | (simp; done) | (simp; omega) | (simp at *; omega)))))
      · rfl
  · rw [if_neg h1]
    have c1 := Lib.hid (fun w => ratio_Check_no m s h1 w)
    clear h1 hn
    unfold fv at *
    go_enter Tryd.func49, Tryd.ntmps49
    go_wp2_with fail
    refine (c1.out _).mono ?_
    rintro e1 w1 ⟨rfl, hb1⟩
    obtain ⟨hc1, hf1⟩ := bcell hb1
    have hz1 := hb1.size
    try simp at hz1
    have hz1_0 : w.heap.size < w1.heap.size := by omega
    go_wp2_with fail
    refine bp_ret ⟨?_, ?_, ?_, ?_⟩ rfl; rotate_left
    · (simp [results, Tryd.results49, go_sem, *]; rfl)
    rotate_left
    · repeat (first | exact Below.refl _ _ | assumption | (refine Below.alloc ?_ (by first | omega | (simp; done) | (simp; omega) | (simp at *; omega)) _) | (refine Below.setCell ?_ (by first | omega | (simp; done) | (simp; omega) | (simp at *; omega)) _) | (refine Below.trans ?_ (below_drewN _ _ _)) | (refine Below.drew ?_) | (refine Below.trans ?_ (Below.mono (by assumption) (by first | omega | (simp; done) | (simp; omega) | (simp at *; omega)))))
    · rfl
/-- How far a scaled number may be off; or an error. -/
def offR (m s n : Int) : Value := if mayF m s ∧ 0 ≤ n then fitI (n / 2 ^ s.toNat + 2) else pairV (.int .i64 0) (some 1)
set_option maxRecDepth 100000 in
theorem ratio_Off (m s n : Int) (hn : in64 n) (w : World) :
    Calls Tryd.prog 50 #[fv m s, .int .i64 n] w fun e w' => e = .returned (offR m s n) ∧ Below w.heap.size w w' := by
  unfold offR
  by_cases h1 : mayF m s
  · have c1 := Lib.hid (fun w => ratio_Check_yes m s h1 w)
    obtain ⟨n1, n2⟩ := hn
    obtain ⟨h0, s0, s1⟩ := h1
    by_cases h2 : 0 ≤ n
    · rw [if_pos ⟨⟨h0, s0, s1⟩, h2⟩]
      obtain ⟨k, rfl⟩ := Int.eq_ofNat_of_zero_le s0
      rw [Int.toNat_natCast]
      have hp : (0 : Int) < 2 ^ k := by rw [natPow]; have := Nat.two_pow_pos k; omega
      have q0 : 0 ≤ n / 2 ^ k := Int.ediv_nonneg h2 (by omega)
      have q1 : n / 2 ^ k ≤ n := Int.ediv_le_self _ h2
      have c := fun w => num_Add (n / 2 ^ k) 2 (by unfold in64; omega) (by unfold in64; omega) w
      obtain ⟨r, e, he⟩ := fitI_tuple (n / 2 ^ k + 2)
      rw [he] at c ⊢
      have c2 := Lib.hid c
      clear c he n1 n2 q0 q1 hp h0
      unfold fv at *
      go_enter Tryd.func50, Tryd.ntmps50
      go_wp2_with fail
      refine (c1.out _).mono ?_
      rintro e1 w1 ⟨rfl, hb1⟩
      obtain ⟨hc1, hf1⟩ := bcell hb1
      have hz1 := hb1.size
      try simp at hz1
      have hz1_0 : w.heap.size < w1.heap.size := by omega
      go_wp2_with fail
      refine (c2.out _).mono ?_
      rintro e2 w2 ⟨rfl, hb2⟩
      obtain ⟨hc2, hf2⟩ := bcell hb2
      have hz2 := hb2.size
      try simp at hz2
      have hz2_0 : w.heap.size < w2.heap.size := by omega
      go_wp2_with fail
      refine bp_ret ⟨?_, ?_, ?_, ?_⟩ rfl; rotate_left
      · (simp [results, Tryd.results50, go_sem, *]; rfl)
      rotate_left
      · repeat (first | exact Below.refl _ _ | assumption | (refine Below.alloc ?_ (by first | omega | (simp; done) | (simp; omega) | (simp at *; omega)) _) | (refine Below.setCell ?_ (by first | omega | (simp; done) | (simp; omega) | (simp at *; omega)) _) | (refine Below.trans ?_ (below_drewN _ _ _)) | (refine Below.drew ?_) | (refine Below.trans ?_ (Below.mono (by assumption) (by first | omega | (simp; done) | (simp; omega) | (simp at *; omega)))))
      · rfl
    · rw [if_neg (fun h => h2 h.2)]
      clear n1 n2 h0
      unfold fv at *
      go_enter Tryd.func50, Tryd.ntmps50
      go_wp2_with fail
      refine (c1.out _).mono ?_
      rintro e1 w1 ⟨rfl, hb1⟩
      obtain ⟨hc1, hf1⟩ := bcell hb1
      have hz1 := hb1.size
      try simp at hz1
      have hz1_0 : w.heap.size < w1.heap.size := by omega
      go_wp2_with fail
      refine bp_ret ⟨?_, ?_, ?_, ?_⟩ rfl; rotate_left
      · (simp [results, Tryd.results50, go_sem, *]; rfl)
      rotate_left
      · repeat (first | exact Below.refl _ _ | assumption | (refine Below.alloc ?_ (by first | omega | (simp; done) | (simp; omega) | (simp at *; omega)) _) | (refine Below.setCell ?_ (by first | omega | (simp; done) | (simp; omega) | (simp at *; omega)) _) | (refine Below.trans ?_ (below_drewN _ _ _)) | (refine Below.drew ?_) | (refine Below.trans ?_ (Below.mono (by assumption) (by first | omega | (simp; done) | (simp; omega) | (simp at *; omega)))))
      · rfl
  · rw [if_neg (fun h => h1 h.1)]
    have c1 := Lib.hid (fun w => ratio_Check_no m s h1 w)
    clear h1 hn
    unfold fv at *
    go_enter Tryd.func50, Tryd.ntmps50
    go_wp2_with fail
    refine (c1.out _).mono ?_
    rintro e1 w1 ⟨rfl, hb1⟩
    obtain ⟨hc1, hf1⟩ := bcell hb1
    have hz1 := hb1.size
    try simp at hz1
    have hz1_0 : w.heap.size < w1.heap.size := by omega
    go_wp2_with fail
    refine bp_ret ⟨?_, ?_, ?_, ?_⟩ rfl; rotate_left
    · (simp [results, Tryd.results50, go_sem, *]; rfl)
    rotate_left
    · repeat (first | exact Below.refl _ _ | assumption | (refine Below.alloc ?_ (by first | omega | (simp; done) | (simp; omega) | (simp at *; omega)) _) | (refine Below.setCell ?_ (by first | omega | (simp; done) | (simp; omega) | (simp at *; omega)) _) | (refine Below.trans ?_ (below_drewN _ _ _)) | (refine Below.drew ?_) | (refine Below.trans ?_ (Below.mono (by assumption) (by first | omega | (simp; done) | (simp; omega) | (simp at *; omega)))))
    · rfl
theorem ratio_at (a b : Int) (n : Nat) (ha : in64 a) (hb : in64 b) (hn : n ≤ 31) (w : World) :
    Calls Tryd.prog 86 #[.int .u64 a, .int .u64 b, .int .i64 n] w fun e w' => e = .returned (mulDivR a (2 ^ n) b) ∧ Below w.heap.size w w' := by
  have p0 : (0 : Int) < 2 ^ n := by rw [natPow]; have := Nat.two_pow_pos n; omega
  have p1 : (2 : Int) ^ n ≤ 2147483648 := by
    rw [natPow]
    have := Nat.pow_le_pow_right (show 0 < 2 by omega) hn
    omega
  have c := fun w => wide_MulDiv a (2 ^ n) b ha (by unfold in64; omega) hb w
  obtain ⟨r, e, he⟩ := mulDivR_tuple a (2 ^ n) b
  rw [he] at c ⊢
  clear he
  have wa : wrap64 a = a := by unfold in64 at ha; unfold wrap64; omega
  have wb : wrap64 b = b := by unfold in64 at hb; unfold wrap64; omega
  have wp : wrap64 (2 ^ n) = 2 ^ n := by unfold wrap64; omega
  have cH := Lib.hid c
  have wH := Lib.hid (And.intro wa (And.intro wb wp))
  clear c wa wb wp p0 p1 ha hb
  go_enter Tryd.func86, Tryd.ntmps86
  go_wp2_with fail
  rw [wH.out.1, wH.out.2.1, wH.out.2.2]
  refine (cH.out _).mono ?_
  rintro e1 w1 ⟨rfl, hb1⟩
  obtain ⟨hc1, hf1⟩ := bcell hb1
  have hz1 := hb1.size
  try simp at hz1
  go_wp2_with fail
  refine bp_ret ⟨?_, ?_, ?_, ?_⟩ rfl; rotate_left
  · (simp [results, Tryd.results86, go_sem, *]; rfl)
  rotate_left
  · repeat (first | exact Below.refl _ _ | assumption | (refine Below.alloc ?_ (by first | omega | (simp; done) | (simp; omega) | (simp at *; omega)) _) | (refine Below.setCell ?_ (by first | omega | (simp; done) | (simp; omega) | (simp at *; omega)) _) | (refine Below.trans ?_ (below_drewN _ _ _)) | (refine Below.drew ?_) | (refine Below.trans ?_ (Below.mono (by assumption) (by first | omega | (simp; done) | (simp; omega) | (simp at *; omega)))))
  · rfl
end Go.Proofs.YtkdjfakjnkemiaaDoor
