/- Package fuseeref03's functions: May, Scale, Off, Adjust, Fit. -/
import Derived.Test.YtkdjfakjnkemiaaDoorBigF
import Derived.Test.YtkdjfakjnkemiaaDoorRatioFit
namespace Go.Proofs.YtkdjfakjnkemiaaDoor
open Go.RowKit

theorem row_fac {w : World} {b : Nat} {x y x' y' : Value} {t : TypeId} (h : w.heap[b]? = some (.cells #[x, y] t)) : ((w.setCell ⟨b, 0, none⟩ x').setCell ⟨b, 1, none⟩ y').heap[b]? = some (.cells #[x', y'] t) := row_set2 h
theorem load96 {w : World} {b : Nat} {c : Array Value} {t : TypeId} (h : w.heap[b]? = some (.cells c t)) (hc : c.size = 2) :
    (loadVar 96 ⟨b, 0, none⟩).run Tryd.prog w = .ok (.agg c) w :=
  run_loadVar_row w b t _ c (0, 0) _ h Tryd.underlying96 rfl (by rw [hc]; kernel_rfl)
theorem ref_May_yes (m s : Int) (hm0 : 0 ≤ m) (h : mayF m s) (w : World) :
    Calls Tryd.prog 55 #[.agg #[.int .u32 m, .int .i64 s]] w fun e w' => e = .returned (.bool true) ∧ Below w.heap.size w w' := by
  obtain ⟨h1, h2, h3⟩ := h
  have h1' : 0 < m := by omega
  clear h1
  go_enter Tryd.func55, Tryd.ntmps55
  go_wp2
  refine bp_ret ⟨?_, ?_, ?_, ?_⟩ rfl; rotate_left
  · (simp [results, Tryd.results55, go_sem, *]; rfl)
  rotate_left
  · repeat (first | exact Below.refl _ _ | assumption | (refine Below.alloc ?_ (by first | omega | (simp; done) | (simp; omega) | (simp at *; omega)) _) | (refine Below.setCell ?_ (by first | omega | (simp; done) | (simp; omega) | (simp at *; omega)) _) | (refine Below.trans ?_ (below_drewN _ _ _)) | (refine Below.drew ?_) | (refine Below.trans ?_ (Below.mono (by assumption) (by first | omega | (simp; done) | (simp; omega) | (simp at *; omega)))))
  · rfl
theorem ref_May_no (m s : Int) (hm0 : 0 ≤ m) (h : ¬ mayF m s) (w : World) :
    Calls Tryd.prog 55 #[.agg #[.int .u32 m, .int .i64 s]] w fun e w' => e = .returned (.bool false) ∧ Below w.heap.size w w' := by
  unfold mayF at h
  by_cases h1 : m = 0
  · subst h1
    clear h
    go_enter Tryd.func55, Tryd.ntmps55
    go_wp2
    refine bp_ret ⟨?_, ?_, ?_, ?_⟩ rfl; rotate_left
    · (simp [results, Tryd.results55, go_sem, *]; rfl)
    rotate_left
    · repeat (first | exact Below.refl _ _ | assumption | (refine Below.alloc ?_ (by first | omega | (simp; done) | (simp; omega) | (simp at *; omega)) _) | (refine Below.setCell ?_ (by first | omega | (simp; done) | (simp; omega) | (simp at *; omega)) _) | (refine Below.trans ?_ (below_drewN _ _ _)) | (refine Below.drew ?_) | (refine Below.trans ?_ (Below.mono (by assumption) (by first | omega | (simp; done) | (simp; omega) | (simp at *; omega)))))
    · rfl
  · have h1' : 0 < m := by omega
    by_cases h2 : s < 0
    · clear h h1
      go_enter Tryd.func55, Tryd.ntmps55
      go_wp2
      refine bp_ret ⟨?_, ?_, ?_, ?_⟩ rfl; rotate_left
      · (simp [results, Tryd.results55, go_sem, *]; rfl)
      rotate_left
      · repeat (first | exact Below.refl _ _ | assumption | (refine Below.alloc ?_ (by first | omega | (simp; done) | (simp; omega) | (simp at *; omega)) _) | (refine Below.setCell ?_ (by first | omega | (simp; done) | (simp; omega) | (simp at *; omega)) _) | (refine Below.trans ?_ (below_drewN _ _ _)) | (refine Below.drew ?_) | (refine Below.trans ?_ (Below.mono (by assumption) (by first | omega | (simp; done) | (simp; omega) | (simp at *; omega)))))
      · rfl
    · have h2' : 0 ≤ s := by omega
      have h3 : 31 < s := by omega
      clear h h1 h2
      go_enter Tryd.func55, Tryd.ntmps55
      go_wp2
      refine bp_ret ⟨?_, ?_, ?_, ?_⟩ rfl; rotate_left
      · (simp [results, Tryd.results55, go_sem, *]; rfl)
      rotate_left
      · repeat (first | exact Below.refl _ _ | assumption | (refine Below.alloc ?_ (by first | omega | (simp; done) | (simp; omega) | (simp at *; omega)) _) | (refine Below.setCell ?_ (by first | omega | (simp; done) | (simp; omega) | (simp at *; omega)) _) | (refine Below.trans ?_ (below_drewN _ _ _)) | (refine Below.drew ?_) | (refine Below.trans ?_ (Below.mono (by assumption) (by first | omega | (simp; done) | (simp; omega) | (simp at *; omega)))))
      · rw [decide_eq_false (by omega)]
/-- What a factor's functions answer: the number, or the factor, and which error. -/
def scX (m s n : Int) : Int × Option Int := if mayF m s then msX n m s else (0, some 1)
def ofX (m s n : Int) : Int × Option Int := if mayF m s ∧ 0 ≤ n then (if n / 2 ^ s.toNat ≤ 9223372036854775805 then (n / 2 ^ s.toNat + 2, none) else (0, some 2)) else (0, some 1)
def adN (m b : Int) : Int := m * (1073741824 + clampI b (-1073741824) 1073741824) / 1073741824
def adX (m s b : Int) : (Int × Int) × Option Int := if mayF m s then (if 1 ≤ adN m b ∧ adN m b < 4294967296 then ((adN m b, s), none) else ((0, 0), some 2)) else ((0, 0), some 1)
def fiX (a b : Int) : (Int × Int) × Option Int := if mayFit a b then (match fitS a b 31 with | none => ((0, 0), some 2) | some (n, s) => ((n, (s : Int)), none)) else ((0, 0), some 1)
def refF (r : (Int × Int) × Option Int) : Value := .tuple #[.agg #[.int .u32 r.1.1, .int .i64 r.1.2], .int .i64 (numV r.2)]
theorem ref_Scale (m s n : Int) (hm0 : 0 ≤ m) (hm1 : m < 4294967296) (hs : in64 s) (hn : in64 n) (w : World) :
    Calls Tryd.prog 52 #[.agg #[.int .u32 m, .int .i64 s], .int .i64 n] w fun e w' => e = .returned (refP (scX m s n)) ∧ Below w.heap.size w w' := by
  unfold scX
  by_cases h : mayF m s
  · rw [if_pos h]
    have h1 := Lib.hid (fun w => ref_May_yes m s hm0 h w)
    have c2 := fun w => ref_MulShift n m s hn hm0 hm1 hs w
    generalize msX n m s = r at *
    unfold refP at *
    have h2 := Lib.hid c2
    clear c2 h
    go_enter Tryd.func52, Tryd.ntmps52
    go_wp2_with fail
    refine (h1.out _).mono ?_
    rintro e1 w1 ⟨rfl, hb1⟩
    obtain ⟨hc1, hf1⟩ := bcell hb1
    have hz1 := hb1.size
    try simp at hz1
    have hz1_0 : w.heap.size < w1.heap.size := by omega
    go_wp2_with fail
    refine (h2.out _).mono ?_
    rintro e2 w2 ⟨rfl, hb2⟩
    obtain ⟨hc2, hf2⟩ := bcell hb2
    have hz2 := hb2.size
    try simp at hz2
    have hz2_0 : w.heap.size < w2.heap.size := by omega
    go_wp2_with fail
    refine bp_ret ⟨?_, ?_, ?_, ?_⟩ rfl; rotate_left
    · (simp [results, Tryd.results52, go_sem, *]; rfl)
    rotate_left
    · repeat (first | exact Below.refl _ _ | assumption | (refine Below.alloc ?_ (by first | omega | (simp; done) | (simp; omega) | (simp at *; omega)) _) | (refine Below.setCell ?_ (by first | omega | (simp; done) | (simp; omega) | (simp at *; omega)) _) | (refine Below.trans ?_ (below_drewN _ _ _)) | (refine Below.drew ?_) | (refine Below.trans ?_ (Below.mono (by assumption) (by first | omega | (simp; done) | (simp; omega) | (simp at *; omega)))))
    · rfl
  · rw [if_neg h]
    have h1 := Lib.hid (fun w => ref_May_no m s hm0 h w)
    clear h
    go_enter Tryd.func52, Tryd.ntmps52
    go_wp2_with fail
    refine (h1.out _).mono ?_
    rintro e1 w1 ⟨rfl, hb1⟩
    obtain ⟨hc1, hf1⟩ := bcell hb1
    have hz1 := hb1.size
    try simp at hz1
    have hz1_0 : w.heap.size < w1.heap.size := by omega
    go_wp2_with fail
    refine bp_ret ⟨?_, ?_, ?_, ?_⟩ rfl; rotate_left
    · (simp [results, Tryd.results52, go_sem, *]; rfl)
    rotate_left
    · repeat (first | exact Below.refl _ _ | assumption | (refine Below.alloc ?_ (by first | omega | (simp; done) | (simp; omega) | (simp at *; omega)) _) | (refine Below.setCell ?_ (by first | omega | (simp; done) | (simp; omega) | (simp at *; omega)) _) | (refine Below.trans ?_ (below_drewN _ _ _)) | (refine Below.drew ?_) | (refine Below.trans ?_ (Below.mono (by assumption) (by first | omega | (simp; done) | (simp; omega) | (simp at *; omega)))))
    · rfl
theorem half_pow (n : Int) (k : Nat) (h : 0 ≤ n) : (n / 2 ^ k).tdiv 2 = n / 2 ^ (k + 1) := by
  rw [Int.tdiv_eq_ediv_of_nonneg (Int.ediv_nonneg h (Int.le_of_lt (two_pos k))), Int.ediv_ediv_of_nonneg (Int.le_of_lt (two_pos k)), Int.pow_succ]
set_option maxHeartbeats 1000000 in
theorem ref_Off (m s n : Int) (hm0 : 0 ≤ m) (hn : in64 n) (w : World) :
    Calls Tryd.prog 53 #[.agg #[.int .u32 m, .int .i64 s], .int .i64 n] w fun e w' => e = .returned (refP (ofX m s n)) ∧ Below w.heap.size w w' := by
  unfold ofX refP
  by_cases h : mayF m s
  · by_cases hn0 : 0 ≤ n
    · rw [if_pos ⟨h, hn0⟩]
      have h1 := Lib.hid (fun w => ref_May_yes m s hm0 h w)
      obtain ⟨k1, k2, k3⟩ := h
      obtain ⟨t, rfl⟩ : ∃ t : Nat, s = t := ⟨s.toNat, by omega⟩
      rw [Int.toNat_natCast]
      have ht : t ≤ 31 := by omega
      have hnH := Lib.hid hn
      clear k1 k2 k3 hn
      go_enter Tryd.func53, Tryd.ntmps53
      go_wp2_with fail
      refine (h1.out _).mono ?_
      rintro e1 w1 ⟨rfl, hb1⟩
      obtain ⟨hc1, hf1⟩ := bcell hb1
      have hz1 := hb1.size
      try simp at hz1
      have hz1_0 : w.heap.size < w1.heap.size := by omega
      have x1 : w1.cell? ⟨w.heap.size, 1, none⟩ = some (.int .i64 t) := by rw [hc1 _ _ (by simp)]; simp
      have x1H := Lib.hid x1
      clear hc1 hf1 x1
      go_upto_block 0 with (fail)
      go_wp2_with fail
      go_loop [1, 6] (fun u v => ∃ k : Nat, k ≤ t ∧ v = .int .i64 k ∧ u = .int .i64 (n / 2 ^ k)) (fun _ v => t - (intOf v).toNat)
      case atStart => exact ⟨0, by omega, rfl, by simp⟩
      case round =>
        obtain ⟨k, hk, rfl, rfl⟩ := hrel
        have x1 := x1H.out
        by_cases hkt : k < t
        · have hlt : (k : Int) < (t : Int) := by omega
          have hp := half_pow n k hn0
          have hq0 : 0 ≤ n / 2 ^ k := Int.ediv_nonneg hn0 (Int.le_of_lt (two_pos k))
          have hq1 : n / 2 ^ k ≤ n := Int.ediv_le_self _ hn0
          obtain ⟨n1, n2⟩ := hnH.out
          have hpH := Lib.hid hp
          clear hp n1
          go_wp2_with fail
          refine ⟨⟨k + 1, by omega, by go_num, ?_⟩, by simp [intOf]; omega⟩
          have e := hpH.out
          rw [Int.tdiv_eq_ediv_of_nonneg hq0] at e
          first
            | rw [← e]
            | (rw [← e, Int.tdiv_eq_ediv_of_nonneg hq0])
            | (congr 1; rw [← e]; try rw [Int.tdiv_eq_ediv_of_nonneg hq0]; try (unfold wrap64; omega))
        · have hkt' : k = t := by omega
          subst hkt'
          have hq1 : n / 2 ^ k ≤ n := Int.ediv_le_self _ hn0
          have hq0 : 0 ≤ n / 2 ^ k := Int.ediv_nonneg hn0 (Int.le_of_lt (two_pos k))
          by_cases hb : n / 2 ^ k ≤ 9223372036854775805
          · have _hbH := Lib.hid hb
            go_wp2_with fail
            refine bp_ret ⟨?_, ?_, ?_, ?_⟩ rfl; rotate_left
            · (simp [results, Tryd.results53, go_sem, *]; rfl)
            rotate_left
            · repeat (first | exact Below.refl _ _ | assumption | (refine Below.alloc ?_ (by first | omega | (simp; done) | (simp; omega) | (simp at *; omega)) _) | (refine Below.setCell ?_ (by first | omega | (simp; done) | (simp; omega) | (simp at *; omega)) _) | (refine Below.trans ?_ (below_drewN _ _ _)) | (refine Below.drew ?_) | (refine Below.trans ?_ (Below.mono (by assumption) (by first | omega | (simp; done) | (simp; omega) | (simp at *; omega)))))
            · first | rfl | (rw [if_pos (by omega)]; rfl)
          · have _hbH := Lib.hid hb
            have hb' : 9223372036854775805 < n / 2 ^ k := by omega
            clear hb
            go_wp2_with fail
            refine bp_ret ⟨?_, ?_, ?_, ?_⟩ rfl; rotate_left
            · (simp [results, Tryd.results53, go_sem, *]; rfl)
            rotate_left
            · repeat (first | exact Below.refl _ _ | assumption | (refine Below.alloc ?_ (by first | omega | (simp; done) | (simp; omega) | (simp at *; omega)) _) | (refine Below.setCell ?_ (by first | omega | (simp; done) | (simp; omega) | (simp at *; omega)) _) | (refine Below.trans ?_ (below_drewN _ _ _)) | (refine Below.drew ?_) | (refine Below.trans ?_ (Below.mono (by assumption) (by first | omega | (simp; done) | (simp; omega) | (simp at *; omega)))))
            · first | rfl | (rw [if_neg (by omega)]; rfl)
    · rw [if_neg (fun h => hn0 h.2)]
      have h1 := Lib.hid (fun w => ref_May_yes m s hm0 h w)
      have hn0' : n < 0 := by omega
      clear h hn0
      go_enter Tryd.func53, Tryd.ntmps53
      go_wp2_with fail
      refine (h1.out _).mono ?_
      rintro e1 w1 ⟨rfl, hb1⟩
      obtain ⟨hc1, hf1⟩ := bcell hb1
      have hz1 := hb1.size
      try simp at hz1
      have hz1_0 : w.heap.size < w1.heap.size := by omega
      go_wp2_with fail
      refine bp_ret ⟨?_, ?_, ?_, ?_⟩ rfl; rotate_left
      · (simp [results, Tryd.results53, go_sem, *]; rfl)
      rotate_left
      · repeat (first | exact Below.refl _ _ | assumption | (refine Below.alloc ?_ (by first | omega | (simp; done) | (simp; omega) | (simp at *; omega)) _) | (refine Below.setCell ?_ (by first | omega | (simp; done) | (simp; omega) | (simp at *; omega)) _) | (refine Below.trans ?_ (below_drewN _ _ _)) | (refine Below.drew ?_) | (refine Below.trans ?_ (Below.mono (by assumption) (by first | omega | (simp; done) | (simp; omega) | (simp at *; omega)))))
      · rfl
  · rw [if_neg (fun k => h k.1)]
    have h1 := Lib.hid (fun w => ref_May_no m s hm0 h w)
    clear h
    go_enter Tryd.func53, Tryd.ntmps53
    go_wp2_with fail
    refine (h1.out _).mono ?_
    rintro e1 w1 ⟨rfl, hb1⟩
    obtain ⟨hc1, hf1⟩ := bcell hb1
    have hz1 := hb1.size
    try simp at hz1
    have hz1_0 : w.heap.size < w1.heap.size := by omega
    go_wp2_with fail
    refine bp_ret ⟨?_, ?_, ?_, ?_⟩ rfl; rotate_left
    · (simp [results, Tryd.results53, go_sem, *]; rfl)
    rotate_left
    · repeat (first | exact Below.refl _ _ | assumption | (refine Below.alloc ?_ (by first | omega | (simp; done) | (simp; omega) | (simp at *; omega)) _) | (refine Below.setCell ?_ (by first | omega | (simp; done) | (simp; omega) | (simp at *; omega)) _) | (refine Below.trans ?_ (below_drewN _ _ _)) | (refine Below.drew ?_) | (refine Below.trans ?_ (Below.mono (by assumption) (by first | omega | (simp; done) | (simp; omega) | (simp at *; omega)))))
    · rfl
end Go.Proofs.YtkdjfakjnkemiaaDoor
