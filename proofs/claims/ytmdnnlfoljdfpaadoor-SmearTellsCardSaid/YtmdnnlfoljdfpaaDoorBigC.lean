/- Package fuseeref02's Mul. -/
import Derived.Test.YtmdnnlfoljdfpaaDoorBigB
namespace Go.Proofs.YtmdnnlfoljdfpaaDoor
open Go.RowKit

theorem bigA_set (s : Bool) (f : Nat → Int) (p : Nat) (h : p < 8) (v : Int) : (bigA s f).setIfInBounds (1 + p) (.int .u64 v) = bigA s (updF f p v) := by
  rcases lt8 h with rfl | rfl | rfl | rfl | rfl | rfl | rfl | rfl <;> rfl
theorem mixF_upd (s s' r : Int) (p : Nat) (z : Int) (hs : s' = s + 4294967296 ^ p * z) : updF (mixF s r p) p (dgI s' p) = mixF s' r (p + 1) := by
  funext j
  unfold updF mixF
  by_cases h1 : j = p
  · subst h1; simp
  · by_cases h2 : j < p
    · rw [if_neg h1, if_pos h2, if_pos (by omega), hs, dgI_high _ _ _ _ h2]
    · rw [if_neg h1, if_neg h2, if_neg (by omega)]
theorem mul_lim {x y : Int} (_x0 : 0 ≤ x) (x1 : x < 4294967296 ^ 4) (y0 : 0 ≤ y) (y1 : y < 4294967296 ^ 4) : x * y < 4294967296 ^ 8 := by
  rw [show (4294967296 : Int) ^ 8 = 4294967296 ^ 4 * 4294967296 ^ 4 by decide]
  by_cases h : y = 0
  · subst h; rw [Int.mul_zero]; decide
  · exact Int.mul_lt_mul x1 (Int.le_of_lt y1) (by omega) (by decide)
theorem absZ_lt' {v b : Int} (h0 : -b < v) (h1 : v < b) : absZ v < b := by unfold absZ; split <;> omega
theorem sgn_mul (u v : Int) : sgnZ (decide (u < 0) != decide (v < 0)) (absZ u * absZ v) = u * v := by
  unfold sgnZ absZ
  by_cases h : u < 0 <;> by_cases k : v < 0 <;> simp [h, k, Int.neg_mul, Int.mul_neg]
theorem mul_sum (x y : Int) (i k : Nat) : IntKind.u64.wrap (IntKind.u64.wrap (IntKind.u64.wrap (dgI x i * dgI y k) + dgI (cutI x i * y) (i + k)) + carM x y i k) = dgI x i * dgI y k + dgI (cutI x i * y) (i + k) + carM x y i k ∧ 0 ≤ dgI x i * dgI y k + dgI (cutI x i * y) (i + k) + carM x y i k := by
  have h := dg_mul x y i k
  have a := dgI_nn (cutI x i * y) (i + k); have b := dgI_lt (cutI x i * y) (i + k); have c := carM_bd x y i k
  simp only [IntKind.wrap_u64]
  omega
set_option maxHeartbeats 4000000 in
set_option maxRecDepth 100000 in
theorem ref_Mul_rows (s t : Bool) (x y : Int) (x0 : 0 ≤ x) (x1 : x < 4294967296 ^ 4) (y0 : 0 ≤ y) (y1 : y < 4294967296 ^ 4) (b : Bool) (hs : (s != t) = b) (w : World) :
    Calls Tryd.prog 93 #[.agg (bigA s (dgI x)), .agg (bigA t (dgI y))] w fun e w' => e = .returned (.agg (bigV (sgnZ b (x * y)))) ∧ Below w.heap.size w w' := by
  have hsz := bigA_size
  have hsd := dgs_size
  have hsr := rowF_size
  unfold bigA
  have hxH := Lib.hid (And.intro x0 x1)
  have hyH := Lib.hid (And.intro y0 y1)
  clear x0 x1 y0 y1
  go_enter Tryd.func93, Tryd.ntmps93
  go_upto_block 0 with (fail)
  refine wp_gen (fun wc => wc.heap[w.heap.size]? = some (.cells (bigA s (dgI x)) 159) ∧ wc.heap[w.heap.size + 1]? = some (.cells (bigA t (dgI y)) 159) ∧ wc.heap[w.heap.size + 1 + 1]? = some (.cells (bigA false fun _ => 0) 159) ∧ wc.heap[w.heap.size + 1 + 1 + 1]? = some (.cells (bigA false fun _ => 0) 159) ∧ wc.heap.size = w.heap.size + 4 ∧ Below w.heap.size w wc) ⟨row_past (row_past (row_past (row_new rfl))), row_past (row_past (row_new (by simp))), row_past (row_new (by simp)), row_new (by simp), by simp, by repeat (first | exact Below.refl _ _ | assumption | (refine Below.alloc ?_ (by first | omega | (simp; done) | (simp; omega) | (simp at *; omega)) _) | (refine Below.setCell ?_ (by first | omega | (simp; done) | (simp; omega) | (simp at *; omega)) _) | (refine Below.trans ?_ (below_drewN _ _ _)) | (refine Below.drew ?_) | (refine Below.trans ?_ (Below.mono (by assumption) (by first | omega | (simp; done) | (simp; omega) | (simp at *; omega)))))⟩ ?_
  rintro wc ⟨h0, h1, h2, h3, hz, hb⟩
  go_wp2_with fail
  go_loopw [6] (fun u wr => ∃ i : Nat, i ≤ 4 ∧ u = .int .i64 i ∧ wr.heap[w.heap.size]? = some (.cells (bigA s (dgI x)) 159) ∧ wr.heap[w.heap.size + 1]? = some (.cells (bigA t (dgI y)) 159) ∧ wr.heap[w.heap.size + 1 + 1]? = some (.cells (bigA false fun _ => 0) 159) ∧ wr.heap[w.heap.size + 1 + 1 + 1]? = some (.cells (bigA false (dgI (cutI x i * y))) 159) ∧ wr.heap.size = w.heap.size + 4 ∧ Below w.heap.size w wr) (fun u _ => 4 - (intOf u).toNat)
  case atStart => exact ⟨0, by omega, rfl, h0, h1, h2, by rw [cutI_zero, Int.zero_mul]; exact h3, hz, hb⟩
  case round =>
    clear h0 h1 h2 h3 hz hb
    obtain ⟨i, hi, rfl, h0, h1, h2, h3, hz, hb⟩ := hrel
    obtain ⟨wo, rfl⟩ : ∃ wo : World, wo = wr := ⟨_, rfl⟩
    by_cases hi4 : i < 4
    · go_wp2_with fail
      go_loopw [7, 8] (fun u v wr => ∃ k : Nat, k ≤ 4 ∧ v = .int .i64 k ∧ u = .int .u64 (carM x y i k) ∧ wr.heap[w.heap.size]? = some (.cells (bigA s (dgI x)) 159) ∧ wr.heap[w.heap.size + 1]? = some (.cells (bigA t (dgI y)) 159) ∧ wr.heap[w.heap.size + 1 + 1]? = some (.cells (bigA false fun _ => 0) 159) ∧ wr.heap[w.heap.size + 1 + 1 + 1]? = some (.cells (bigA false (mixF (mulS x y i k) (cutI x i * y) (i + k))) 159) ∧ wr.heap.size = w.heap.size + 4 ∧ Below w.heap.size w wr) (fun _ v _ => 4 - (intOf v).toNat)
      case atStart =>
        refine ⟨0, by omega, rfl, by rw [carM_zero], h0, h1, h2, ?_, hz, hb⟩
        rw [mulS_zero]
        have e : mixF (cutI x i * y) (cutI x i * y) (i + 0) = dgI (cutI x i * y) := by funext j; simp [mixF]
        rw [e]
        exact h3
      case round =>
        clear h0 h1 h2 h3 hz hb
        obtain ⟨k, hk, rfl, rfl, h0, h1, h2, h3, hz, hb⟩ := hrel
        by_cases hk4 : k < 4
        · have c0 := big_dig h0 i (by omega)
          have c1 := big_dig h1 k (by omega)
          have c3 := big_dig h3 (i + k) (by omega)
          rw [mixF_at] at c3
          have f3 := row_frozen h3 (1 + (i + k))
          have t0 : (i : Int) + (k : Int) < 8 := by omega
          have t1 : 0 ≤ (i : Int) + (k : Int) := by omega
          have t2 : ((i : Int) + (k : Int)).toNat = i + k := by omega
          have t3 : (i : Int) < 8 := by omega
          have t4 : (k : Int) < 8 := by omega
          go_wp2
          go_quiet (fail)
          go_wp2
          obtain ⟨e1, e2⟩ := mul_sum x y i k
          obtain ⟨e3, e4⟩ := mul_step x y i k
          have e5 := carM_bd x y i (k + 1)
          rw [e1, Int.tdiv_eq_ediv_of_nonneg e2, Int.tmod_eq_emod_of_nonneg e2, ← e3, ← e4]
          refine ⟨⟨k + 1, by omega, by go_num, congrArg (Value.int IntKind.u64) (by rw [IntKind.wrap_u64]; omega), ?_, ?_, ?_, ?_, by simp [hz], by repeat (first | exact Below.refl _ _ | assumption | (refine Below.alloc ?_ (by first | omega | (simp; done) | (simp; omega) | (simp at *; omega)) _) | (refine Below.setCell ?_ (by first | omega | (simp; done) | (simp; omega) | (simp at *; omega)) _) | (refine Below.trans ?_ (below_drewN _ _ _)) | (refine Below.drew ?_) | (refine Below.trans ?_ (Below.mono (by assumption) (by first | omega | (simp; done) | (simp; omega) | (simp at *; omega)))))⟩, by simp [intOf]; omega⟩
          · exact row_other (row_drewN _ h0) (by simp; omega)
          · exact row_other (row_drewN _ h1) (by simp)
          · exact row_other (row_drewN _ h2) (by simp)
          · rw [row_set (row_drewN _ h3), bigA_set _ _ _ (by omega), mixF_upd _ _ _ _ _ (mulS_succ x y i k)]
            rfl
        · have h9 : k = 4 := by omega
          subst h9
          obtain ⟨y0, y1⟩ := hyH.out
          have c3 := big_dig h3 (i + 4) (by omega)
          have f3 := row_frozen h3 (1 + (i + 4))
          have t0 : (i : Int) + 4 < 8 := by omega
          have t2 : ((i : Int) + 4).toNat = i + 4 := by omega
          go_wp2
          refine ⟨⟨i + 1, by omega, by go_num, ?_, ?_, ?_, ?_, by simp [hz], by repeat (first | exact Below.refl _ _ | assumption | (refine Below.alloc ?_ (by first | omega | (simp; done) | (simp; omega) | (simp at *; omega)) _) | (refine Below.setCell ?_ (by first | omega | (simp; done) | (simp; omega) | (simp at *; omega)) _) | (refine Below.trans ?_ (below_drewN _ _ _)) | (refine Below.drew ?_) | (refine Below.trans ?_ (Below.mono (by assumption) (by first | omega | (simp; done) | (simp; omega) | (simp at *; omega)))))⟩, by simp [intOf]; omega⟩
          · exact row_other h0 (by simp; omega)
          · exact row_other h1 (by simp)
          · exact row_other h2 (by simp)
          · rw [row_set h3, bigA_set _ _ _ (by omega), mul_round _ x y i y0 y1]
    · have h9 : i = 4 := by omega
      subst h9
      obtain ⟨x0, x1⟩ := hxH.out
      obtain ⟨y0, y1⟩ := hyH.out
      have ex : cutI x 4 = x := Int.emod_eq_of_lt x0 x1
      rw [ex] at h3
      have n0 : 0 ≤ x * y := Int.mul_nonneg x0 y0
      have n1 := mul_lim x0 x1 y0 y1
      have n1H := Lib.hid n1
      clear n1 ex hxH hyH x0 x1 y0 y1
      have u0 := big_neg h0
      have u1 := big_neg h1
      clear h0 h1
      have hbs : w.heap.size + 4 ≤ wo.heap.size := by omega
      rcases s with _ | _ <;> rcases t with _ | _
      · obtain rfl : b = false := by simpa using hs.symm
        have x3 := big_neg h3
        have fz := row_frozen h3 0
        have k4 := row_of (row_set (k := 0) (v := .bool false) h3) (bigA false (dgI (x * y))) rfl
        have l4 := ld_big k4
        have s4 := st_big false (dgI (x * y)) (row_other (v := .bool false) (a := ⟨w.heap.size + 1 + 1 + 1, 0, none⟩) h2 (by simp))
        have k5 := setRow_at (c' := bigA false (dgI (x * y))) (row_other (v := .bool false) (a := ⟨w.heap.size + 1 + 1 + 1, 0, none⟩) h2 (by simp))
        have hb8 := below_setRow (b := w.heap.size + 1 + 1) (c := bigA false (dgI (x * y))) ((hb).setCell (p := ⟨w.heap.size + 1 + 1 + 1, 0, none⟩) (by simp; omega) (.bool false)) (by omega)
        have kH := Lib.hid k5
        have hbH := Lib.hid hb8
        clear k4 k5 hb8
        go_wp2_with (first | (refine wpList_load_at _ _ rfl rfl _ rfl _ (by with_reducible assumption) ?_; go_simp) | (refine wpList_store_at _ _ _ rfl rfl _ rfl _ (by with_reducible assumption) (by rfl) ?_; go_simp))
        refine bp_ret ?_ rfl
        refine ⟨.agg (bigA false (dgI (x * y))), ret_cell (a := ⟨w.heap.size + 1 + 1, 0, none⟩) Tryd.results93 ?_ (load67 kH.out rfl), ?_, hbH.out⟩
        · simp
        · have hq := bigA_sgn false (x * y) n0
          simp only [Bool.false_and] at hq
          rw [hq]
      · obtain rfl : b = true := by simpa using hs.symm
        have x3 := big_neg h3
        have l3 := ld_dig h3
        have hz3 := ref_Zero (x * y) n0 n1H.out
        obtain ⟨z, hzz⟩ : ∃ z : Bool, z = decide (x * y = 0) := ⟨_, rfl⟩
        rw [← hzz] at hz3
        have hzH := Lib.hid hzz
        clear hzz
        have hz3H := Lib.hid hz3
        clear hz3
        have g2H := Lib.hid h2
        have g3H := Lib.hid h3
        go_wp2_with (first | (refine wpList_load_at _ _ rfl rfl _ rfl _ (by with_reducible assumption) ?_; go_simp) | (refine wpList_store_at _ _ _ rfl rfl _ rfl _ (by with_reducible assumption) (by rfl) ?_; go_simp))
        refine (hz3H.out _).mono ?_
        rintro e w9 ⟨rfl, hb9⟩
        have k2 := blk hb9 g2H.out (by (try simp only [setRow_size]); omega)
        have k3 := blk hb9 g3H.out (by (try simp only [setRow_size]); omega)
        have y3 := big_neg k3
        have fz := row_frozen k3 0
        have k4 := row_of (row_set (k := 0) (v := .bool (!z)) k3) (bigA (!z) (dgI (x * y))) rfl
        have l4 := ld_big k4
        have s4 := st_big (!z) (dgI (x * y)) (row_other (v := .bool (!z)) (a := ⟨w.heap.size + 1 + 1 + 1, 0, none⟩) k2 (by simp))
        have k5 := setRow_at (c' := bigA (!z) (dgI (x * y))) (row_other (v := .bool (!z)) (a := ⟨w.heap.size + 1 + 1 + 1, 0, none⟩) k2 (by simp))
        have hb8 := below_setRow (b := w.heap.size + 1 + 1) (c := bigA (!z) (dgI (x * y))) (((hb).trans (hb9.mono (by (try simp only [setRow_size]); omega))).setCell (p := ⟨w.heap.size + 1 + 1 + 1, 0, none⟩) (by simp; omega) (.bool (!z))) (by omega)
        have kH := Lib.hid k5
        have hbH := Lib.hid hb8
        clear k2 k3 k4 k5 hb8
        go_wp2_with (first | (refine wpList_load_at _ _ rfl rfl _ rfl _ (by with_reducible assumption) ?_; go_simp) | (refine wpList_store_at _ _ _ rfl rfl _ rfl _ (by with_reducible assumption) (by rfl) ?_; go_simp))
        refine bp_ret ?_ rfl
        refine ⟨.agg (bigA (!z) (dgI (x * y))), ret_cell (a := ⟨w.heap.size + 1 + 1, 0, none⟩) Tryd.results93 ?_ (load67 kH.out rfl), ?_, hbH.out⟩
        · simp
        · rw [hzH.out]
          have hq := bigA_sgn true (x * y) n0
          simp only [Bool.true_and] at hq
          rw [hq]
      · obtain rfl : b = true := by simpa using hs.symm
        have x3 := big_neg h3
        have l3 := ld_dig h3
        have hz3 := ref_Zero (x * y) n0 n1H.out
        obtain ⟨z, hzz⟩ : ∃ z : Bool, z = decide (x * y = 0) := ⟨_, rfl⟩
        rw [← hzz] at hz3
        have hzH := Lib.hid hzz
        clear hzz
        have hz3H := Lib.hid hz3
        clear hz3
        have g2H := Lib.hid h2
        have g3H := Lib.hid h3
        go_wp2_with (first | (refine wpList_load_at _ _ rfl rfl _ rfl _ (by with_reducible assumption) ?_; go_simp) | (refine wpList_store_at _ _ _ rfl rfl _ rfl _ (by with_reducible assumption) (by rfl) ?_; go_simp))
        refine (hz3H.out _).mono ?_
        rintro e w9 ⟨rfl, hb9⟩
        have k2 := blk hb9 g2H.out (by (try simp only [setRow_size]); omega)
        have k3 := blk hb9 g3H.out (by (try simp only [setRow_size]); omega)
        have y3 := big_neg k3
        have fz := row_frozen k3 0
        have k4 := row_of (row_set (k := 0) (v := .bool (!z)) k3) (bigA (!z) (dgI (x * y))) rfl
        have l4 := ld_big k4
        have s4 := st_big (!z) (dgI (x * y)) (row_other (v := .bool (!z)) (a := ⟨w.heap.size + 1 + 1 + 1, 0, none⟩) k2 (by simp))
        have k5 := setRow_at (c' := bigA (!z) (dgI (x * y))) (row_other (v := .bool (!z)) (a := ⟨w.heap.size + 1 + 1 + 1, 0, none⟩) k2 (by simp))
        have hb8 := below_setRow (b := w.heap.size + 1 + 1) (c := bigA (!z) (dgI (x * y))) (((hb).trans (hb9.mono (by (try simp only [setRow_size]); omega))).setCell (p := ⟨w.heap.size + 1 + 1 + 1, 0, none⟩) (by simp; omega) (.bool (!z))) (by omega)
        have kH := Lib.hid k5
        have hbH := Lib.hid hb8
        clear k2 k3 k4 k5 hb8
        go_wp2_with (first | (refine wpList_load_at _ _ rfl rfl _ rfl _ (by with_reducible assumption) ?_; go_simp) | (refine wpList_store_at _ _ _ rfl rfl _ rfl _ (by with_reducible assumption) (by rfl) ?_; go_simp))
        refine bp_ret ?_ rfl
        refine ⟨.agg (bigA (!z) (dgI (x * y))), ret_cell (a := ⟨w.heap.size + 1 + 1, 0, none⟩) Tryd.results93 ?_ (load67 kH.out rfl), ?_, hbH.out⟩
        · simp
        · rw [hzH.out]
          have hq := bigA_sgn true (x * y) n0
          simp only [Bool.true_and] at hq
          rw [hq]
      · obtain rfl : b = false := by simpa using hs.symm
        have x3 := big_neg h3
        have fz := row_frozen h3 0
        have k4 := row_of (row_set (k := 0) (v := .bool false) h3) (bigA false (dgI (x * y))) rfl
        have l4 := ld_big k4
        have s4 := st_big false (dgI (x * y)) (row_other (v := .bool false) (a := ⟨w.heap.size + 1 + 1 + 1, 0, none⟩) h2 (by simp))
        have k5 := setRow_at (c' := bigA false (dgI (x * y))) (row_other (v := .bool false) (a := ⟨w.heap.size + 1 + 1 + 1, 0, none⟩) h2 (by simp))
        have hb8 := below_setRow (b := w.heap.size + 1 + 1) (c := bigA false (dgI (x * y))) ((hb).setCell (p := ⟨w.heap.size + 1 + 1 + 1, 0, none⟩) (by simp; omega) (.bool false)) (by omega)
        have kH := Lib.hid k5
        have hbH := Lib.hid hb8
        clear k4 k5 hb8
        go_wp2_with (first | (refine wpList_load_at _ _ rfl rfl _ rfl _ (by with_reducible assumption) ?_; go_simp) | (refine wpList_store_at _ _ _ rfl rfl _ rfl _ (by with_reducible assumption) (by rfl) ?_; go_simp))
        refine bp_ret ?_ rfl
        refine ⟨.agg (bigA false (dgI (x * y))), ret_cell (a := ⟨w.heap.size + 1 + 1, 0, none⟩) Tryd.results93 ?_ (load67 kH.out rfl), ?_, hbH.out⟩
        · simp
        · have hq := bigA_sgn false (x * y) n0
          simp only [Bool.false_and] at hq
          rw [hq]
/-- A product of numbers of 128 bits each. -/
theorem ref_Mul (u v : Int) (u0 : -(4294967296 ^ 4) < u) (u1 : u < 4294967296 ^ 4) (v0 : -(4294967296 ^ 4) < v) (v1 : v < 4294967296 ^ 4) (w : World) :
    Calls Tryd.prog 93 #[.agg (bigV u), .agg (bigV v)] w fun e w' => e = .returned (.agg (bigV (u * v))) ∧ Below w.heap.size w w' := by
  have c := ref_Mul_rows (decide (u < 0)) (decide (v < 0)) (absZ u) (absZ v) (absZ_nn u) (absZ_lt' u0 u1) (absZ_nn v) (absZ_lt' v0 v1) _ rfl w
  rw [sgn_mul] at c
  exact c
end Go.Proofs.YtmdnnlfoljdfpaaDoor
