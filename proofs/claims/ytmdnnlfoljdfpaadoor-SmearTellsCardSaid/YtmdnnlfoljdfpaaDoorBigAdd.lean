/- Package fuseeref02's Add. -/
import Derived.Test.YtmdnnlfoljdfpaaDoorBigB
namespace Go.Proofs.YtmdnnlfoljdfpaaDoor
open Go.RowKit

set_option maxHeartbeats 2000000 in
set_option maxRecDepth 100000 in
theorem add_plus_ff (m n : Int) (m0 : 0 ≤ m) (m1 : m < 2 ^ 255) (n0 : 0 ≤ n) (n1 : n < 2 ^ 255) (w : World) :
    Calls Tryd.prog 123 #[.agg (bigA false (dgI m)), .agg (bigA false (dgI n))] w fun e w' => e = .returned (.agg (bigV (sgnZ false m + sgnZ false n))) ∧ Below w.heap.size w w' := by
  have hsz := bigA_size
  have hsd := dgs_size
  have hsr := rowF_size
  unfold bigA
  go_enter Tryd.func123, Tryd.ntmps123
  go_upto_block 0 with (fail)
  refine wp_gen (fun wc => wc.heap[w.heap.size]? = some (.cells (bigA false (dgI m)) 159) ∧ wc.heap[w.heap.size + 1]? = some (.cells (bigA false (dgI n)) 159) ∧ wc.heap[w.heap.size + 1 + 1]? = some (.cells (bigA false fun _ => 0) 159) ∧ wc.heap[w.heap.size + 1 + 1 + 1]? = some (.cells (bigA false fun _ => 0) 159) ∧ wc.heap.size = w.heap.size + 4 ∧ Below w.heap.size w wc) ⟨row_past (row_past (row_past (row_new rfl))), row_past (row_past (row_new (by simp))), row_past (row_new (by simp)), row_new (by simp), by simp, by repeat (first | exact Below.refl _ _ | assumption | (refine Below.alloc ?_ (by first | omega | (simp; done) | (simp; omega) | (simp at *; omega)) _) | (refine Below.setCell ?_ (by first | omega | (simp; done) | (simp; omega) | (simp at *; omega)) _) | (refine Below.trans ?_ (below_drewN _ _ _)) | (refine Below.drew ?_) | (refine Below.trans ?_ (Below.mono (by assumption) (by first | omega | (simp; done) | (simp; omega) | (simp at *; omega)))))⟩ ?_
  rintro wc ⟨h0, h1, h2, h3, hz, hb⟩
  have x0 := big_neg h0
  have x1 := big_neg h1
  have l0 := ld_dig h0
  have l1 := ld_dig h1
  have h0H := Lib.hid h0
  have h1H := Lib.hid h1
  have h2H := Lib.hid h2
  have h3H := Lib.hid h3
  clear h0 h1 h2 h3
  go_wp2_with (first | (refine wpList_load_at _ _ rfl rfl _ rfl _ (by with_reducible assumption) ?_; go_simp) | (refine wpList_store_at _ _ _ rfl rfl _ rfl _ (by with_reducible assumption) (by rfl) ?_; go_simp))
  refine (ref_plus m n _).mono ?_
  rintro e w2 ⟨rfl, hb2⟩
  have g2 := setRow_other (b' := w.heap.size + 1 + 1 + 1) (c' := bigA false (dgI (m + n))) (blk hb2 h2H.out (by omega)) (by omega)
  have st := st_dig (m + n) (blk hb2 h3H.out (by omega))
  have g3 := setRow_at (c' := bigA false (dgI (m + n))) (blk hb2 h3H.out (by omega))
  have hs2 := hb2.size
  have hbb := below_setRow (b := w.heap.size + 1 + 1 + 1) (c := bigA false (dgI (m + n))) (hb.trans (hb2.mono (by omega))) (by omega)
  have x3 := big_neg g3
  have fz := row_frozen g3 0
  have k4 := row_of (row_set (k := 0) (v := .bool false) g3) (bigA false (dgI (m + n))) rfl
  have l4 := ld_big k4
  have s4 := st_big false (dgI (m + n)) (row_other (v := .bool false) (a := ⟨w.heap.size + 1 + 1 + 1, 0, none⟩) g2 (by simp))
  have k5 := setRow_at (c' := bigA false (dgI (m + n))) (row_other (v := .bool false) (a := ⟨w.heap.size + 1 + 1 + 1, 0, none⟩) g2 (by simp))
  have hb8 := below_setRow (b := w.heap.size + 1 + 1) (c := bigA false (dgI (m + n))) ((hbb).setCell (p := ⟨w.heap.size + 1 + 1 + 1, 0, none⟩) (by simp; omega) (.bool false)) (by omega)
  have kH := Lib.hid k5
  have hbH := Lib.hid hb8
  clear k4 k5 hb8
  go_wp2_with (first | (refine wpList_load_at _ _ rfl rfl _ rfl _ (by with_reducible assumption) ?_; go_simp) | (refine wpList_store_at _ _ _ rfl rfl _ rfl _ (by with_reducible assumption) (by rfl) ?_; go_simp))
  refine bp_ret ?_ rfl
  refine ⟨.agg (bigA false (dgI (m + n))), ret_cell (a := ⟨w.heap.size + 1 + 1, 0, none⟩) Tryd.results123 ?_ (load67 kH.out rfl), ?_, hbH.out⟩
  · simp
  · have hq := bigA_sgn false (m + n) (by omega)
    simp only [Bool.false_and] at hq
    rw [hq]
    exact ret_eq (congrArg (fun v => Value.agg (bigV v)) (by simp [sgnZ]; try omega))
set_option maxHeartbeats 2000000 in
set_option maxRecDepth 100000 in
theorem add_plus_tt (m n : Int) (m0 : 0 ≤ m) (m1 : m < 2 ^ 255) (n0 : 0 ≤ n) (n1 : n < 2 ^ 255) (w : World) :
    Calls Tryd.prog 123 #[.agg (bigA true (dgI m)), .agg (bigA true (dgI n))] w fun e w' => e = .returned (.agg (bigV (sgnZ true m + sgnZ true n))) ∧ Below w.heap.size w w' := by
  have hsz := bigA_size
  have hsd := dgs_size
  have hsr := rowF_size
  unfold bigA
  go_enter Tryd.func123, Tryd.ntmps123
  go_upto_block 0 with (fail)
  refine wp_gen (fun wc => wc.heap[w.heap.size]? = some (.cells (bigA true (dgI m)) 159) ∧ wc.heap[w.heap.size + 1]? = some (.cells (bigA true (dgI n)) 159) ∧ wc.heap[w.heap.size + 1 + 1]? = some (.cells (bigA false fun _ => 0) 159) ∧ wc.heap[w.heap.size + 1 + 1 + 1]? = some (.cells (bigA true fun _ => 0) 159) ∧ wc.heap.size = w.heap.size + 4 ∧ Below w.heap.size w wc) ⟨row_past (row_past (row_past (row_new rfl))), row_past (row_past (row_new (by simp))), row_past (row_new (by simp)), row_new (by simp), by simp, by repeat (first | exact Below.refl _ _ | assumption | (refine Below.alloc ?_ (by first | omega | (simp; done) | (simp; omega) | (simp at *; omega)) _) | (refine Below.setCell ?_ (by first | omega | (simp; done) | (simp; omega) | (simp at *; omega)) _) | (refine Below.trans ?_ (below_drewN _ _ _)) | (refine Below.drew ?_) | (refine Below.trans ?_ (Below.mono (by assumption) (by first | omega | (simp; done) | (simp; omega) | (simp at *; omega)))))⟩ ?_
  rintro wc ⟨h0, h1, h2, h3, hz, hb⟩
  have x0 := big_neg h0
  have x1 := big_neg h1
  have l0 := ld_dig h0
  have l1 := ld_dig h1
  have h0H := Lib.hid h0
  have h1H := Lib.hid h1
  have h2H := Lib.hid h2
  have h3H := Lib.hid h3
  clear h0 h1 h2 h3
  go_wp2_with (first | (refine wpList_load_at _ _ rfl rfl _ rfl _ (by with_reducible assumption) ?_; go_simp) | (refine wpList_store_at _ _ _ rfl rfl _ rfl _ (by with_reducible assumption) (by rfl) ?_; go_simp))
  refine (ref_plus m n _).mono ?_
  rintro e w2 ⟨rfl, hb2⟩
  have g2 := setRow_other (b' := w.heap.size + 1 + 1 + 1) (c' := bigA true (dgI (m + n))) (blk hb2 h2H.out (by omega)) (by omega)
  have st := st_dig (m + n) (blk hb2 h3H.out (by omega))
  have g3 := setRow_at (c' := bigA true (dgI (m + n))) (blk hb2 h3H.out (by omega))
  have hs2 := hb2.size
  have hbb := below_setRow (b := w.heap.size + 1 + 1 + 1) (c := bigA true (dgI (m + n))) (hb.trans (hb2.mono (by omega))) (by omega)
  have x3 := big_neg g3
  have l3 := ld_dig g3
  have hz3 := ref_Zero (m + n) (by omega) (by omega)
  obtain ⟨z, hzz⟩ : ∃ z : Bool, z = decide (m + n = 0) := ⟨_, rfl⟩
  rw [← hzz] at hz3
  have hzH := Lib.hid hzz
  clear hzz
  have hz3H := Lib.hid hz3
  clear hz3
  have g2H := Lib.hid g2
  have g3H := Lib.hid g3
  go_wp2_with (first | (refine wpList_load_at _ _ rfl rfl _ rfl _ (by with_reducible assumption) ?_; go_simp) | (refine wpList_store_at _ _ _ rfl rfl _ rfl _ (by with_reducible assumption) (by rfl) ?_; go_simp))
  refine (hz3H.out _).mono ?_
  rintro e w9 ⟨rfl, hb9⟩
  have k2 := blk hb9 g2H.out (by (try simp only [setRow_size]); omega)
  have k3 := blk hb9 g3H.out (by (try simp only [setRow_size]); omega)
  have y3 := big_neg k3
  have fz := row_frozen k3 0
  have k4 := row_of (row_set (k := 0) (v := .bool (!z)) k3) (bigA (!z) (dgI (m + n))) rfl
  have l4 := ld_big k4
  have s4 := st_big (!z) (dgI (m + n)) (row_other (v := .bool (!z)) (a := ⟨w.heap.size + 1 + 1 + 1, 0, none⟩) k2 (by simp))
  have k5 := setRow_at (c' := bigA (!z) (dgI (m + n))) (row_other (v := .bool (!z)) (a := ⟨w.heap.size + 1 + 1 + 1, 0, none⟩) k2 (by simp))
  have hb8 := below_setRow (b := w.heap.size + 1 + 1) (c := bigA (!z) (dgI (m + n))) (((hbb).trans (hb9.mono (by (try simp only [setRow_size]); omega))).setCell (p := ⟨w.heap.size + 1 + 1 + 1, 0, none⟩) (by simp; omega) (.bool (!z))) (by omega)
  have kH := Lib.hid k5
  have hbH := Lib.hid hb8
  clear k2 k3 k4 k5 hb8
  go_wp2_with (first | (refine wpList_load_at _ _ rfl rfl _ rfl _ (by with_reducible assumption) ?_; go_simp) | (refine wpList_store_at _ _ _ rfl rfl _ rfl _ (by with_reducible assumption) (by rfl) ?_; go_simp))
  refine bp_ret ?_ rfl
  refine ⟨.agg (bigA (!z) (dgI (m + n))), ret_cell (a := ⟨w.heap.size + 1 + 1, 0, none⟩) Tryd.results123 ?_ (load67 kH.out rfl), ?_, hbH.out⟩
  · simp
  · rw [hzH.out]
    have hq := bigA_sgn true (m + n) (by omega)
    simp only [Bool.true_and] at hq
    rw [hq]
    exact ret_eq (congrArg (fun v => Value.agg (bigV v)) (by simp [sgnZ]; try omega))
set_option maxHeartbeats 2000000 in
set_option maxRecDepth 100000 in
theorem add_ge_ft (m n : Int) (m0 : 0 ≤ m) (m1 : m < 2 ^ 255) (n0 : 0 ≤ n) (n1 : n < 2 ^ 255) (hge : n ≤ m) (w : World) :
    Calls Tryd.prog 123 #[.agg (bigA false (dgI m)), .agg (bigA true (dgI n))] w fun e w' => e = .returned (.agg (bigV (sgnZ false m + sgnZ true n))) ∧ Below w.heap.size w w' := by
  have hsz := bigA_size
  have hsd := dgs_size
  have hsr := rowF_size
  unfold bigA
  go_enter Tryd.func123, Tryd.ntmps123
  go_upto_block 0 with (fail)
  refine wp_gen (fun wc => wc.heap[w.heap.size]? = some (.cells (bigA false (dgI m)) 159) ∧ wc.heap[w.heap.size + 1]? = some (.cells (bigA true (dgI n)) 159) ∧ wc.heap[w.heap.size + 1 + 1]? = some (.cells (bigA false fun _ => 0) 159) ∧ wc.heap[w.heap.size + 1 + 1 + 1]? = some (.cells (bigA false fun _ => 0) 159) ∧ wc.heap.size = w.heap.size + 4 ∧ Below w.heap.size w wc) ⟨row_past (row_past (row_past (row_new rfl))), row_past (row_past (row_new (by simp))), row_past (row_new (by simp)), row_new (by simp), by simp, by repeat (first | exact Below.refl _ _ | assumption | (refine Below.alloc ?_ (by first | omega | (simp; done) | (simp; omega) | (simp at *; omega)) _) | (refine Below.setCell ?_ (by first | omega | (simp; done) | (simp; omega) | (simp at *; omega)) _) | (refine Below.trans ?_ (below_drewN _ _ _)) | (refine Below.drew ?_) | (refine Below.trans ?_ (Below.mono (by assumption) (by first | omega | (simp; done) | (simp; omega) | (simp at *; omega)))))⟩ ?_
  rintro wc ⟨h0, h1, h2, h3, hz, hb⟩
  have x0 := big_neg h0
  have x1 := big_neg h1
  have l0 := ld_dig h0
  have l1 := ld_dig h1
  have h0H := Lib.hid h0
  have h1H := Lib.hid h1
  have h2H := Lib.hid h2
  have h3H := Lib.hid h3
  clear h0 h1 h2 h3
  have sz := ref_Size m n m0 (by omega) n0 (by omega)
  rw [show szZ m n = (if n < m then 1 else 0) by unfold szZ; split <;> simp; omega] at sz
  have szH := Lib.hid sz
  clear sz
  go_wp2_with (first | (refine wpList_load_at _ _ rfl rfl _ rfl _ (by with_reducible assumption) ?_; go_simp) | (refine wpList_store_at _ _ _ rfl rfl _ rfl _ (by with_reducible assumption) (by rfl) ?_; go_simp))
  refine (szH.out _).mono ?_
  rintro e w1 ⟨rfl, hb1⟩
  have i0 := blk hb1 h0H.out (by omega)
  have i1 := blk hb1 h1H.out (by omega)
  have i2 := blk hb1 h2H.out (by omega)
  have i3 := blk hb1 h3H.out (by omega)
  have hs1 := hb1.size
  have y0 := big_neg i0
  have y1 := big_neg i1
  have k0 := ld_dig i0
  have k1 := ld_dig i1
  have i2H := Lib.hid i2
  have i3H := Lib.hid i3
  have hbc := Lib.hid (hb.trans (hb1.mono (by omega)))
  have i0H := Lib.hid i0
  have i1H := Lib.hid i1
  clear i0 i1 i2 i3
  have hif : 0 ≤ (if n < m then (1 : Int) else 0) := by split <;> omega
  generalize (if n < m then (1 : Int) else 0) = q at *
  go_wp2_with (first | (refine wpList_load_at _ _ rfl rfl _ rfl _ (by with_reducible assumption) ?_; go_simp) | (refine wpList_store_at _ _ _ rfl rfl _ rfl _ (by with_reducible assumption) (by rfl) ?_; go_simp))
  refine (ref_less m n _).mono ?_
  rintro e w2 ⟨rfl, hb2⟩
  have g2 := setRow_other (b' := w.heap.size + 1 + 1 + 1) (c' := bigA false (dgI (m - n))) (blk hb2 i2H.out (by omega)) (by omega)
  have st := st_dig (m - n) (blk hb2 i3H.out (by omega))
  have g3 := setRow_at (c' := bigA false (dgI (m - n))) (blk hb2 i3H.out (by omega))
  have hs2 := hb2.size
  have hbb := below_setRow (b := w.heap.size + 1 + 1 + 1) (c := bigA false (dgI (m - n))) (hbc.out.trans (hb2.mono (by omega))) (by omega)
  have x3 := big_neg g3
  have fz := row_frozen g3 0
  have k4 := row_of (row_set (k := 0) (v := .bool false) g3) (bigA false (dgI (m - n))) rfl
  have l4 := ld_big k4
  have s4 := st_big false (dgI (m - n)) (row_other (v := .bool false) (a := ⟨w.heap.size + 1 + 1 + 1, 0, none⟩) g2 (by simp))
  have k5 := setRow_at (c' := bigA false (dgI (m - n))) (row_other (v := .bool false) (a := ⟨w.heap.size + 1 + 1 + 1, 0, none⟩) g2 (by simp))
  have hb8 := below_setRow (b := w.heap.size + 1 + 1) (c := bigA false (dgI (m - n))) ((hbb).setCell (p := ⟨w.heap.size + 1 + 1 + 1, 0, none⟩) (by simp; omega) (.bool false)) (by omega)
  have kH := Lib.hid k5
  have hbH := Lib.hid hb8
  clear k4 k5 hb8
  go_wp2_with (first | (refine wpList_load_at _ _ rfl rfl _ rfl _ (by with_reducible assumption) ?_; go_simp) | (refine wpList_store_at _ _ _ rfl rfl _ rfl _ (by with_reducible assumption) (by rfl) ?_; go_simp))
  refine bp_ret ?_ rfl
  refine ⟨.agg (bigA false (dgI (m - n))), ret_cell (a := ⟨w.heap.size + 1 + 1, 0, none⟩) Tryd.results123 ?_ (load67 kH.out rfl), ?_, hbH.out⟩
  · simp
  · have hq := bigA_sgn false (m - n) (by omega)
    simp only [Bool.false_and] at hq
    rw [hq]
    exact ret_eq (congrArg (fun v => Value.agg (bigV v)) (by simp [sgnZ]; try omega))
set_option maxHeartbeats 2000000 in
set_option maxRecDepth 100000 in
theorem add_ge_tf (m n : Int) (m0 : 0 ≤ m) (m1 : m < 2 ^ 255) (n0 : 0 ≤ n) (n1 : n < 2 ^ 255) (hge : n ≤ m) (w : World) :
    Calls Tryd.prog 123 #[.agg (bigA true (dgI m)), .agg (bigA false (dgI n))] w fun e w' => e = .returned (.agg (bigV (sgnZ true m + sgnZ false n))) ∧ Below w.heap.size w w' := by
  have hsz := bigA_size
  have hsd := dgs_size
  have hsr := rowF_size
  unfold bigA
  go_enter Tryd.func123, Tryd.ntmps123
  go_upto_block 0 with (fail)
  refine wp_gen (fun wc => wc.heap[w.heap.size]? = some (.cells (bigA true (dgI m)) 159) ∧ wc.heap[w.heap.size + 1]? = some (.cells (bigA false (dgI n)) 159) ∧ wc.heap[w.heap.size + 1 + 1]? = some (.cells (bigA false fun _ => 0) 159) ∧ wc.heap[w.heap.size + 1 + 1 + 1]? = some (.cells (bigA true fun _ => 0) 159) ∧ wc.heap.size = w.heap.size + 4 ∧ Below w.heap.size w wc) ⟨row_past (row_past (row_past (row_new rfl))), row_past (row_past (row_new (by simp))), row_past (row_new (by simp)), row_new (by simp), by simp, by repeat (first | exact Below.refl _ _ | assumption | (refine Below.alloc ?_ (by first | omega | (simp; done) | (simp; omega) | (simp at *; omega)) _) | (refine Below.setCell ?_ (by first | omega | (simp; done) | (simp; omega) | (simp at *; omega)) _) | (refine Below.trans ?_ (below_drewN _ _ _)) | (refine Below.drew ?_) | (refine Below.trans ?_ (Below.mono (by assumption) (by first | omega | (simp; done) | (simp; omega) | (simp at *; omega)))))⟩ ?_
  rintro wc ⟨h0, h1, h2, h3, hz, hb⟩
  have x0 := big_neg h0
  have x1 := big_neg h1
  have l0 := ld_dig h0
  have l1 := ld_dig h1
  have h0H := Lib.hid h0
  have h1H := Lib.hid h1
  have h2H := Lib.hid h2
  have h3H := Lib.hid h3
  clear h0 h1 h2 h3
  have sz := ref_Size m n m0 (by omega) n0 (by omega)
  rw [show szZ m n = (if n < m then 1 else 0) by unfold szZ; split <;> simp; omega] at sz
  have szH := Lib.hid sz
  clear sz
  go_wp2_with (first | (refine wpList_load_at _ _ rfl rfl _ rfl _ (by with_reducible assumption) ?_; go_simp) | (refine wpList_store_at _ _ _ rfl rfl _ rfl _ (by with_reducible assumption) (by rfl) ?_; go_simp))
  refine (szH.out _).mono ?_
  rintro e w1 ⟨rfl, hb1⟩
  have i0 := blk hb1 h0H.out (by omega)
  have i1 := blk hb1 h1H.out (by omega)
  have i2 := blk hb1 h2H.out (by omega)
  have i3 := blk hb1 h3H.out (by omega)
  have hs1 := hb1.size
  have y0 := big_neg i0
  have y1 := big_neg i1
  have k0 := ld_dig i0
  have k1 := ld_dig i1
  have i2H := Lib.hid i2
  have i3H := Lib.hid i3
  have hbc := Lib.hid (hb.trans (hb1.mono (by omega)))
  have i0H := Lib.hid i0
  have i1H := Lib.hid i1
  clear i0 i1 i2 i3
  have hif : 0 ≤ (if n < m then (1 : Int) else 0) := by split <;> omega
  generalize (if n < m then (1 : Int) else 0) = q at *
  go_wp2_with (first | (refine wpList_load_at _ _ rfl rfl _ rfl _ (by with_reducible assumption) ?_; go_simp) | (refine wpList_store_at _ _ _ rfl rfl _ rfl _ (by with_reducible assumption) (by rfl) ?_; go_simp))
  refine (ref_less m n _).mono ?_
  rintro e w2 ⟨rfl, hb2⟩
  have g2 := setRow_other (b' := w.heap.size + 1 + 1 + 1) (c' := bigA true (dgI (m - n))) (blk hb2 i2H.out (by omega)) (by omega)
  have st := st_dig (m - n) (blk hb2 i3H.out (by omega))
  have g3 := setRow_at (c' := bigA true (dgI (m - n))) (blk hb2 i3H.out (by omega))
  have hs2 := hb2.size
  have hbb := below_setRow (b := w.heap.size + 1 + 1 + 1) (c := bigA true (dgI (m - n))) (hbc.out.trans (hb2.mono (by omega))) (by omega)
  have x3 := big_neg g3
  have l3 := ld_dig g3
  have hz3 := ref_Zero (m - n) (by omega) (by omega)
  obtain ⟨z, hzz⟩ : ∃ z : Bool, z = decide (m - n = 0) := ⟨_, rfl⟩
  rw [← hzz] at hz3
  have hzH := Lib.hid hzz
  clear hzz
  have hz3H := Lib.hid hz3
  clear hz3
  have g2H := Lib.hid g2
  have g3H := Lib.hid g3
  go_wp2_with (first | (refine wpList_load_at _ _ rfl rfl _ rfl _ (by with_reducible assumption) ?_; go_simp) | (refine wpList_store_at _ _ _ rfl rfl _ rfl _ (by with_reducible assumption) (by rfl) ?_; go_simp))
  refine (hz3H.out _).mono ?_
  rintro e w9 ⟨rfl, hb9⟩
  have k2 := blk hb9 g2H.out (by (try simp only [setRow_size]); omega)
  have k3 := blk hb9 g3H.out (by (try simp only [setRow_size]); omega)
  have y3 := big_neg k3
  have fz := row_frozen k3 0
  have k4 := row_of (row_set (k := 0) (v := .bool (!z)) k3) (bigA (!z) (dgI (m - n))) rfl
  have l4 := ld_big k4
  have s4 := st_big (!z) (dgI (m - n)) (row_other (v := .bool (!z)) (a := ⟨w.heap.size + 1 + 1 + 1, 0, none⟩) k2 (by simp))
  have k5 := setRow_at (c' := bigA (!z) (dgI (m - n))) (row_other (v := .bool (!z)) (a := ⟨w.heap.size + 1 + 1 + 1, 0, none⟩) k2 (by simp))
  have hb8 := below_setRow (b := w.heap.size + 1 + 1) (c := bigA (!z) (dgI (m - n))) (((hbb).trans (hb9.mono (by (try simp only [setRow_size]); omega))).setCell (p := ⟨w.heap.size + 1 + 1 + 1, 0, none⟩) (by simp; omega) (.bool (!z))) (by omega)
  have kH := Lib.hid k5
  have hbH := Lib.hid hb8
  clear k2 k3 k4 k5 hb8
  go_wp2_with (first | (refine wpList_load_at _ _ rfl rfl _ rfl _ (by with_reducible assumption) ?_; go_simp) | (refine wpList_store_at _ _ _ rfl rfl _ rfl _ (by with_reducible assumption) (by rfl) ?_; go_simp))
  refine bp_ret ?_ rfl
  refine ⟨.agg (bigA (!z) (dgI (m - n))), ret_cell (a := ⟨w.heap.size + 1 + 1, 0, none⟩) Tryd.results123 ?_ (load67 kH.out rfl), ?_, hbH.out⟩
  · simp
  · rw [hzH.out]
    have hq := bigA_sgn true (m - n) (by omega)
    simp only [Bool.true_and] at hq
    rw [hq]
    exact ret_eq (congrArg (fun v => Value.agg (bigV v)) (by simp [sgnZ]; try omega))
set_option maxHeartbeats 2000000 in
set_option maxRecDepth 100000 in
theorem add_lt_ft (m n : Int) (m0 : 0 ≤ m) (m1 : m < 2 ^ 255) (n0 : 0 ≤ n) (n1 : n < 2 ^ 255) (hlt : m < n) (w : World) :
    Calls Tryd.prog 123 #[.agg (bigA false (dgI m)), .agg (bigA true (dgI n))] w fun e w' => e = .returned (.agg (bigV (sgnZ false m + sgnZ true n))) ∧ Below w.heap.size w w' := by
  have hsz := bigA_size
  have hsd := dgs_size
  have hsr := rowF_size
  unfold bigA
  go_enter Tryd.func123, Tryd.ntmps123
  go_upto_block 0 with (fail)
  refine wp_gen (fun wc => wc.heap[w.heap.size]? = some (.cells (bigA false (dgI m)) 159) ∧ wc.heap[w.heap.size + 1]? = some (.cells (bigA true (dgI n)) 159) ∧ wc.heap[w.heap.size + 1 + 1]? = some (.cells (bigA false fun _ => 0) 159) ∧ wc.heap[w.heap.size + 1 + 1 + 1]? = some (.cells (bigA false fun _ => 0) 159) ∧ wc.heap.size = w.heap.size + 4 ∧ Below w.heap.size w wc) ⟨row_past (row_past (row_past (row_new rfl))), row_past (row_past (row_new (by simp))), row_past (row_new (by simp)), row_new (by simp), by simp, by repeat (first | exact Below.refl _ _ | assumption | (refine Below.alloc ?_ (by first | omega | (simp; done) | (simp; omega) | (simp at *; omega)) _) | (refine Below.setCell ?_ (by first | omega | (simp; done) | (simp; omega) | (simp at *; omega)) _) | (refine Below.trans ?_ (below_drewN _ _ _)) | (refine Below.drew ?_) | (refine Below.trans ?_ (Below.mono (by assumption) (by first | omega | (simp; done) | (simp; omega) | (simp at *; omega)))))⟩ ?_
  rintro wc ⟨h0, h1, h2, h3, hz, hb⟩
  have x0 := big_neg h0
  have x1 := big_neg h1
  have l0 := ld_dig h0
  have l1 := ld_dig h1
  have h0H := Lib.hid h0
  have h1H := Lib.hid h1
  have h2H := Lib.hid h2
  have h3H := Lib.hid h3
  clear h0 h1 h2 h3
  have sz := ref_Size m n m0 (by omega) n0 (by omega)
  rw [szZ_lt hlt] at sz
  have szH := Lib.hid sz
  clear sz
  go_wp2_with (first | (refine wpList_load_at _ _ rfl rfl _ rfl _ (by with_reducible assumption) ?_; go_simp) | (refine wpList_store_at _ _ _ rfl rfl _ rfl _ (by with_reducible assumption) (by rfl) ?_; go_simp))
  refine (szH.out _).mono ?_
  rintro e w1 ⟨rfl, hb1⟩
  have i0 := blk hb1 h0H.out (by omega)
  have i1 := blk hb1 h1H.out (by omega)
  have i2 := blk hb1 h2H.out (by omega)
  have i3 := blk hb1 h3H.out (by omega)
  have hs1 := hb1.size
  have y0 := big_neg i0
  have y1 := big_neg i1
  have k0 := ld_dig i0
  have k1 := ld_dig i1
  have i2H := Lib.hid i2
  have i3H := Lib.hid i3
  have hbc := Lib.hid (hb.trans (hb1.mono (by omega)))
  have i0H := Lib.hid i0
  have i1H := Lib.hid i1
  clear i0 i1 i2 i3
  have hl := fun w => ref_less n m w
  unfold dgs rowF at hl
  have hlH := Lib.hid hl
  clear hl k0 k1
  obtain ⟨c00, c01, c02, c03, c04, c05, c06, c07⟩ := big_digs i0H.out
  obtain ⟨c10, c11, c12, c13, c14, c15, c16, c17⟩ := big_digs i1H.out
  have hA := i2H.out
  have hB := i3H.out
  have hC := hbc.out.drew
  have hD : w.heap.size + 4 ≤ w1.heap.size := by omega
  go_wp2_with (first | (refine wpList_load_at _ _ rfl rfl _ rfl _ (by with_reducible assumption) ?_; go_simp) | (refine wpList_store_at _ _ _ rfl rfl _ rfl _ (by with_reducible assumption) (by rfl) ?_; go_simp))
  have hS : (fun w' => w'.cell? ⟨w.heap.size + 1, 0, none⟩ = some (.bool true) ∧ w'.cell? ⟨w.heap.size + 1, 1, none⟩ = some (.int .u64 (dgI n 0)) ∧ w'.cell? ⟨w.heap.size + 1, 2, none⟩ = some (.int .u64 (dgI n 1)) ∧ w'.cell? ⟨w.heap.size + 1, 3, none⟩ = some (.int .u64 (dgI n 2)) ∧ w'.cell? ⟨w.heap.size + 1, 4, none⟩ = some (.int .u64 (dgI n 3)) ∧ w'.cell? ⟨w.heap.size + 1, 5, none⟩ = some (.int .u64 (dgI n 4)) ∧ w'.cell? ⟨w.heap.size + 1, 6, none⟩ = some (.int .u64 (dgI n 5)) ∧ w'.cell? ⟨w.heap.size + 1, 7, none⟩ = some (.int .u64 (dgI n 6)) ∧ w'.cell? ⟨w.heap.size + 1, 8, none⟩ = some (.int .u64 (dgI n 7)) ∧ w'.cell? ⟨w.heap.size, 1, none⟩ = some (.int .u64 (dgI m 0)) ∧ w'.cell? ⟨w.heap.size, 2, none⟩ = some (.int .u64 (dgI m 1)) ∧ w'.cell? ⟨w.heap.size, 3, none⟩ = some (.int .u64 (dgI m 2)) ∧ w'.cell? ⟨w.heap.size, 4, none⟩ = some (.int .u64 (dgI m 3)) ∧ w'.cell? ⟨w.heap.size, 5, none⟩ = some (.int .u64 (dgI m 4)) ∧ w'.cell? ⟨w.heap.size, 6, none⟩ = some (.int .u64 (dgI m 5)) ∧ w'.cell? ⟨w.heap.size, 7, none⟩ = some (.int .u64 (dgI m 6)) ∧ w'.cell? ⟨w.heap.size, 8, none⟩ = some (.int .u64 (dgI m 7))) w1.drew := by
    dsimp only
    refine ⟨?_, ?_, ?_, ?_, ?_, ?_, ?_, ?_, ?_, ?_, ?_, ?_, ?_, ?_, ?_, ?_, ?_⟩
    all_goals first | assumption | exact Below.drew (by assumption)
  go_region_held3 (fun w' => w'.cell? ⟨w.heap.size + 1, 0, none⟩ = some (.bool true) ∧ w'.cell? ⟨w.heap.size + 1, 1, none⟩ = some (.int .u64 (dgI n 0)) ∧ w'.cell? ⟨w.heap.size + 1, 2, none⟩ = some (.int .u64 (dgI n 1)) ∧ w'.cell? ⟨w.heap.size + 1, 3, none⟩ = some (.int .u64 (dgI n 2)) ∧ w'.cell? ⟨w.heap.size + 1, 4, none⟩ = some (.int .u64 (dgI n 3)) ∧ w'.cell? ⟨w.heap.size + 1, 5, none⟩ = some (.int .u64 (dgI n 4)) ∧ w'.cell? ⟨w.heap.size + 1, 6, none⟩ = some (.int .u64 (dgI n 5)) ∧ w'.cell? ⟨w.heap.size + 1, 7, none⟩ = some (.int .u64 (dgI n 6)) ∧ w'.cell? ⟨w.heap.size + 1, 8, none⟩ = some (.int .u64 (dgI n 7)) ∧ w'.cell? ⟨w.heap.size, 1, none⟩ = some (.int .u64 (dgI m 0)) ∧ w'.cell? ⟨w.heap.size, 2, none⟩ = some (.int .u64 (dgI m 1)) ∧ w'.cell? ⟨w.heap.size, 3, none⟩ = some (.int .u64 (dgI m 2)) ∧ w'.cell? ⟨w.heap.size, 4, none⟩ = some (.int .u64 (dgI m 3)) ∧ w'.cell? ⟨w.heap.size, 5, none⟩ = some (.int .u64 (dgI m 4)) ∧ w'.cell? ⟨w.heap.size, 6, none⟩ = some (.int .u64 (dgI m 5)) ∧ w'.cell? ⟨w.heap.size, 7, none⟩ = some (.int .u64 (dgI m 6)) ∧ w'.cell? ⟨w.heap.size, 8, none⟩ = some (.int .u64 (dgI m 7)))
    ((refine ⟨?_, ?_, ?_, ?_, ?_, ?_, ?_, ?_, ?_, ?_, ?_, ?_, ?_, ?_, ?_, ?_, ?_⟩ <;> (first | with_reducible assumption | (rw [cell_set9 (by omega)]; with_reducible assumption) | go_keep)))
    ((go_at_call 121; refine (hlH.out _).mono ?_; rintro e w2 ⟨rfl, hb2⟩; have q0 := blk hb2 (row_drew i0H.out) (by simp; omega); have q1 := blk hb2 (row_drew i1H.out) (by simp; omega); have q2 := blk hb2 (row_drew i2H.out) (by simp; omega); have q3 := blk hb2 (row_drew i3H.out) (by simp; omega); have q4 := Below.trans hC (hb2.mono (by simp; omega)); have q5 : w.heap.size + 4 ≤ w2.heap.size := Nat.le_trans (by simp; omega) hb2.size; have q6 := big_neg q1; obtain ⟨d00, d01, d02, d03, d04, d05, d06, d07⟩ := big_digs q0; obtain ⟨d10, d11, d12, d13, d14, d15, d16, d17⟩ := big_digs q1; obtain ⟨z0, z1, z2, z3, z4, z5, z6, z7, z8⟩ := big_cells q3; have fz := row_frozen q3))
  rename_i hhq
  clear hhq
  go_upto_region 7 with (fail)
  refine wp_gen (fun wd => wd.heap[w.heap.size + 1 + 1]? = some (.cells (bigA false fun _ => 0) 159) ∧ wd.heap[w.heap.size + 1 + 1 + 1]? = some (.cells (bigA true (dgI (n - m))) 159) ∧ w.heap.size + 4 ≤ wd.heap.size ∧ Below w.heap.size w wd) ⟨row_other9 q2 (by omega), row_of (row_set9 q3 rfl) _ rfl, by simp; omega, below_set9 q4 (by omega)⟩ ?_
  clear q0 q1 q2 q3 q4 q5 q6 d00 d01 d02 d03 d04 d05 d06 d07 d10 d11 d12 d13 d14 d15 d16 d17 z0 z1 z2 z3 z4 z5 z6 z7 z8 fz hb2 hC hS
  rintro wd ⟨g2, g3, hsd', hbb⟩
  have x3 := big_neg g3
  have l3 := ld_dig g3
  have hz3 := ref_Zero (n - m) (by omega) (by omega)
  obtain ⟨z, hzz⟩ : ∃ z : Bool, z = decide (n - m = 0) := ⟨_, rfl⟩
  rw [← hzz] at hz3
  have hzH := Lib.hid hzz
  clear hzz
  have hz3H := Lib.hid hz3
  clear hz3
  have g2H := Lib.hid g2
  have g3H := Lib.hid g3
  go_wp2_with (first | (refine wpList_load_at _ _ rfl rfl _ rfl _ (by with_reducible assumption) ?_; go_simp) | (refine wpList_store_at _ _ _ rfl rfl _ rfl _ (by with_reducible assumption) (by rfl) ?_; go_simp))
  refine (hz3H.out _).mono ?_
  rintro e w9 ⟨rfl, hb9⟩
  have k2 := blk hb9 g2H.out (by (try simp only [setRow_size]); omega)
  have k3 := blk hb9 g3H.out (by (try simp only [setRow_size]); omega)
  have y3 := big_neg k3
  have fz := row_frozen k3 0
  have k4 := row_of (row_set (k := 0) (v := .bool (!z)) k3) (bigA (!z) (dgI (n - m))) rfl
  have l4 := ld_big k4
  have s4 := st_big (!z) (dgI (n - m)) (row_other (v := .bool (!z)) (a := ⟨w.heap.size + 1 + 1 + 1, 0, none⟩) k2 (by simp))
  have k5 := setRow_at (c' := bigA (!z) (dgI (n - m))) (row_other (v := .bool (!z)) (a := ⟨w.heap.size + 1 + 1 + 1, 0, none⟩) k2 (by simp))
  have hb8 := below_setRow (b := w.heap.size + 1 + 1) (c := bigA (!z) (dgI (n - m))) (((hbb).trans (hb9.mono (by (try simp only [setRow_size]); omega))).setCell (p := ⟨w.heap.size + 1 + 1 + 1, 0, none⟩) (by simp; omega) (.bool (!z))) (by omega)
  have kH := Lib.hid k5
  have hbH := Lib.hid hb8
  clear k2 k3 k4 k5 hb8
  go_wp2_with (first | (refine wpList_load_at _ _ rfl rfl _ rfl _ (by with_reducible assumption) ?_; go_simp) | (refine wpList_store_at _ _ _ rfl rfl _ rfl _ (by with_reducible assumption) (by rfl) ?_; go_simp))
  refine bp_ret ?_ rfl
  refine ⟨.agg (bigA (!z) (dgI (n - m))), ret_cell (a := ⟨w.heap.size + 1 + 1, 0, none⟩) Tryd.results123 ?_ (load67 kH.out rfl), ?_, hbH.out⟩
  · simp
  · rw [hzH.out]
    have hq := bigA_sgn true (n - m) (by omega)
    simp only [Bool.true_and] at hq
    rw [hq]
    exact ret_eq (congrArg (fun v => Value.agg (bigV v)) (by simp [sgnZ]; try omega))
set_option maxHeartbeats 2000000 in
set_option maxRecDepth 100000 in
theorem add_lt_tf (m n : Int) (m0 : 0 ≤ m) (m1 : m < 2 ^ 255) (n0 : 0 ≤ n) (n1 : n < 2 ^ 255) (hlt : m < n) (w : World) :
    Calls Tryd.prog 123 #[.agg (bigA true (dgI m)), .agg (bigA false (dgI n))] w fun e w' => e = .returned (.agg (bigV (sgnZ true m + sgnZ false n))) ∧ Below w.heap.size w w' := by
  have hsz := bigA_size
  have hsd := dgs_size
  have hsr := rowF_size
  unfold bigA
  go_enter Tryd.func123, Tryd.ntmps123
  go_upto_block 0 with (fail)
  refine wp_gen (fun wc => wc.heap[w.heap.size]? = some (.cells (bigA true (dgI m)) 159) ∧ wc.heap[w.heap.size + 1]? = some (.cells (bigA false (dgI n)) 159) ∧ wc.heap[w.heap.size + 1 + 1]? = some (.cells (bigA false fun _ => 0) 159) ∧ wc.heap[w.heap.size + 1 + 1 + 1]? = some (.cells (bigA true fun _ => 0) 159) ∧ wc.heap.size = w.heap.size + 4 ∧ Below w.heap.size w wc) ⟨row_past (row_past (row_past (row_new rfl))), row_past (row_past (row_new (by simp))), row_past (row_new (by simp)), row_new (by simp), by simp, by repeat (first | exact Below.refl _ _ | assumption | (refine Below.alloc ?_ (by first | omega | (simp; done) | (simp; omega) | (simp at *; omega)) _) | (refine Below.setCell ?_ (by first | omega | (simp; done) | (simp; omega) | (simp at *; omega)) _) | (refine Below.trans ?_ (below_drewN _ _ _)) | (refine Below.drew ?_) | (refine Below.trans ?_ (Below.mono (by assumption) (by first | omega | (simp; done) | (simp; omega) | (simp at *; omega)))))⟩ ?_
  rintro wc ⟨h0, h1, h2, h3, hz, hb⟩
  have x0 := big_neg h0
  have x1 := big_neg h1
  have l0 := ld_dig h0
  have l1 := ld_dig h1
  have h0H := Lib.hid h0
  have h1H := Lib.hid h1
  have h2H := Lib.hid h2
  have h3H := Lib.hid h3
  clear h0 h1 h2 h3
  have sz := ref_Size m n m0 (by omega) n0 (by omega)
  rw [szZ_lt hlt] at sz
  have szH := Lib.hid sz
  clear sz
  go_wp2_with (first | (refine wpList_load_at _ _ rfl rfl _ rfl _ (by with_reducible assumption) ?_; go_simp) | (refine wpList_store_at _ _ _ rfl rfl _ rfl _ (by with_reducible assumption) (by rfl) ?_; go_simp))
  refine (szH.out _).mono ?_
  rintro e w1 ⟨rfl, hb1⟩
  have i0 := blk hb1 h0H.out (by omega)
  have i1 := blk hb1 h1H.out (by omega)
  have i2 := blk hb1 h2H.out (by omega)
  have i3 := blk hb1 h3H.out (by omega)
  have hs1 := hb1.size
  have y0 := big_neg i0
  have y1 := big_neg i1
  have k0 := ld_dig i0
  have k1 := ld_dig i1
  have i2H := Lib.hid i2
  have i3H := Lib.hid i3
  have hbc := Lib.hid (hb.trans (hb1.mono (by omega)))
  have i0H := Lib.hid i0
  have i1H := Lib.hid i1
  clear i0 i1 i2 i3
  have hl := fun w => ref_less n m w
  unfold dgs rowF at hl
  have hlH := Lib.hid hl
  clear hl k0 k1
  obtain ⟨c00, c01, c02, c03, c04, c05, c06, c07⟩ := big_digs i0H.out
  obtain ⟨c10, c11, c12, c13, c14, c15, c16, c17⟩ := big_digs i1H.out
  have hA := i2H.out
  have hB := i3H.out
  have hC := hbc.out.drew
  have hD : w.heap.size + 4 ≤ w1.heap.size := by omega
  go_wp2_with (first | (refine wpList_load_at _ _ rfl rfl _ rfl _ (by with_reducible assumption) ?_; go_simp) | (refine wpList_store_at _ _ _ rfl rfl _ rfl _ (by with_reducible assumption) (by rfl) ?_; go_simp))
  have hS : (fun w' => w'.cell? ⟨w.heap.size + 1, 0, none⟩ = some (.bool false) ∧ w'.cell? ⟨w.heap.size + 1, 1, none⟩ = some (.int .u64 (dgI n 0)) ∧ w'.cell? ⟨w.heap.size + 1, 2, none⟩ = some (.int .u64 (dgI n 1)) ∧ w'.cell? ⟨w.heap.size + 1, 3, none⟩ = some (.int .u64 (dgI n 2)) ∧ w'.cell? ⟨w.heap.size + 1, 4, none⟩ = some (.int .u64 (dgI n 3)) ∧ w'.cell? ⟨w.heap.size + 1, 5, none⟩ = some (.int .u64 (dgI n 4)) ∧ w'.cell? ⟨w.heap.size + 1, 6, none⟩ = some (.int .u64 (dgI n 5)) ∧ w'.cell? ⟨w.heap.size + 1, 7, none⟩ = some (.int .u64 (dgI n 6)) ∧ w'.cell? ⟨w.heap.size + 1, 8, none⟩ = some (.int .u64 (dgI n 7)) ∧ w'.cell? ⟨w.heap.size, 1, none⟩ = some (.int .u64 (dgI m 0)) ∧ w'.cell? ⟨w.heap.size, 2, none⟩ = some (.int .u64 (dgI m 1)) ∧ w'.cell? ⟨w.heap.size, 3, none⟩ = some (.int .u64 (dgI m 2)) ∧ w'.cell? ⟨w.heap.size, 4, none⟩ = some (.int .u64 (dgI m 3)) ∧ w'.cell? ⟨w.heap.size, 5, none⟩ = some (.int .u64 (dgI m 4)) ∧ w'.cell? ⟨w.heap.size, 6, none⟩ = some (.int .u64 (dgI m 5)) ∧ w'.cell? ⟨w.heap.size, 7, none⟩ = some (.int .u64 (dgI m 6)) ∧ w'.cell? ⟨w.heap.size, 8, none⟩ = some (.int .u64 (dgI m 7))) w1.drew := by
    dsimp only
    refine ⟨?_, ?_, ?_, ?_, ?_, ?_, ?_, ?_, ?_, ?_, ?_, ?_, ?_, ?_, ?_, ?_, ?_⟩
    all_goals first | assumption | exact Below.drew (by assumption)
  go_region_held3 (fun w' => w'.cell? ⟨w.heap.size + 1, 0, none⟩ = some (.bool false) ∧ w'.cell? ⟨w.heap.size + 1, 1, none⟩ = some (.int .u64 (dgI n 0)) ∧ w'.cell? ⟨w.heap.size + 1, 2, none⟩ = some (.int .u64 (dgI n 1)) ∧ w'.cell? ⟨w.heap.size + 1, 3, none⟩ = some (.int .u64 (dgI n 2)) ∧ w'.cell? ⟨w.heap.size + 1, 4, none⟩ = some (.int .u64 (dgI n 3)) ∧ w'.cell? ⟨w.heap.size + 1, 5, none⟩ = some (.int .u64 (dgI n 4)) ∧ w'.cell? ⟨w.heap.size + 1, 6, none⟩ = some (.int .u64 (dgI n 5)) ∧ w'.cell? ⟨w.heap.size + 1, 7, none⟩ = some (.int .u64 (dgI n 6)) ∧ w'.cell? ⟨w.heap.size + 1, 8, none⟩ = some (.int .u64 (dgI n 7)) ∧ w'.cell? ⟨w.heap.size, 1, none⟩ = some (.int .u64 (dgI m 0)) ∧ w'.cell? ⟨w.heap.size, 2, none⟩ = some (.int .u64 (dgI m 1)) ∧ w'.cell? ⟨w.heap.size, 3, none⟩ = some (.int .u64 (dgI m 2)) ∧ w'.cell? ⟨w.heap.size, 4, none⟩ = some (.int .u64 (dgI m 3)) ∧ w'.cell? ⟨w.heap.size, 5, none⟩ = some (.int .u64 (dgI m 4)) ∧ w'.cell? ⟨w.heap.size, 6, none⟩ = some (.int .u64 (dgI m 5)) ∧ w'.cell? ⟨w.heap.size, 7, none⟩ = some (.int .u64 (dgI m 6)) ∧ w'.cell? ⟨w.heap.size, 8, none⟩ = some (.int .u64 (dgI m 7)))
    ((refine ⟨?_, ?_, ?_, ?_, ?_, ?_, ?_, ?_, ?_, ?_, ?_, ?_, ?_, ?_, ?_, ?_, ?_⟩ <;> (first | with_reducible assumption | (rw [cell_set9 (by omega)]; with_reducible assumption) | go_keep)))
    ((go_at_call 121; refine (hlH.out _).mono ?_; rintro e w2 ⟨rfl, hb2⟩; have q0 := blk hb2 (row_drew i0H.out) (by simp; omega); have q1 := blk hb2 (row_drew i1H.out) (by simp; omega); have q2 := blk hb2 (row_drew i2H.out) (by simp; omega); have q3 := blk hb2 (row_drew i3H.out) (by simp; omega); have q4 := Below.trans hC (hb2.mono (by simp; omega)); have q5 : w.heap.size + 4 ≤ w2.heap.size := Nat.le_trans (by simp; omega) hb2.size; have q6 := big_neg q1; obtain ⟨d00, d01, d02, d03, d04, d05, d06, d07⟩ := big_digs q0; obtain ⟨d10, d11, d12, d13, d14, d15, d16, d17⟩ := big_digs q1; obtain ⟨z0, z1, z2, z3, z4, z5, z6, z7, z8⟩ := big_cells q3; have fz := row_frozen q3))
  rename_i hhq
  clear hhq
  go_upto_region 7 with (fail)
  refine wp_gen (fun wd => wd.heap[w.heap.size + 1 + 1]? = some (.cells (bigA false fun _ => 0) 159) ∧ wd.heap[w.heap.size + 1 + 1 + 1]? = some (.cells (bigA false (dgI (n - m))) 159) ∧ w.heap.size + 4 ≤ wd.heap.size ∧ Below w.heap.size w wd) ⟨row_other9 q2 (by omega), row_of (row_set9 q3 rfl) _ rfl, by simp; omega, below_set9 q4 (by omega)⟩ ?_
  clear q0 q1 q2 q3 q4 q5 q6 d00 d01 d02 d03 d04 d05 d06 d07 d10 d11 d12 d13 d14 d15 d16 d17 z0 z1 z2 z3 z4 z5 z6 z7 z8 fz hb2 hC hS
  rintro wd ⟨g2, g3, hsd', hbb⟩
  have x3 := big_neg g3
  have fz := row_frozen g3 0
  have k4 := row_of (row_set (k := 0) (v := .bool false) g3) (bigA false (dgI (n - m))) rfl
  have l4 := ld_big k4
  have s4 := st_big false (dgI (n - m)) (row_other (v := .bool false) (a := ⟨w.heap.size + 1 + 1 + 1, 0, none⟩) g2 (by simp))
  have k5 := setRow_at (c' := bigA false (dgI (n - m))) (row_other (v := .bool false) (a := ⟨w.heap.size + 1 + 1 + 1, 0, none⟩) g2 (by simp))
  have hb8 := below_setRow (b := w.heap.size + 1 + 1) (c := bigA false (dgI (n - m))) ((hbb).setCell (p := ⟨w.heap.size + 1 + 1 + 1, 0, none⟩) (by simp; omega) (.bool false)) (by omega)
  have kH := Lib.hid k5
  have hbH := Lib.hid hb8
  clear k4 k5 hb8
  go_wp2_with (first | (refine wpList_load_at _ _ rfl rfl _ rfl _ (by with_reducible assumption) ?_; go_simp) | (refine wpList_store_at _ _ _ rfl rfl _ rfl _ (by with_reducible assumption) (by rfl) ?_; go_simp))
  refine bp_ret ?_ rfl
  refine ⟨.agg (bigA false (dgI (n - m))), ret_cell (a := ⟨w.heap.size + 1 + 1, 0, none⟩) Tryd.results123 ?_ (load67 kH.out rfl), ?_, hbH.out⟩
  · simp
  · have hq := bigA_sgn false (n - m) (by omega)
    simp only [Bool.false_and] at hq
    rw [hq]
    exact ret_eq (congrArg (fun v => Value.agg (bigV v)) (by simp [sgnZ]; try omega))
theorem ref_Add_rows (s t : Bool) (m n : Int) (m0 : 0 ≤ m) (m1 : m < 2 ^ 255) (n0 : 0 ≤ n) (n1 : n < 2 ^ 255) (w : World) :
    Calls Tryd.prog 123 #[.agg (bigA s (dgI m)), .agg (bigA t (dgI n))] w fun e w' => e = .returned (.agg (bigV (sgnZ s m + sgnZ t n))) ∧ Below w.heap.size w w' := by
  cases s <;> cases t
  · exact add_plus_ff m n m0 m1 n0 n1 w
  · by_cases h : n ≤ m
    · exact add_ge_ft m n m0 m1 n0 n1 h w
    · exact add_lt_ft m n m0 m1 n0 n1 (by omega) w
  · by_cases h : n ≤ m
    · exact add_ge_tf m n m0 m1 n0 n1 h w
    · exact add_lt_tf m n m0 m1 n0 n1 (by omega) w
  · exact add_plus_tt m n m0 m1 n0 n1 w
theorem absZ_lt {v : Int} {b : Int} (h0 : -b < v) (h1 : v < b) : absZ v < b := by unfold absZ; split <;> omega
theorem ref_Add (u v : Int) (u0 : -(2 ^ 255) < u) (u1 : u < 2 ^ 255) (v0 : -(2 ^ 255) < v) (v1 : v < 2 ^ 255) (w : World) :
    Calls Tryd.prog 123 #[.agg (bigV u), .agg (bigV v)] w fun e w' => e = .returned (.agg (bigV (u + v))) ∧ Below w.heap.size w w' := by
  have c := ref_Add_rows (decide (u < 0)) (decide (v < 0)) (absZ u) (absZ v) (absZ_nn u) (absZ_lt u0 u1) (absZ_nn v) (absZ_lt v0 v1) w
  rw [sgn_bigV, sgn_bigV] at c
  exact c
end Go.Proofs.YtmdnnlfoljdfpaaDoor
