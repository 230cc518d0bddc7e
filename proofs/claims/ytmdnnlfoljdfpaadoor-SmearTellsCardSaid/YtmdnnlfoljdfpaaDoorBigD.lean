/- Package fuseeref02's Div: a long division, bit by bit. -/
import Derived.Test.YtmdnnlfoljdfpaaDoorBigAdd
import Derived.Test.YtmdnnlfoljdfpaaDoorBigC
namespace Go.Proofs.YtmdnnlfoljdfpaaDoor
open Go.RowKit

theorem bigV_nn {v : Int} (h : 0 ≤ v) : bigV v = bigA false (dgI v) := by
  unfold bigV absZ
  rw [if_neg (by omega), decide_eq_false (by omega)]
theorem bigV_neg {v : Int} (h : v < 0) : bigV v = bigA true (dgI (-v)) := by
  unfold bigV absZ
  rw [if_pos h, decide_eq_true h]
theorem ret_cell2 {P : Program} {fn : Func} {s1 s2 : Nat} {t1 t2 : TypeId} {a b : Addr} {tmps : Array Value} {w : World} {u v : Value} (hr : fn.results = #[.cell s1 t1, .cell s2 t2])
    (h1 : tmps.getD s1 undef = .pointer (some a)) (h2 : tmps.getD s2 undef = .pointer (some b)) (l1 : (loadVar t1 a).run P w = .ok u w) (l2 : (loadVar t2 b).run P w = .ok v w) : (results fn tmps).run P w = .ok (.tuple #[u, v]) w := by
  have h1' : tmps[s1]?.getD undef = .pointer (some a) := by simpa using h1
  have h2' : tmps[s2]?.getD undef = .pointer (some b) := by simpa using h2
  simp only [results, hr]
  simp [h1', h2', asAddr, l1, l2, Result.andThen]
theorem dgI_zero : dgI 0 = fun _ => 0 := by funext k; simp [dgI]
set_option maxHeartbeats 4000000 in
set_option maxRecDepth 100000 in
theorem ref_Div_loop (s t : Bool) (X D : Int) (x0 : 0 ≤ X) (x1 : X < 2 ^ 256) (d0 : 0 < D) (d1 : D < 2 ^ 255) (hq255 : X / D < 2 ^ 255) (w : World) :
    Calls Tryd.prog 92 #[.agg (bigA s (dgI X)), .agg (bigA t (dgI D))] w fun e w' => e = .returned (.tuple #[.agg (bigV (sgnZ s X / D)), .agg (bigV (sgnZ s X % D))]) ∧ Below w.heap.size w w' := by
  have hsz := bigA_size
  have hsd := dgs_size
  have hsr := rowF_size
  have hxH := Lib.hid (And.intro x0 x1)
  have hdH := Lib.hid (And.intro d0 d1)
  clear x0 x1 d0 d1
  unfold bigA
  go_enter Tryd.func92, Tryd.ntmps92
  go_upto_block 0 with (fail)
  refine wp_gen (fun wc => wc.heap[w.heap.size]? = some (.cells (bigA s (dgI X)) 159) ∧ wc.heap[w.heap.size + 1]? = some (.cells (bigA t (dgI D)) 159) ∧ wc.heap[w.heap.size + 1 + 1]? = some (.cells (bigA false fun _ => 0) 159) ∧ wc.heap[w.heap.size + 1 + 1 + 1]? = some (.cells (bigA false fun _ => 0) 159) ∧ wc.heap[w.heap.size + 1 + 1 + 1 + 1]? = some (.cells (bigA false fun _ => 0) 159) ∧ wc.heap[w.heap.size + 1 + 1 + 1 + 1 + 1]? = some (.cells (bigA false fun _ => 0) 159) ∧ w.heap.size + 6 ≤ wc.heap.size ∧ Below w.heap.size w wc)
    ⟨row_past (row_past (row_past (row_past (row_past (row_new rfl))))), row_past (row_past (row_past (row_past (row_new (by simp))))), row_past (row_past (row_past (row_new (by simp)))), row_past (row_past (row_new (by simp))), row_past (row_new (by simp)), row_new (by simp), by simp, by repeat (first | exact Below.refl _ _ | assumption | (refine Below.alloc ?_ (by first | omega | (simp; done) | (simp; omega) | (simp at *; omega)) _) | (refine Below.setCell ?_ (by first | omega | (simp; done) | (simp; omega) | (simp at *; omega)) _) | (refine Below.trans ?_ (below_drewN _ _ _)) | (refine Below.drew ?_) | (refine Below.trans ?_ (Below.mono (by assumption) (by first | omega | (simp; done) | (simp; omega) | (simp at *; omega)))))⟩ ?_
  rintro wc ⟨h0, h1, h2, h3, h4, h5, hz, hb⟩
  go_wp2_with fail
  go_loopw [8] (fun u wr => ∃ j : Nat, j ≤ 256 ∧ u = .int .i64 ((j : Int) - 1) ∧ wr.heap[w.heap.size]? = some (.cells (bigA s (dgI X)) 159) ∧ wr.heap[w.heap.size + 1]? = some (.cells (bigA t (dgI D)) 159) ∧ wr.heap[w.heap.size + 1 + 1]? = some (.cells (bigA false fun _ => 0) 159) ∧ wr.heap[w.heap.size + 1 + 1 + 1]? = some (.cells (bigA false fun _ => 0) 159) ∧ wr.heap[w.heap.size + 1 + 1 + 1 + 1]? = some (.cells (bigA false (dgI (X / 2 ^ j / D))) 159) ∧ wr.heap[w.heap.size + 1 + 1 + 1 + 1 + 1]? = some (.cells (bigA false (dgI (X / 2 ^ j % D))) 159) ∧ w.heap.size + 6 ≤ wr.heap.size ∧ Below w.heap.size w wr) (fun u _ => (intOf u + 1).toNat)
  case atStart =>
    obtain ⟨x0, x1⟩ := hxH.out
    have e : X / 2 ^ 256 = 0 := Int.ediv_eq_zero_of_lt x0 x1
    refine ⟨256, by omega, rfl, h0, h1, h2, h3, ?_, ?_, hz, hb⟩
    · rw [e, Int.zero_ediv, dgI_zero]; exact h4
    · rw [e, Int.zero_emod, dgI_zero]; exact h5
  case round =>
    clear h0 h1 h2 h3 h4 h5 hz hb
    obtain ⟨j, hj, rfl, h0, h1, h2, h3, h4, h5, hz, hb⟩ := hrel
    rcases j with _ | i
    · simp only [Int.pow_zero, Int.ediv_one] at h4 h5
      have hneg : ¬ (0 : Int) ≤ ((0 : Nat) : Int) - 1 := by omega
      rcases s with _ | _
      · have u0 := big_neg h0
        have h0H := Lib.hid h0
        have h1H := Lib.hid h1
        have h2H := Lib.hid h2
        have h3H := Lib.hid h3
        have h4H := Lib.hid h4
        have h5H := Lib.hid h5
        have hbH := Lib.hid hb
        clear h0 h1 h2 h3 h4 h5 hb
        go_wp2_with (first | (refine wpList_load_at _ _ rfl rfl _ rfl _ (by with_reducible assumption) ?_; go_simp) | (refine wpList_store_at _ _ _ rfl rfl _ rfl _ (by with_reducible assumption) (by rfl) ?_; go_simp))
        obtain ⟨e40, e41, e42, e43, e44, e45, e46, e47, e48⟩ := big_cells h4H.out
        obtain ⟨e50, e51, e52, e53, e54, e55, e56, e57, e58⟩ := big_cells h5H.out
        obtain ⟨e20, e21, e22, e23, e24, e25, e26, e27, e28⟩ := big_cells h2H.out
        obtain ⟨e30, e31, e32, e33, e34, e35, e36, e37, e38⟩ := big_cells h3H.out
        have fz2 := row_frozen h2H.out
        have fz3 := row_frozen h3H.out
        go_region_held3 (fun w' => w'.cell? ⟨w.heap.size + 1 + 1 + 1 + 1, 0, none⟩ = some (.bool false) ∧ w'.cell? ⟨w.heap.size + 1 + 1 + 1 + 1, 1, none⟩ = some (.int .u64 (dgI (X / D) 0)) ∧ w'.cell? ⟨w.heap.size + 1 + 1 + 1 + 1, 2, none⟩ = some (.int .u64 (dgI (X / D) 1)) ∧ w'.cell? ⟨w.heap.size + 1 + 1 + 1 + 1, 3, none⟩ = some (.int .u64 (dgI (X / D) 2)) ∧ w'.cell? ⟨w.heap.size + 1 + 1 + 1 + 1, 4, none⟩ = some (.int .u64 (dgI (X / D) 3)) ∧ w'.cell? ⟨w.heap.size + 1 + 1 + 1 + 1, 5, none⟩ = some (.int .u64 (dgI (X / D) 4)) ∧ w'.cell? ⟨w.heap.size + 1 + 1 + 1 + 1, 6, none⟩ = some (.int .u64 (dgI (X / D) 5)) ∧ w'.cell? ⟨w.heap.size + 1 + 1 + 1 + 1, 7, none⟩ = some (.int .u64 (dgI (X / D) 6)) ∧ w'.cell? ⟨w.heap.size + 1 + 1 + 1 + 1, 8, none⟩ = some (.int .u64 (dgI (X / D) 7)) ∧ w'.cell? ⟨w.heap.size + 1 + 1 + 1 + 1 + 1, 0, none⟩ = some (.bool false) ∧ w'.cell? ⟨w.heap.size + 1 + 1 + 1 + 1 + 1, 1, none⟩ = some (.int .u64 (dgI (X % D) 0)) ∧ w'.cell? ⟨w.heap.size + 1 + 1 + 1 + 1 + 1, 2, none⟩ = some (.int .u64 (dgI (X % D) 1)) ∧ w'.cell? ⟨w.heap.size + 1 + 1 + 1 + 1 + 1, 3, none⟩ = some (.int .u64 (dgI (X % D) 2)) ∧ w'.cell? ⟨w.heap.size + 1 + 1 + 1 + 1 + 1, 4, none⟩ = some (.int .u64 (dgI (X % D) 3)) ∧ w'.cell? ⟨w.heap.size + 1 + 1 + 1 + 1 + 1, 5, none⟩ = some (.int .u64 (dgI (X % D) 4)) ∧ w'.cell? ⟨w.heap.size + 1 + 1 + 1 + 1 + 1, 6, none⟩ = some (.int .u64 (dgI (X % D) 5)) ∧ w'.cell? ⟨w.heap.size + 1 + 1 + 1 + 1 + 1, 7, none⟩ = some (.int .u64 (dgI (X % D) 6)) ∧ w'.cell? ⟨w.heap.size + 1 + 1 + 1 + 1 + 1, 8, none⟩ = some (.int .u64 (dgI (X % D) 7)))
          ((refine ⟨?_, ?_, ?_, ?_, ?_, ?_, ?_, ?_, ?_, ?_, ?_, ?_, ?_, ?_, ?_, ?_, ?_, ?_⟩ <;> (first | with_reducible assumption | (rw [cell_set9 (by omega)]; with_reducible assumption) | (rw [cell_set9 (by omega), cell_set9 (by omega)]; with_reducible assumption) | go_keep)))
          (fail)
        all_goals
          rename_i hhq
          clear hhq
          go_wp2
          refine bp_ret ?_ rfl
          refine ⟨.tuple #[.agg (bigA false (dgI (X / D))), .agg (bigA false (dgI (X % D)))], ret_cell2 (a := ⟨w.heap.size + 1 + 1, 0, none⟩) (b := ⟨w.heap.size + 1 + 1 + 1, 0, none⟩) Tryd.results92 ?_ ?_ (load67 (row_of (row_drew (row_other9 (row_set9 h2H.out rfl) (by omega))) (bigA false (dgI (X / D))) rfl) rfl) (load67 (row_of (row_drew (row_set9 (row_other9 h3H.out (by omega)) rfl)) (bigA false (dgI (X % D))) rfl) rfl), ?_, Below.drew (below_set9 (below_set9 hbH.out (by omega)) (by omega))⟩
          · simp
          · simp
          · obtain ⟨x0, x1⟩ := hxH.out
            obtain ⟨d0, d1⟩ := hdH.out
            rw [show sgnZ false X = X from rfl, bigV_nn (Int.ediv_nonneg x0 (Int.le_of_lt d0)), bigV_nn (Int.emod_nonneg X (Int.ne_of_gt d0))]
      · obtain ⟨x0, x1⟩ := hxH.out
        obtain ⟨d0, d1⟩ := hdH.out
        have q0 : 0 ≤ X / D := Int.ediv_nonneg x0 (Int.le_of_lt d0)
        have q1 : X / D < 2 ^ 256 := Int.lt_of_le_of_lt (Int.ediv_le_self _ x0) x1
        have r0 := Int.emod_nonneg X (Int.ne_of_gt d0)
        have r1 := Int.emod_lt_of_pos X d0
        have dn := Lib.hid (div_neg X D d0)
        have hs1 : sgnZ true X = -X := rfl
        clear hs1
        have u0 := big_neg h0
        have u4 := big_neg h4
        have hz1 := fun w => ref_Zero (X / D) q0 q1 w
        obtain ⟨z, hzz⟩ : ∃ z : Bool, z = decide (X / D = 0) := ⟨_, rfl⟩
        rw [← hzz] at hz1
        have hzzH := Lib.hid hzz
        have hZ1 := Lib.hid hz1
        have hz2 := fun w => ref_Zero (X % D) r0 (by omega) w
        have hL := Lib.hid (fun w => ref_less D (X % D) w)
        have hI := fun w => ref_Int (-1) (by decide) w
        have eM : bigV (-1) = bigA true (dgI 1) := rfl
        rw [eM] at hI
        have hA' := fun w => ref_Add_rows (!z) true (X / D) 1 q0 hq255 (by omega) (by decide) w
        have eV : sgnZ (!z) (X / D) + sgnZ true 1 = -(X / D) + -1 := by rw [hzz]; unfold sgnZ; by_cases h : X / D = 0 <;> simp [h]
        rw [eV] at hA'
        rw [bigV_neg (show -(X / D) + -1 < 0 by omega)] at hA'
        have eN : -(-(X / D) + -1) = X / D + 1 := by omega
        rw [eN] at hA'
        unfold bigA at hA' hI
        have hAH := Lib.hid hA'
        have hIH := Lib.hid hI
        have bnd := Lib.hid (And.intro q0 r0)
        clear hz1 hA' hI eV eN eM hzz q0 q1 x0 x1 d1
        have fz4 := row_frozen h4
        have h0H := Lib.hid h0
        have h1H := Lib.hid h1
        have h2H := Lib.hid h2
        have h3H := Lib.hid h3
        have h4H := Lib.hid h4
        have h5H := Lib.hid h5
        have hbH := Lib.hid hb
        clear h0 h1 h2 h3 h4 h5 hb u4 fz4
        by_cases hr : X % D = 0
        · rw [decide_eq_true hr] at hz2
          have hZ2 := Lib.hid hz2
          have hrH := Lib.hid hr
          clear hz2 hr r1 r0 d0
          have l101 := ld_dig h4H.out
          go_wp2_with (first | (refine wpList_load_at _ _ rfl rfl _ rfl _ (by with_reducible assumption) ?_; go_simp) | (refine wpList_store_at _ _ _ rfl rfl _ rfl _ (by with_reducible assumption) (by rfl) ?_; go_simp))
          refine (hZ1.out _).mono ?_
          rintro e w1 ⟨rfl, hbw1⟩
          have hsw1 := hbw1.size
          try simp only [setRow_size] at hsw1
          have w1r0 := Lib.hid (blk hbw1 h0H.out (by (try simp only [setRow_size]); omega))
          have w1r1 := Lib.hid (blk hbw1 h1H.out (by (try simp only [setRow_size]); omega))
          have w1r2 := Lib.hid (blk hbw1 h2H.out (by (try simp only [setRow_size]); omega))
          have w1r3 := Lib.hid (blk hbw1 h3H.out (by (try simp only [setRow_size]); omega))
          have w1r4 := Lib.hid (blk hbw1 h4H.out (by (try simp only [setRow_size]); omega))
          have w1r5 := Lib.hid (blk hbw1 h5H.out (by (try simp only [setRow_size]); omega))
          have w1sz : w.heap.size + 6 ≤ w1.heap.size := by omega
          have w1be := Lib.hid (hbH.out.trans (hbw1.mono (by (try simp only [setRow_size]); omega)))
          have y4 := big_neg w1r4.out
          have fy4 := row_frozen w1r4.out 0
          have p0 := Lib.hid (row_other (v := .bool (!z)) (a := ⟨w.heap.size + 1 + 1 + 1 + 1, 0, none⟩) w1r0.out (by simp; try omega))
          have p1 := Lib.hid (row_other (v := .bool (!z)) (a := ⟨w.heap.size + 1 + 1 + 1 + 1, 0, none⟩) w1r1.out (by simp; try omega))
          have p2 := Lib.hid (row_other (v := .bool (!z)) (a := ⟨w.heap.size + 1 + 1 + 1 + 1, 0, none⟩) w1r2.out (by simp; try omega))
          have p3 := Lib.hid (row_other (v := .bool (!z)) (a := ⟨w.heap.size + 1 + 1 + 1 + 1, 0, none⟩) w1r3.out (by simp; try omega))
          have p4 := Lib.hid (row_of (row_set (k := 0) (v := .bool (!z)) w1r4.out) (bigA (!z) (dgI (X / D))) rfl)
          have p5 := Lib.hid (row_other (v := .bool (!z)) (a := ⟨w.heap.size + 1 + 1 + 1 + 1, 0, none⟩) w1r5.out (by simp; try omega))
          have pbe := Lib.hid (w1be.out.setCell (p := ⟨w.heap.size + 1 + 1 + 1 + 1, 0, none⟩) (by simp; omega) (.bool (!z)))
          have l102 := ld_dig p5.out
          go_wp2_with (first | (refine wpList_load_at _ _ rfl rfl _ rfl _ (by with_reducible assumption) ?_; go_simp) | (refine wpList_store_at _ _ _ rfl rfl _ rfl _ (by with_reducible assumption) (by rfl) ?_; go_simp))
          refine (hZ2.out _).mono ?_
          rintro e w2 ⟨rfl, hbw2⟩
          have hsw2 := hbw2.size
          simp at hsw2
          have w2r0 := Lib.hid (blk hbw2 p0.out (by simp; omega))
          have w2r1 := Lib.hid (blk hbw2 p1.out (by simp; omega))
          have w2r2 := Lib.hid (blk hbw2 p2.out (by simp; omega))
          have w2r3 := Lib.hid (blk hbw2 p3.out (by simp; omega))
          have w2r4 := Lib.hid (blk hbw2 p4.out (by simp; omega))
          have w2r5 := Lib.hid (blk hbw2 p5.out (by simp; omega))
          have w2sz : w.heap.size + 6 ≤ w2.heap.size := by omega
          have w2be := Lib.hid (pbe.out.trans (hbw2.mono (by simp; omega)))
          go_wp2_with (first | (refine wpList_load_at _ _ rfl rfl _ rfl _ (by with_reducible assumption) ?_; go_simp) | (refine wpList_store_at _ _ _ rfl rfl _ rfl _ (by with_reducible assumption) (by rfl) ?_; go_simp))
          obtain ⟨e40, e41, e42, e43, e44, e45, e46, e47, e48⟩ := big_cells w2r4.out
          obtain ⟨e50, e51, e52, e53, e54, e55, e56, e57, e58⟩ := big_cells w2r5.out
          obtain ⟨e20, e21, e22, e23, e24, e25, e26, e27, e28⟩ := big_cells w2r2.out
          obtain ⟨e30, e31, e32, e33, e34, e35, e36, e37, e38⟩ := big_cells w2r3.out
          have fz2 := row_frozen w2r2.out
          have fz3 := row_frozen w2r3.out
          go_region_held3 (fun w' => w'.cell? ⟨w.heap.size + 1 + 1 + 1 + 1, 0, none⟩ = some (.bool (!z)) ∧ w'.cell? ⟨w.heap.size + 1 + 1 + 1 + 1, 1, none⟩ = some (.int .u64 (dgI (X / D) 0)) ∧ w'.cell? ⟨w.heap.size + 1 + 1 + 1 + 1, 2, none⟩ = some (.int .u64 (dgI (X / D) 1)) ∧ w'.cell? ⟨w.heap.size + 1 + 1 + 1 + 1, 3, none⟩ = some (.int .u64 (dgI (X / D) 2)) ∧ w'.cell? ⟨w.heap.size + 1 + 1 + 1 + 1, 4, none⟩ = some (.int .u64 (dgI (X / D) 3)) ∧ w'.cell? ⟨w.heap.size + 1 + 1 + 1 + 1, 5, none⟩ = some (.int .u64 (dgI (X / D) 4)) ∧ w'.cell? ⟨w.heap.size + 1 + 1 + 1 + 1, 6, none⟩ = some (.int .u64 (dgI (X / D) 5)) ∧ w'.cell? ⟨w.heap.size + 1 + 1 + 1 + 1, 7, none⟩ = some (.int .u64 (dgI (X / D) 6)) ∧ w'.cell? ⟨w.heap.size + 1 + 1 + 1 + 1, 8, none⟩ = some (.int .u64 (dgI (X / D) 7)) ∧ w'.cell? ⟨w.heap.size + 1 + 1 + 1 + 1 + 1, 0, none⟩ = some (.bool false) ∧ w'.cell? ⟨w.heap.size + 1 + 1 + 1 + 1 + 1, 1, none⟩ = some (.int .u64 (dgI (X % D) 0)) ∧ w'.cell? ⟨w.heap.size + 1 + 1 + 1 + 1 + 1, 2, none⟩ = some (.int .u64 (dgI (X % D) 1)) ∧ w'.cell? ⟨w.heap.size + 1 + 1 + 1 + 1 + 1, 3, none⟩ = some (.int .u64 (dgI (X % D) 2)) ∧ w'.cell? ⟨w.heap.size + 1 + 1 + 1 + 1 + 1, 4, none⟩ = some (.int .u64 (dgI (X % D) 3)) ∧ w'.cell? ⟨w.heap.size + 1 + 1 + 1 + 1 + 1, 5, none⟩ = some (.int .u64 (dgI (X % D) 4)) ∧ w'.cell? ⟨w.heap.size + 1 + 1 + 1 + 1 + 1, 6, none⟩ = some (.int .u64 (dgI (X % D) 5)) ∧ w'.cell? ⟨w.heap.size + 1 + 1 + 1 + 1 + 1, 7, none⟩ = some (.int .u64 (dgI (X % D) 6)) ∧ w'.cell? ⟨w.heap.size + 1 + 1 + 1 + 1 + 1, 8, none⟩ = some (.int .u64 (dgI (X % D) 7)))
            ((refine ⟨?_, ?_, ?_, ?_, ?_, ?_, ?_, ?_, ?_, ?_, ?_, ?_, ?_, ?_, ?_, ?_, ?_, ?_⟩ <;> (first | with_reducible assumption | (rw [cell_set9 (by omega)]; with_reducible assumption) | (rw [cell_set9 (by omega), cell_set9 (by omega)]; with_reducible assumption) | go_keep)))
            (fail)
          all_goals
            rename_i hhq
            clear hhq
            go_wp2
            refine bp_ret ?_ rfl
            refine ⟨.tuple #[.agg (bigA (!z) (dgI (X / D))), .agg (bigA false (dgI (X % D)))], ret_cell2 (a := ⟨w.heap.size + 1 + 1, 0, none⟩) (b := ⟨w.heap.size + 1 + 1 + 1, 0, none⟩) Tryd.results92 ?_ ?_ (load67 (row_of (row_drew (row_other9 (row_set9 w2r2.out rfl) (by omega))) (bigA (!z) (dgI (X / D))) rfl) rfl) (load67 (row_of (row_drew (row_set9 (row_other9 w2r3.out (by omega)) rfl)) (bigA false (dgI (X % D))) rfl) rfl), ?_, Below.drew (below_set9 (below_set9 w2be.out (by omega)) (by omega))⟩
            · simp
            · simp
            · obtain ⟨b0, b1⟩ := bnd.out
              obtain ⟨n1, n2⟩ := dn.out
              rw [if_pos hrH.out] at n1 n2
              have hq := bigA_sgn true (X / D) b0
              simp only [Bool.true_and] at hq
              rw [show sgnZ true X = -X from rfl, n1, n2, hzzH.out, hq, bigV_nn (Int.le_refl 0), hrH.out]
              rfl
        · rw [decide_eq_false hr] at hz2
          have hZ2 := Lib.hid hz2
          have hrH := Lib.hid hr
          have hDR := Lib.hid (And.intro r0 r1)
          clear hz2 hr r1 r0 d0
          have l101 := ld_dig h4H.out
          go_wp2_with (first | (refine wpList_load_at _ _ rfl rfl _ rfl _ (by with_reducible assumption) ?_; go_simp) | (refine wpList_store_at _ _ _ rfl rfl _ rfl _ (by with_reducible assumption) (by rfl) ?_; go_simp))
          refine (hZ1.out _).mono ?_
          rintro e w1 ⟨rfl, hbw1⟩
          have hsw1 := hbw1.size
          try simp only [setRow_size] at hsw1
          have w1r0 := Lib.hid (blk hbw1 h0H.out (by (try simp only [setRow_size]); omega))
          have w1r1 := Lib.hid (blk hbw1 h1H.out (by (try simp only [setRow_size]); omega))
          have w1r2 := Lib.hid (blk hbw1 h2H.out (by (try simp only [setRow_size]); omega))
          have w1r3 := Lib.hid (blk hbw1 h3H.out (by (try simp only [setRow_size]); omega))
          have w1r4 := Lib.hid (blk hbw1 h4H.out (by (try simp only [setRow_size]); omega))
          have w1r5 := Lib.hid (blk hbw1 h5H.out (by (try simp only [setRow_size]); omega))
          have w1sz : w.heap.size + 6 ≤ w1.heap.size := by omega
          have w1be := Lib.hid (hbH.out.trans (hbw1.mono (by (try simp only [setRow_size]); omega)))
          have y4 := big_neg w1r4.out
          have fy4 := row_frozen w1r4.out 0
          have p0 := Lib.hid (row_other (v := .bool (!z)) (a := ⟨w.heap.size + 1 + 1 + 1 + 1, 0, none⟩) w1r0.out (by simp; try omega))
          have p1 := Lib.hid (row_other (v := .bool (!z)) (a := ⟨w.heap.size + 1 + 1 + 1 + 1, 0, none⟩) w1r1.out (by simp; try omega))
          have p2 := Lib.hid (row_other (v := .bool (!z)) (a := ⟨w.heap.size + 1 + 1 + 1 + 1, 0, none⟩) w1r2.out (by simp; try omega))
          have p3 := Lib.hid (row_other (v := .bool (!z)) (a := ⟨w.heap.size + 1 + 1 + 1 + 1, 0, none⟩) w1r3.out (by simp; try omega))
          have p4 := Lib.hid (row_of (row_set (k := 0) (v := .bool (!z)) w1r4.out) (bigA (!z) (dgI (X / D))) rfl)
          have p5 := Lib.hid (row_other (v := .bool (!z)) (a := ⟨w.heap.size + 1 + 1 + 1 + 1, 0, none⟩) w1r5.out (by simp; try omega))
          have pbe := Lib.hid (w1be.out.setCell (p := ⟨w.heap.size + 1 + 1 + 1 + 1, 0, none⟩) (by simp; omega) (.bool (!z)))
          have l102 := ld_dig p5.out
          go_wp2_with (first | (refine wpList_load_at _ _ rfl rfl _ rfl _ (by with_reducible assumption) ?_; go_simp) | (refine wpList_store_at _ _ _ rfl rfl _ rfl _ (by with_reducible assumption) (by rfl) ?_; go_simp))
          refine (hZ2.out _).mono ?_
          rintro e w2 ⟨rfl, hbw2⟩
          have hsw2 := hbw2.size
          simp at hsw2
          have w2r0 := Lib.hid (blk hbw2 p0.out (by simp; omega))
          have w2r1 := Lib.hid (blk hbw2 p1.out (by simp; omega))
          have w2r2 := Lib.hid (blk hbw2 p2.out (by simp; omega))
          have w2r3 := Lib.hid (blk hbw2 p3.out (by simp; omega))
          have w2r4 := Lib.hid (blk hbw2 p4.out (by simp; omega))
          have w2r5 := Lib.hid (blk hbw2 p5.out (by simp; omega))
          have w2sz : w.heap.size + 6 ≤ w2.heap.size := by omega
          have w2be := Lib.hid (pbe.out.trans (hbw2.mono (by simp; omega)))
          go_wp2_with (first | (refine wpList_load_at _ _ rfl rfl _ rfl _ (by with_reducible assumption) ?_; go_simp) | (refine wpList_store_at _ _ _ rfl rfl _ rfl _ (by with_reducible assumption) (by rfl) ?_; go_simp))
          obtain ⟨e40, e41, e42, e43, e44, e45, e46, e47, e48⟩ := big_cells w2r4.out
          go_region_with (first | (go_at_call 94; refine (hIH.out _).mono ?_; rintro e w5 ⟨rfl, hbw5⟩; have k4 := blk hbw5 (row_drew w2r4.out) (by simp; omega); obtain ⟨f40, f41, f42, f43, f44, f45, f46, f47, f48⟩ := big_cells k4) | (go_at_call 123; refine (hAH.out _).mono ?_; rintro e w6 ⟨rfl, hbw6⟩; have j4 := blk hbw6 k4 (by have := hbw5.size; simp at this; omega); obtain ⟨g40, g41, g42, g43, g44, g45, g46, g47, g48⟩ := big_cells j4; have fz4 := row_frozen j4))
          all_goals
            have hs5 := hbw5.size
            simp at hs5
            have hs6 := hbw6.size
            go_upto_region 16 with (fail)
            refine wp_gen (fun wd => wd.heap[w.heap.size]? = some (.cells (bigA true (dgI X)) 159) ∧ wd.heap[w.heap.size + 1]? = some (.cells (bigA t (dgI D)) 159) ∧ wd.heap[w.heap.size + 1 + 1]? = some (.cells (bigA false fun _ => 0) 159) ∧ wd.heap[w.heap.size + 1 + 1 + 1]? = some (.cells (bigA false fun _ => 0) 159) ∧ wd.heap[w.heap.size + 1 + 1 + 1 + 1]? = some (.cells (bigA true (dgI (X / D + 1))) 159) ∧ wd.heap[w.heap.size + 1 + 1 + 1 + 1 + 1]? = some (.cells (bigA false (dgI (X % D))) 159) ∧ w.heap.size + 6 ≤ wd.heap.size ∧ Below w.heap.size w wd) ⟨row_other9 (blk hbw6 (blk hbw5 (row_drew w2r0.out) (by simp; omega)) (by omega)) (by omega), row_other9 (blk hbw6 (blk hbw5 (row_drew w2r1.out) (by simp; omega)) (by omega)) (by omega), row_other9 (blk hbw6 (blk hbw5 (row_drew w2r2.out) (by simp; omega)) (by omega)) (by omega), row_other9 (blk hbw6 (blk hbw5 (row_drew w2r3.out) (by simp; omega)) (by omega)) (by omega), row_of (row_set9 j4 rfl) _ rfl, row_other9 (blk hbw6 (blk hbw5 (row_drew w2r5.out) (by simp; omega)) (by omega)) (by omega), by simp; omega, below_set9 ((w2be.out.drew.trans (hbw5.mono (by simp; omega))).trans (hbw6.mono (by omega))) (by omega)⟩ ?_
            clear e40 e41 e42 e43 e44 e45 e46 e47 e48 f40 f41 f42 f43 f44 f45 f46 f47 f48 g40 g41 g42 g43 g44 g45 g46 g47 g48 fz4 k4 j4 hbw5 hbw6
            rintro wd ⟨a0, a1, a2, a3, a4, a5, hzd, hbd⟩
            have a0H := Lib.hid a0
            have a1H := Lib.hid a1
            have a2H := Lib.hid a2
            have a3H := Lib.hid a3
            have a4H := Lib.hid a4
            have a5H := Lib.hid a5
            have hbdH := Lib.hid hbd
            clear a0 a1 a2 a3 a4 a5 hbd
            have l103 := ld_dig a1H.out
            have l104 := ld_dig a5H.out
            go_wp2_with (first | (refine wpList_load_at _ _ rfl rfl _ rfl _ (by with_reducible assumption) ?_; go_simp) | (refine wpList_store_at _ _ _ rfl rfl _ rfl _ (by with_reducible assumption) (by rfl) ?_; go_simp))
            refine (hL.out _).mono ?_
            rintro e w7 ⟨rfl, hbw7⟩
            have hsw7 := hbw7.size
            try simp only [setRow_size] at hsw7
            have w7r0 := Lib.hid (blk hbw7 a0H.out (by (try simp only [setRow_size]); omega))
            have w7r1 := Lib.hid (blk hbw7 a1H.out (by (try simp only [setRow_size]); omega))
            have w7r2 := Lib.hid (blk hbw7 a2H.out (by (try simp only [setRow_size]); omega))
            have w7r3 := Lib.hid (blk hbw7 a3H.out (by (try simp only [setRow_size]); omega))
            have w7r4 := Lib.hid (blk hbw7 a4H.out (by (try simp only [setRow_size]); omega))
            have w7r5 := Lib.hid (blk hbw7 a5H.out (by (try simp only [setRow_size]); omega))
            have w7sz : w.heap.size + 6 ≤ w7.heap.size := by omega
            have w7be := Lib.hid (hbdH.out.trans (hbw7.mono (by (try simp only [setRow_size]); omega)))
            have s105 := st_dig (D - X % D) w7r5.out
            have q105r0 := Lib.hid (setRow_other (b' := w.heap.size + 1 + 1 + 1 + 1 + 1) (c' := bigA false (dgI (D - X % D))) w7r0.out (by omega))
            have q105r1 := Lib.hid (setRow_other (b' := w.heap.size + 1 + 1 + 1 + 1 + 1) (c' := bigA false (dgI (D - X % D))) w7r1.out (by omega))
            have q105r2 := Lib.hid (setRow_other (b' := w.heap.size + 1 + 1 + 1 + 1 + 1) (c' := bigA false (dgI (D - X % D))) w7r2.out (by omega))
            have q105r3 := Lib.hid (setRow_other (b' := w.heap.size + 1 + 1 + 1 + 1 + 1) (c' := bigA false (dgI (D - X % D))) w7r3.out (by omega))
            have q105r4 := Lib.hid (setRow_other (b' := w.heap.size + 1 + 1 + 1 + 1 + 1) (c' := bigA false (dgI (D - X % D))) w7r4.out (by omega))
            have q105r5 := Lib.hid (setRow_at (c' := bigA false (dgI (D - X % D))) w7r5.out)
            have q105be := Lib.hid (below_setRow (b := w.heap.size + 1 + 1 + 1 + 1 + 1) (c := bigA false (dgI (D - X % D))) w7be.out (by omega))
            go_wp2_with (first | (refine wpList_load_at _ _ rfl rfl _ rfl _ (by with_reducible assumption) ?_; go_simp) | (refine wpList_store_at _ _ _ rfl rfl _ rfl _ (by with_reducible assumption) (by rfl) ?_; go_simp))
            have w7z : w.heap.size + 6 ≤ (w7.setRow (w.heap.size + 1 + 1 + 1 + 1 + 1) (bigA false (dgI (D - X % D)))).heap.size := by rw [setRow_size]; exact w7sz
            obtain ⟨e40, e41, e42, e43, e44, e45, e46, e47, e48⟩ := big_cells q105r4.out
            obtain ⟨e50, e51, e52, e53, e54, e55, e56, e57, e58⟩ := big_cells q105r5.out
            obtain ⟨e20, e21, e22, e23, e24, e25, e26, e27, e28⟩ := big_cells q105r2.out
            obtain ⟨e30, e31, e32, e33, e34, e35, e36, e37, e38⟩ := big_cells q105r3.out
            have fz2 := row_frozen q105r2.out
            have fz3 := row_frozen q105r3.out
            go_region_held3 (fun w' => w'.cell? ⟨w.heap.size + 1 + 1 + 1 + 1, 0, none⟩ = some (.bool true) ∧ w'.cell? ⟨w.heap.size + 1 + 1 + 1 + 1, 1, none⟩ = some (.int .u64 (dgI (X / D + 1) 0)) ∧ w'.cell? ⟨w.heap.size + 1 + 1 + 1 + 1, 2, none⟩ = some (.int .u64 (dgI (X / D + 1) 1)) ∧ w'.cell? ⟨w.heap.size + 1 + 1 + 1 + 1, 3, none⟩ = some (.int .u64 (dgI (X / D + 1) 2)) ∧ w'.cell? ⟨w.heap.size + 1 + 1 + 1 + 1, 4, none⟩ = some (.int .u64 (dgI (X / D + 1) 3)) ∧ w'.cell? ⟨w.heap.size + 1 + 1 + 1 + 1, 5, none⟩ = some (.int .u64 (dgI (X / D + 1) 4)) ∧ w'.cell? ⟨w.heap.size + 1 + 1 + 1 + 1, 6, none⟩ = some (.int .u64 (dgI (X / D + 1) 5)) ∧ w'.cell? ⟨w.heap.size + 1 + 1 + 1 + 1, 7, none⟩ = some (.int .u64 (dgI (X / D + 1) 6)) ∧ w'.cell? ⟨w.heap.size + 1 + 1 + 1 + 1, 8, none⟩ = some (.int .u64 (dgI (X / D + 1) 7)) ∧ w'.cell? ⟨w.heap.size + 1 + 1 + 1 + 1 + 1, 0, none⟩ = some (.bool false) ∧ w'.cell? ⟨w.heap.size + 1 + 1 + 1 + 1 + 1, 1, none⟩ = some (.int .u64 (dgI (D - X % D) 0)) ∧ w'.cell? ⟨w.heap.size + 1 + 1 + 1 + 1 + 1, 2, none⟩ = some (.int .u64 (dgI (D - X % D) 1)) ∧ w'.cell? ⟨w.heap.size + 1 + 1 + 1 + 1 + 1, 3, none⟩ = some (.int .u64 (dgI (D - X % D) 2)) ∧ w'.cell? ⟨w.heap.size + 1 + 1 + 1 + 1 + 1, 4, none⟩ = some (.int .u64 (dgI (D - X % D) 3)) ∧ w'.cell? ⟨w.heap.size + 1 + 1 + 1 + 1 + 1, 5, none⟩ = some (.int .u64 (dgI (D - X % D) 4)) ∧ w'.cell? ⟨w.heap.size + 1 + 1 + 1 + 1 + 1, 6, none⟩ = some (.int .u64 (dgI (D - X % D) 5)) ∧ w'.cell? ⟨w.heap.size + 1 + 1 + 1 + 1 + 1, 7, none⟩ = some (.int .u64 (dgI (D - X % D) 6)) ∧ w'.cell? ⟨w.heap.size + 1 + 1 + 1 + 1 + 1, 8, none⟩ = some (.int .u64 (dgI (D - X % D) 7)))
              ((refine ⟨?_, ?_, ?_, ?_, ?_, ?_, ?_, ?_, ?_, ?_, ?_, ?_, ?_, ?_, ?_, ?_, ?_, ?_⟩ <;> (first | with_reducible assumption | (rw [cell_set9 (by omega)]; with_reducible assumption) | (rw [cell_set9 (by omega), cell_set9 (by omega)]; with_reducible assumption) | go_keep)))
              (fail)
            all_goals
              rename_i hhq
              clear hhq
              go_wp2
              refine bp_ret ?_ rfl
              refine ⟨.tuple #[.agg (bigA true (dgI (X / D + 1))), .agg (bigA false (dgI (D - X % D)))], ret_cell2 (a := ⟨w.heap.size + 1 + 1, 0, none⟩) (b := ⟨w.heap.size + 1 + 1 + 1, 0, none⟩) Tryd.results92 ?_ ?_ (load67 (row_of (row_drew (row_other9 (row_set9 q105r2.out rfl) (by omega))) (bigA true (dgI (X / D + 1))) rfl) rfl) (load67 (row_of (row_drew (row_set9 (row_other9 q105r3.out (by omega)) rfl)) (bigA false (dgI (D - X % D))) rfl) rfl), ?_, Below.drew (below_set9 (below_set9 q105be.out (by omega)) (by omega))⟩
              · simp
              · simp
              · obtain ⟨b0, b1⟩ := bnd.out
                obtain ⟨b2, b3⟩ := hDR.out
                obtain ⟨n1, n2⟩ := dn.out
                rw [if_neg hrH.out] at n1 n2
                rw [show sgnZ true X = -X from rfl, n1, n2, bigV_nn (show 0 ≤ D - X % D by omega), bigV_neg (show -(X / D) + -1 < 0 by omega), show -(-(X / D) + -1) = X / D + 1 by omega]
    · have e : ((i + 1 : Nat) : Int) - 1 = (i : Int) := by omega
      rw [e]
      clear e
      have c0 := big_dig h0 (i / 32) (by omega)
      have t0 : ((i : Int) / 32).toNat = i / 32 := by omega
      have t1 : (i : Int) / 32 < 8 := by omega
      have t2 : 0 ≤ (i : Int) / 32 := by omega
      have t3 : (i : Int) % 32 < 32 := by omega
      have t4 : 0 ≤ (i : Int) % 32 := by omega
      go_upto_region 6 with (fail)
      have hbit : (dgI X (i / 32) / 2 ^ (i % 32)).tmod 2 = X / 2 ^ i % 2 := by
        rw [Int.tmod_eq_emod_of_nonneg (Int.ediv_nonneg (dgI_nn _ _) (Int.le_of_lt (two_pos _))), bit_of]
      have hsp := bit_split X i
      have bt0 : 0 ≤ X / 2 ^ i % 2 := Int.emod_nonneg _ (by omega)
      have bt1 : X / 2 ^ i % 2 ≤ 1 := by omega
      rw [hbit]
      clear hbit c0 t0 t1 t2 t3 t4
      obtain ⟨d0, d1⟩ := hdH.out
      have ds := div_step (X / 2 ^ (i + 1)) D (X / 2 ^ i % 2) d0 bt0 bt1
      rw [← hsp] at ds
      have m0 := Int.emod_nonneg (X / 2 ^ (i + 1)) (Int.ne_of_gt d0)
      have m1 := Int.emod_lt_of_pos (X / 2 ^ (i + 1)) d0
      clear hsp
      generalize hYq : X / 2 ^ (i + 1) / D = Yq at *
      generalize hYr : X / 2 ^ (i + 1) % D = Yr at *
      generalize hbt : X / 2 ^ i % 2 = bt at *
      clear hbt
      clear hYq hYr
      have h0H := Lib.hid h0
      have h1H := Lib.hid h1
      have h2H := Lib.hid h2
      have h3H := Lib.hid h3
      have h4H := Lib.hid h4
      have h5H := Lib.hid h5
      have hbH := Lib.hid hb
      have hT := Lib.hid (fun w => ref_twice Yr bt bt0 bt1 w)
      have hS := Lib.hid (fun w => ref_Size (2 * Yr + bt) D (by omega) (by omega) (by omega) (by omega) w)
      have hL := Lib.hid (fun w => ref_less (2 * Yr + bt) D w)
      clear h0 h1 h2 h3 h4 h5 hb
      have dsH := Lib.hid ds
      clear ds
      by_cases hge : D ≤ 2 * Yr + bt
      · obtain ⟨z1, z2⟩ := dsH.out.1 hge
        have z1H := Lib.hid z1
        have z2H := Lib.hid z2
        clear z1 z2
        have sg : 0 ≤ szZ (2 * Yr + bt) D := by unfold szZ; split <;> omega
        have hT2 := Lib.hid (fun w => ref_twice Yq 1 (by omega) (by omega) w)
        generalize szZ (2 * Yr + bt) D = sz at *
        have bdH := Lib.hid (And.intro bt0 bt1)
        have mdH := Lib.hid (And.intro m0 m1)
        have ddH := Lib.hid (And.intro d0 d1)
        clear bt0 bt1 m0 m1 d0 d1 hge
        have l1 := ld_dig h5H.out
        go_wp2_with (first | (refine wpList_load_at _ _ rfl rfl _ rfl _ (by with_reducible assumption) ?_; go_simp) | (refine wpList_store_at _ _ _ rfl rfl _ rfl _ (by with_reducible assumption) (by rfl) ?_; go_simp))
        refine (hT.out _).mono ?_
        rintro e w1 ⟨rfl, hbw1⟩
        have hsw1 := hbw1.size
        try simp only [setRow_size] at hsw1
        have w1r0 := Lib.hid (blk hbw1 h0H.out (by (try simp only [setRow_size]); omega))
        have w1r1 := Lib.hid (blk hbw1 h1H.out (by (try simp only [setRow_size]); omega))
        have w1r2 := Lib.hid (blk hbw1 h2H.out (by (try simp only [setRow_size]); omega))
        have w1r3 := Lib.hid (blk hbw1 h3H.out (by (try simp only [setRow_size]); omega))
        have w1r4 := Lib.hid (blk hbw1 h4H.out (by (try simp only [setRow_size]); omega))
        have w1r5 := Lib.hid (blk hbw1 h5H.out (by (try simp only [setRow_size]); omega))
        have w1sz : w.heap.size + 6 ≤ w1.heap.size := by omega
        have w1be := Lib.hid (hbH.out.trans (hbw1.mono (by (try simp only [setRow_size]); omega)))
        have s2 := st_dig (2 * Yr + bt) w1r5.out
        have q2r0 := Lib.hid (setRow_other (b' := w.heap.size + 1 + 1 + 1 + 1 + 1) (c' := bigA false (dgI (2 * Yr + bt))) w1r0.out (by omega))
        have q2r1 := Lib.hid (setRow_other (b' := w.heap.size + 1 + 1 + 1 + 1 + 1) (c' := bigA false (dgI (2 * Yr + bt))) w1r1.out (by omega))
        have q2r2 := Lib.hid (setRow_other (b' := w.heap.size + 1 + 1 + 1 + 1 + 1) (c' := bigA false (dgI (2 * Yr + bt))) w1r2.out (by omega))
        have q2r3 := Lib.hid (setRow_other (b' := w.heap.size + 1 + 1 + 1 + 1 + 1) (c' := bigA false (dgI (2 * Yr + bt))) w1r3.out (by omega))
        have q2r4 := Lib.hid (setRow_other (b' := w.heap.size + 1 + 1 + 1 + 1 + 1) (c' := bigA false (dgI (2 * Yr + bt))) w1r4.out (by omega))
        have q2r5 := Lib.hid (setRow_at (c' := bigA false (dgI (2 * Yr + bt))) w1r5.out)
        have q2be := Lib.hid (below_setRow (b := w.heap.size + 1 + 1 + 1 + 1 + 1) (c := bigA false (dgI (2 * Yr + bt))) w1be.out (by omega))
        have l3 := ld_dig q2r5.out
        have l4 := ld_dig q2r1.out
        go_wp2_with (first | (refine wpList_load_at _ _ rfl rfl _ rfl _ (by with_reducible assumption) ?_; go_simp) | (refine wpList_store_at _ _ _ rfl rfl _ rfl _ (by with_reducible assumption) (by rfl) ?_; go_simp))
        refine (hS.out _).mono ?_
        rintro e w2 ⟨rfl, hbw2⟩
        have hsw2 := hbw2.size
        try simp only [setRow_size] at hsw2
        have w2r0 := Lib.hid (blk hbw2 q2r0.out (by (try simp only [setRow_size]); omega))
        have w2r1 := Lib.hid (blk hbw2 q2r1.out (by (try simp only [setRow_size]); omega))
        have w2r2 := Lib.hid (blk hbw2 q2r2.out (by (try simp only [setRow_size]); omega))
        have w2r3 := Lib.hid (blk hbw2 q2r3.out (by (try simp only [setRow_size]); omega))
        have w2r4 := Lib.hid (blk hbw2 q2r4.out (by (try simp only [setRow_size]); omega))
        have w2r5 := Lib.hid (blk hbw2 q2r5.out (by (try simp only [setRow_size]); omega))
        have w2sz : w.heap.size + 6 ≤ w2.heap.size := by omega
        have w2be := Lib.hid (q2be.out.trans (hbw2.mono (by (try simp only [setRow_size]); omega)))
        have l5 := ld_dig w2r5.out
        have l6 := ld_dig w2r1.out
        go_wp2_with (first | (refine wpList_load_at _ _ rfl rfl _ rfl _ (by with_reducible assumption) ?_; go_simp) | (refine wpList_store_at _ _ _ rfl rfl _ rfl _ (by with_reducible assumption) (by rfl) ?_; go_simp))
        refine (hL.out _).mono ?_
        rintro e w3 ⟨rfl, hbw3⟩
        have hsw3 := hbw3.size
        try simp only [setRow_size] at hsw3
        have w3r0 := Lib.hid (blk hbw3 w2r0.out (by (try simp only [setRow_size]); omega))
        have w3r1 := Lib.hid (blk hbw3 w2r1.out (by (try simp only [setRow_size]); omega))
        have w3r2 := Lib.hid (blk hbw3 w2r2.out (by (try simp only [setRow_size]); omega))
        have w3r3 := Lib.hid (blk hbw3 w2r3.out (by (try simp only [setRow_size]); omega))
        have w3r4 := Lib.hid (blk hbw3 w2r4.out (by (try simp only [setRow_size]); omega))
        have w3r5 := Lib.hid (blk hbw3 w2r5.out (by (try simp only [setRow_size]); omega))
        have w3sz : w.heap.size + 6 ≤ w3.heap.size := by omega
        have w3be := Lib.hid (w2be.out.trans (hbw3.mono (by (try simp only [setRow_size]); omega)))
        have s7 := st_dig (2 * Yr + bt - D) w3r5.out
        have q7r0 := Lib.hid (setRow_other (b' := w.heap.size + 1 + 1 + 1 + 1 + 1) (c' := bigA false (dgI (2 * Yr + bt - D))) w3r0.out (by omega))
        have q7r1 := Lib.hid (setRow_other (b' := w.heap.size + 1 + 1 + 1 + 1 + 1) (c' := bigA false (dgI (2 * Yr + bt - D))) w3r1.out (by omega))
        have q7r2 := Lib.hid (setRow_other (b' := w.heap.size + 1 + 1 + 1 + 1 + 1) (c' := bigA false (dgI (2 * Yr + bt - D))) w3r2.out (by omega))
        have q7r3 := Lib.hid (setRow_other (b' := w.heap.size + 1 + 1 + 1 + 1 + 1) (c' := bigA false (dgI (2 * Yr + bt - D))) w3r3.out (by omega))
        have q7r4 := Lib.hid (setRow_other (b' := w.heap.size + 1 + 1 + 1 + 1 + 1) (c' := bigA false (dgI (2 * Yr + bt - D))) w3r4.out (by omega))
        have q7r5 := Lib.hid (setRow_at (c' := bigA false (dgI (2 * Yr + bt - D))) w3r5.out)
        have q7be := Lib.hid (below_setRow (b := w.heap.size + 1 + 1 + 1 + 1 + 1) (c := bigA false (dgI (2 * Yr + bt - D))) w3be.out (by omega))
        have l8 := ld_dig q7r4.out
        go_wp2_with (first | (refine wpList_load_at _ _ rfl rfl _ rfl _ (by with_reducible assumption) ?_; go_simp) | (refine wpList_store_at _ _ _ rfl rfl _ rfl _ (by with_reducible assumption) (by rfl) ?_; go_simp))
        refine (hT2.out _).mono ?_
        rintro e w4 ⟨rfl, hbw4⟩
        have hsw4 := hbw4.size
        try simp only [setRow_size] at hsw4
        have w4r0 := Lib.hid (blk hbw4 q7r0.out (by (try simp only [setRow_size]); omega))
        have w4r1 := Lib.hid (blk hbw4 q7r1.out (by (try simp only [setRow_size]); omega))
        have w4r2 := Lib.hid (blk hbw4 q7r2.out (by (try simp only [setRow_size]); omega))
        have w4r3 := Lib.hid (blk hbw4 q7r3.out (by (try simp only [setRow_size]); omega))
        have w4r4 := Lib.hid (blk hbw4 q7r4.out (by (try simp only [setRow_size]); omega))
        have w4r5 := Lib.hid (blk hbw4 q7r5.out (by (try simp only [setRow_size]); omega))
        have w4sz : w.heap.size + 6 ≤ w4.heap.size := by omega
        have w4be := Lib.hid (q7be.out.trans (hbw4.mono (by (try simp only [setRow_size]); omega)))
        have s9 := st_dig (2 * Yq + 1) w4r4.out
        have q9r0 := Lib.hid (setRow_other (b' := w.heap.size + 1 + 1 + 1 + 1) (c' := bigA false (dgI (2 * Yq + 1))) w4r0.out (by omega))
        have q9r1 := Lib.hid (setRow_other (b' := w.heap.size + 1 + 1 + 1 + 1) (c' := bigA false (dgI (2 * Yq + 1))) w4r1.out (by omega))
        have q9r2 := Lib.hid (setRow_other (b' := w.heap.size + 1 + 1 + 1 + 1) (c' := bigA false (dgI (2 * Yq + 1))) w4r2.out (by omega))
        have q9r3 := Lib.hid (setRow_other (b' := w.heap.size + 1 + 1 + 1 + 1) (c' := bigA false (dgI (2 * Yq + 1))) w4r3.out (by omega))
        have q9r4 := Lib.hid (setRow_at (c' := bigA false (dgI (2 * Yq + 1))) w4r4.out)
        have q9r5 := Lib.hid (setRow_other (b' := w.heap.size + 1 + 1 + 1 + 1) (c' := bigA false (dgI (2 * Yq + 1))) w4r5.out (by omega))
        have q9be := Lib.hid (below_setRow (b := w.heap.size + 1 + 1 + 1 + 1) (c := bigA false (dgI (2 * Yq + 1))) w4be.out (by omega))
        go_wp2_with (first | (refine wpList_load_at _ _ rfl rfl _ rfl _ (by with_reducible assumption) ?_; go_simp) | (refine wpList_store_at _ _ _ rfl rfl _ rfl _ (by with_reducible assumption) (by rfl) ?_; go_simp))
        refine ⟨⟨i, by omega, rfl, q9r0.out, q9r1.out, q9r2.out, q9r3.out, ?_, ?_, ?_, q9be.out⟩, by simp [intOf]⟩
        · rw [z1H.out]; exact q9r4.out
        · rw [z2H.out]; exact q9r5.out
        · simp only [setRow_size]; omega
      · have hlt : 2 * Yr + bt < D := by omega
        obtain ⟨z1, z2⟩ := dsH.out.2 hlt
        have z1H := Lib.hid z1
        have z2H := Lib.hid z2
        clear z1 z2
        have sg : szZ (2 * Yr + bt) D < 0 := by rw [szZ_lt hlt]; omega
        have hT2 := Lib.hid (fun w => by have h := ref_twice Yq 0 (by omega) (by omega) w; rw [Int.add_zero] at h; exact h)
        generalize szZ (2 * Yr + bt) D = sz at *
        have bdH := Lib.hid (And.intro bt0 bt1)
        have mdH := Lib.hid (And.intro m0 m1)
        have ddH := Lib.hid (And.intro d0 d1)
        clear bt0 bt1 m0 m1 d0 d1 hge hlt
        have l10 := ld_dig h5H.out
        go_wp2_with (first | (refine wpList_load_at _ _ rfl rfl _ rfl _ (by with_reducible assumption) ?_; go_simp) | (refine wpList_store_at _ _ _ rfl rfl _ rfl _ (by with_reducible assumption) (by rfl) ?_; go_simp))
        refine (hT.out _).mono ?_
        rintro e w1 ⟨rfl, hbw1⟩
        have hsw1 := hbw1.size
        try simp only [setRow_size] at hsw1
        have w1r0 := Lib.hid (blk hbw1 h0H.out (by (try simp only [setRow_size]); omega))
        have w1r1 := Lib.hid (blk hbw1 h1H.out (by (try simp only [setRow_size]); omega))
        have w1r2 := Lib.hid (blk hbw1 h2H.out (by (try simp only [setRow_size]); omega))
        have w1r3 := Lib.hid (blk hbw1 h3H.out (by (try simp only [setRow_size]); omega))
        have w1r4 := Lib.hid (blk hbw1 h4H.out (by (try simp only [setRow_size]); omega))
        have w1r5 := Lib.hid (blk hbw1 h5H.out (by (try simp only [setRow_size]); omega))
        have w1sz : w.heap.size + 6 ≤ w1.heap.size := by omega
        have w1be := Lib.hid (hbH.out.trans (hbw1.mono (by (try simp only [setRow_size]); omega)))
        have s11 := st_dig (2 * Yr + bt) w1r5.out
        have q11r0 := Lib.hid (setRow_other (b' := w.heap.size + 1 + 1 + 1 + 1 + 1) (c' := bigA false (dgI (2 * Yr + bt))) w1r0.out (by omega))
        have q11r1 := Lib.hid (setRow_other (b' := w.heap.size + 1 + 1 + 1 + 1 + 1) (c' := bigA false (dgI (2 * Yr + bt))) w1r1.out (by omega))
        have q11r2 := Lib.hid (setRow_other (b' := w.heap.size + 1 + 1 + 1 + 1 + 1) (c' := bigA false (dgI (2 * Yr + bt))) w1r2.out (by omega))
        have q11r3 := Lib.hid (setRow_other (b' := w.heap.size + 1 + 1 + 1 + 1 + 1) (c' := bigA false (dgI (2 * Yr + bt))) w1r3.out (by omega))
        have q11r4 := Lib.hid (setRow_other (b' := w.heap.size + 1 + 1 + 1 + 1 + 1) (c' := bigA false (dgI (2 * Yr + bt))) w1r4.out (by omega))
        have q11r5 := Lib.hid (setRow_at (c' := bigA false (dgI (2 * Yr + bt))) w1r5.out)
        have q11be := Lib.hid (below_setRow (b := w.heap.size + 1 + 1 + 1 + 1 + 1) (c := bigA false (dgI (2 * Yr + bt))) w1be.out (by omega))
        have l12 := ld_dig q11r5.out
        have l13 := ld_dig q11r1.out
        go_wp2_with (first | (refine wpList_load_at _ _ rfl rfl _ rfl _ (by with_reducible assumption) ?_; go_simp) | (refine wpList_store_at _ _ _ rfl rfl _ rfl _ (by with_reducible assumption) (by rfl) ?_; go_simp))
        refine (hS.out _).mono ?_
        rintro e w2 ⟨rfl, hbw2⟩
        have hsw2 := hbw2.size
        try simp only [setRow_size] at hsw2
        have w2r0 := Lib.hid (blk hbw2 q11r0.out (by (try simp only [setRow_size]); omega))
        have w2r1 := Lib.hid (blk hbw2 q11r1.out (by (try simp only [setRow_size]); omega))
        have w2r2 := Lib.hid (blk hbw2 q11r2.out (by (try simp only [setRow_size]); omega))
        have w2r3 := Lib.hid (blk hbw2 q11r3.out (by (try simp only [setRow_size]); omega))
        have w2r4 := Lib.hid (blk hbw2 q11r4.out (by (try simp only [setRow_size]); omega))
        have w2r5 := Lib.hid (blk hbw2 q11r5.out (by (try simp only [setRow_size]); omega))
        have w2sz : w.heap.size + 6 ≤ w2.heap.size := by omega
        have w2be := Lib.hid (q11be.out.trans (hbw2.mono (by (try simp only [setRow_size]); omega)))
        have l14 := ld_dig w2r4.out
        go_wp2_with (first | (refine wpList_load_at _ _ rfl rfl _ rfl _ (by with_reducible assumption) ?_; go_simp) | (refine wpList_store_at _ _ _ rfl rfl _ rfl _ (by with_reducible assumption) (by rfl) ?_; go_simp))
        refine (hT2.out _).mono ?_
        rintro e w4 ⟨rfl, hbw4⟩
        have hsw4 := hbw4.size
        try simp only [setRow_size] at hsw4
        have w4r0 := Lib.hid (blk hbw4 w2r0.out (by (try simp only [setRow_size]); omega))
        have w4r1 := Lib.hid (blk hbw4 w2r1.out (by (try simp only [setRow_size]); omega))
        have w4r2 := Lib.hid (blk hbw4 w2r2.out (by (try simp only [setRow_size]); omega))
        have w4r3 := Lib.hid (blk hbw4 w2r3.out (by (try simp only [setRow_size]); omega))
        have w4r4 := Lib.hid (blk hbw4 w2r4.out (by (try simp only [setRow_size]); omega))
        have w4r5 := Lib.hid (blk hbw4 w2r5.out (by (try simp only [setRow_size]); omega))
        have w4sz : w.heap.size + 6 ≤ w4.heap.size := by omega
        have w4be := Lib.hid (w2be.out.trans (hbw4.mono (by (try simp only [setRow_size]); omega)))
        have s15 := st_dig (2 * Yq) w4r4.out
        have q15r0 := Lib.hid (setRow_other (b' := w.heap.size + 1 + 1 + 1 + 1) (c' := bigA false (dgI (2 * Yq))) w4r0.out (by omega))
        have q15r1 := Lib.hid (setRow_other (b' := w.heap.size + 1 + 1 + 1 + 1) (c' := bigA false (dgI (2 * Yq))) w4r1.out (by omega))
        have q15r2 := Lib.hid (setRow_other (b' := w.heap.size + 1 + 1 + 1 + 1) (c' := bigA false (dgI (2 * Yq))) w4r2.out (by omega))
        have q15r3 := Lib.hid (setRow_other (b' := w.heap.size + 1 + 1 + 1 + 1) (c' := bigA false (dgI (2 * Yq))) w4r3.out (by omega))
        have q15r4 := Lib.hid (setRow_at (c' := bigA false (dgI (2 * Yq))) w4r4.out)
        have q15r5 := Lib.hid (setRow_other (b' := w.heap.size + 1 + 1 + 1 + 1) (c' := bigA false (dgI (2 * Yq))) w4r5.out (by omega))
        have q15be := Lib.hid (below_setRow (b := w.heap.size + 1 + 1 + 1 + 1) (c := bigA false (dgI (2 * Yq))) w4be.out (by omega))
        go_wp2_with (first | (refine wpList_load_at _ _ rfl rfl _ rfl _ (by with_reducible assumption) ?_; go_simp) | (refine wpList_store_at _ _ _ rfl rfl _ rfl _ (by with_reducible assumption) (by rfl) ?_; go_simp))
        refine ⟨⟨i, by omega, rfl, q15r0.out, q15r1.out, q15r2.out, q15r3.out, ?_, ?_, ?_, q15be.out⟩, by simp [intOf]⟩
        · rw [z1H.out]; exact q15r4.out
        · rw [z2H.out]; exact q15r5.out
        · simp only [setRow_size]; omega
/-- A quotient, rounded down, and what is left. -/
theorem ref_Div (v d : Int) (v0 : -(2 ^ 254) < v) (v1 : v < 2 ^ 254) (d0 : 0 < d) (d1 : d < 2 ^ 255) (w : World) :
    Calls Tryd.prog 92 #[.agg (bigV v), .agg (bigV d)] w fun e w' => e = .returned (.tuple #[.agg (bigV (v / d)), .agg (bigV (v % d))]) ∧ Below w.heap.size w w' := by
  have a0 := absZ_nn v
  have a1 := absZ_lt v0 v1
  have c := ref_Div_loop (decide (v < 0)) (decide (d < 0)) (absZ v) d a0 (by omega) d0 d1 (Int.lt_of_le_of_lt (Int.ediv_le_self _ a0) (by omega)) w
  rw [sgn_bigV] at c
  have e : absZ d = d := by unfold absZ; rw [if_neg (by omega)]
  unfold bigV
  rw [e]
  exact c
end Go.Proofs.YtmdnnlfoljdfpaaDoor
