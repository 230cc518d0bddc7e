/- The statement WideParts: the walk where n is out of its bounds. -/
import Derived.Test.YtkdjfakjnkemiaaDoorParts
namespace Go.Proofs.YtkdjfakjnkemiaaDoor
open Go.RowKit

set_option maxHeartbeats 8000000 in
set_option maxRecDepth 100000 in
theorem law_WideParts_out (v n d : Int) (hv : in128 v) (hn : in64 n) (hd : in64 d) (hr : ¬ (0 ≤ n ∧ n < 128)) (w : World) (hL : LaidW w) :
    Calls Tryd.prog 5 #[wv v, .int .i64 n, .int .i64 d] w fun e w' => e = .returned (.bool true) ∧ Below w.heap.size w w' := by
  have hLH := Lib.hid hL
  have c1 := fun w => ref_From v hv w
  obtain ⟨h, l, ev, -⟩ := wv_open v hv
  rw [ev] at c1 ⊢
  rw [bigV_open] at c1
  generalize hsv : decide (v < 0) = sv at *
  generalize hav : absZ v = av at *
  unfold bigA at c1
  have h1 := Lib.hid c1
  have hsvH := Lib.hid hsv
  have havH := Lib.hid hav
  have evH := Lib.hid ev
  clear c1 hsv hav ev
  go_enter Tryd.func5, Tryd.ntmps5
  go_upto_region 1 with (fail)
  go_cut [7, 8] (fun v7 v8 wc => ∃ ba bp : Nat, v7 = .pointer (some ⟨ba, 0, none⟩) ∧ v8 = .pointer (some ⟨bp, 0, none⟩) ∧ wc.heap[ba]? = some (.cells #[.int .i64 h, .int .u64 l] 64) ∧ wc.heap[bp]? = some (.cells (bigA sv (dgI av)) 67) ∧ ba < wc.heap.size ∧ bp < wc.heap.size ∧ w.heap.size < wc.heap.size ∧ Below w.heap.size w wc)
  case first =>
    go_region_held3 (fun w' => w'.cell? ⟨w.heap.size, 0, none⟩ = some (.int .i64 h) ∧ w'.cell? ⟨w.heap.size, 1, none⟩ = some (.int .u64 l))
      (first | go_keep | (refine ⟨?_, ?_⟩ <;> (first | (rw [cell_set9 (by omega), cell_set2 (by omega)]; with_reducible assumption) | (rw [cell_set2 (by omega)]; with_reducible assumption))))
      ((go_at_call 26; refine (h1.out _).mono ?_; rintro e w1 ⟨rfl, hb1⟩; (try go_split_ands); obtain ⟨hc1, hf1⟩ := bcell hb1; have z1 := hb1.size; (try simp at z1); have z2 : w.heap.size < w1.heap.size := (by omega); (try (have z3 : w.heap.size + 1 < w1.heap.size := (by omega))); (try (have z4 : w.heap.size + 1 + 1 < w1.heap.size := (by omega))); have x0 : w1.cell? ⟨w.heap.size, 0, none⟩ = some (.int .i64 h) := (by rw [hb1.cell (by first | omega | (simp; done) | (simp; omega))]; first | assumption | (simp; done) | (go_simp; done)); have x1 : w1.cell? ⟨w.heap.size, 1, none⟩ = some (.int .u64 l) := (by rw [hb1.cell (by first | omega | (simp; done) | (simp; omega))]; first | assumption | (simp; done) | (go_simp; done))))
    all_goals
    rename_i hhq
    clear hhq
    clear x0 x1
    go_wp2_with fail
    go_meet
    case rel =>
      refine ⟨_, _, rfl, rfl, ?_, ?_, ?_, ?_, ?_, ?_⟩
      · (repeat (first | (with_reducible exact row_new (by first | rfl | (simp; done))) | (with_reducible apply row_past) | (with_reducible apply row_drew) | (with_reducible apply row_set9) | (with_reducible apply row_set2) | (with_reducible refine row_other9 ?_ (by first | omega | (simp; done) | (simp; omega))) | (with_reducible refine row_other2 ?_ (by first | omega | (simp; done) | (simp; omega))) | (with_reducible refine blk hb1 ?_ (by first | omega | (simp; done) | (simp; omega))) | (show Array.size _ = 9; rfl)))
      · refine row_of (c := #[.bool sv, .int .u64 (dgI av 0), .int .u64 (dgI av 1), .int .u64 (dgI av 2), .int .u64 (dgI av 3), .int .u64 (dgI av 4), .int .u64 (dgI av 5), .int .u64 (dgI av 6), .int .u64 (dgI av 7)]) ?_ _ rfl
        (repeat (first | (with_reducible exact row_new (by first | rfl | (simp; done))) | (with_reducible apply row_past) | (with_reducible apply row_drew) | (with_reducible apply row_set9) | (with_reducible apply row_set2) | (with_reducible refine row_other9 ?_ (by first | omega | (simp; done) | (simp; omega))) | (with_reducible refine row_other2 ?_ (by first | omega | (simp; done) | (simp; omega))) | (with_reducible refine blk hb1 ?_ (by first | omega | (simp; done) | (simp; omega))) | (show Array.size _ = 9; rfl)))
      · first | omega | (simp; done) | (simp; omega)
      · first | omega | (simp; done) | (simp; omega)
      · first | omega | (simp; done) | (simp; omega)
      · repeat (first | (with_reducible refine below_set9 ?_ (by first | omega | (simp; omega))) | (with_reducible refine Below.setCell ?_ (by first | omega | (simp; done) | (simp; omega)) _) | (with_reducible refine Below.alloc ?_ (by first | omega | (simp; done) | (simp; omega)) _) | (with_reducible refine Below.trans ?_ (hb1.mono (by first | omega | (simp; done) | (simp; omega)))) | (with_reducible refine Below.drew ?_) | (with_reducible exact Below.refl _ _))
  case rest =>
    obtain ⟨ba, bp, rfl, rfl, ra, rp, za, zp, zw, hb⟩ := hcut
    obtain ⟨sS, eS, c2, hS, hSy, hSn⟩ := shr_pack v n hv
    obtain ⟨sq, r, eD, c3, hQ, hQy, hQn⟩ := div_pack v d hv hd
    rw [evH.out] at c2 c3
    obtain ⟨sh, sl, es, -⟩ := wv_open sS hS
    obtain ⟨qh, ql, eq, -⟩ := wv_open sq hQ
    rw [es] at c2
    rw [eq] at c3
    have esH := Lib.hid es
    have eqH := Lib.hid eq
    obtain ⟨hS1, hS2⟩ := hSn hr
    subst hS2
    subst hS1
    obtain ⟨rfl, rfl⟩ : sh = 0 ∧ sl = 0 := wv_zero es
    rw [show errV (some 1) = .iface 122 (.int .i64 1) from rfl] at c2
    have h2 := Lib.hid c2
    have h3 := Lib.hid c3
    obtain ⟨a0, a1⟩ := cells2 ra
    have rpH := Lib.hid rp
    have hbH := Lib.hid hb
    clear c2 c3 es eq rp hb ra hSy hSn
    go_wp2_with fail
    refine (h2.out _).mono ?_
    rintro e2 w2 ⟨rfl, hb2⟩
    have z2 := hb2.size
    have x0 : w2.cell? ⟨ba, 0, none⟩ = some (.int .i64 h) := by rw [hb2.cell za]; exact a0
    have x1 : w2.cell? ⟨ba, 1, none⟩ = some (.int .u64 l) := by rw [hb2.cell za]; exact a1
    have rp2 := Lib.hid (blk hb2 rpH.out zp)
    have hbw2 := Lib.hid (hbH.out.trans (hb2.mono (by omega)))
    have za2 : ba < w2.heap.size := by omega
    have zp2 : bp < w2.heap.size := by omega
    clear a0 a1 hb2
    go_wp2_with fail
    refine (h3.out _).mono ?_
    rintro e3 w3 ⟨rfl, hb3⟩
    have z3 := hb3.size
    simp at z3
    have rp3 := Lib.hid (blk hb3 (row_past rp2.out) (by simp; omega))
    have rs3 := Lib.hid (blk hb3 (row_new (n := w2.heap.size) rfl) (by simp))
    have hbw3 := Lib.hid ((hbw2.out.alloc (by omega) _).trans (hb3.mono (by simp; omega)))
    have zs3 : w2.heap.size < w3.heap.size := by omega
    have zp3 : bp < w3.heap.size := by omega
    have zw3 : w.heap.size < w3.heap.size := by omega
    clear x0 x1 hb3
    have n6 := Lib.hid (fun w (h : LaidW w) => law02_num (some 1) w h)
    rw [show errV (some 1) = .iface 122 (.int .i64 1) from rfl, show numV (some 1) = 1 from rfl] at n6
    by_cases hn0 : n < 0
    case pos =>
      go_wp2_with fail
      refine (n6.out _ (LaidW.below hLH.out (hbw3.out.alloc (by omega) _))).mono ?_
      rintro e6 w6 ⟨rfl, hb6⟩
      have z6 := hb6.size
      simp at z6
      obtain ⟨u0, u1⟩ := cells2 (blk hb6 (row_past rs3.out) (by simp; omega))
      have pp := Lib.hid (blk hb6 (row_past rp3.out) (by simp; omega))
      have qq := Lib.hid (blk hb6 (row_new (n := w3.heap.size) rfl) (by simp))
      have bb := Lib.hid ((hbw3.out.alloc (by omega) _).trans (hb6.mono (by simp; omega)))
      have zz0 : w.heap.size < w6.heap.size := by omega
      have zzp : bp < w6.heap.size := by omega
      have zzq : w3.heap.size < w6.heap.size := by omega
      clear hb6 z6 h3 h2 n6
      by_cases hd1 : d < 1
      case pos =>
        obtain ⟨rfl, rfl, rfl⟩ := hQn hd1
        obtain ⟨rfl, rfl⟩ : qh = 0 ∧ ql = 0 := wv_zero eqH.out
        obtain ⟨u2, u3⟩ := cells2 qq.out
        have n7 := Lib.hid (fun w (h : LaidW w) => law02_num (some 1) w h)
        have s7 := Lib.hid (fun w (h : LaidW w) => sure02 w h)
        clear pp hQn hQy
        go_wp2_with fail
        refine (n7.out _ (LaidW.below hLH.out bb.out)).mono ?_
        rintro e7 w7 ⟨rfl, hb7⟩
        obtain ⟨u4, u5⟩ := cells2 (blk hb7 qq.out zzq)
        have bb7 := Lib.hid (bb.out.trans (hb7.mono (by omega)))
        try rw [show numV (some 1) = 1 from rfl]
        clear hb7 u2 u3
        go_wp2_with fail
        refine (s7.out _ (LaidW.below hLH.out bb7.out)).mono ?_
        rintro e8 w8 ⟨rfl, hb8⟩
        have hz8 : w.heap.size ≤ w7.heap.size := bb7.out.size
        have bb8 := bb7.out.trans (hb8.mono hz8)
        clear hb8
        go_wp2_with fail
        refine bp_ret ?_ rfl
        refine ⟨.bool true, ?_, rfl, bb8⟩
        simp [results, Tryd.results5, go_sem]
      case neg =>
        have hd2 : 1 ≤ d := by omega
        obtain ⟨hq1, rfl, rfl⟩ := hQy hd2
        clear hQn hQy hd1
        have hq1H := Lib.hid hq1
        try rw [show errV none = .nilIface from rfl]
        have c4 := fun w => ref_Int d hd w
        have v2 : -(2 ^ 254) < v ∧ v < 2 ^ 254 := by unfold in128 at hv; omega
        have hd3 : d < 2 ^ 255 := by unfold in64 at hd; omega
        have c5 := fun w => ref_Div v d v2.1 v2.2 (by omega) hd3 w
        have c6 := fun w => is02 sq hQ w
        have m0 := Int.emod_nonneg v (b := d) (by omega)
        have m1 := Int.emod_lt_of_pos v (b := d) (by omega)
        have hr64 : in64 (v % d) := by unfold in64 at *; omega
        have c7 := fun w => ref_Number (v % d) (by omega) (by unfold in64 at hr64; omega) w
        rw [numR_yes hr64] at c7
        rw [eqH.out] at c6
        rw [← hq1H.out] at c5
        rw [bigV_open v, hsvH.out, havH.out] at c5
        rw [bigV_open sq] at c5 c6
        rw [bigV_open (v % d)] at c5 c7
        generalize decide (sq < 0) = s4 at *
        generalize absZ sq = v4 at *
        generalize decide (v % d < 0) = s5 at *
        generalize absZ (v % d) = v5 at *
        generalize bigV d = PD at *
        unfold bigA at c5 c6 c7
        have k4 := Lib.hid c4
        have k5 := Lib.hid c5
        have k6 := Lib.hid c6
        have k7 := Lib.hid c7
        have s7 := Lib.hid (fun w (h : LaidW w) => sure02 w h)
        clear c4 c5 c6 c7 v2 hd3 m0 m1 hr64
        go_upto_region 12 with (fail)
        go_cut [16, 17] (fun v1 v2 wc => ∃ bw12 br12 : Nat, v1 = .pointer (some ⟨bw12, 0, none⟩) ∧ v2 = .pointer (some ⟨br12, 0, none⟩) ∧ wc.heap[bw12]? = some (.cells (bigA s4 (dgI v4)) 67) ∧ wc.heap[br12]? = some (.cells (bigA s5 (dgI v5)) 67) ∧ wc.heap[w3.heap.size]? = some (.cells (#[.int .i64 qh, .int .u64 ql]) 64) ∧ bw12 < wc.heap.size ∧ br12 < wc.heap.size ∧ w6.heap.size ≤ wc.heap.size ∧ Below w.heap.size w wc)
        case first =>
          obtain ⟨y0, y1, y2, y3, y4, y5, y6, y7, y8⟩ := big_cells pp.out
          go_region_held3 (fun w' => w'.cell? ⟨bp, 0, none⟩ = some (.bool sv) ∧ w'.cell? ⟨bp, 1, none⟩ = some (.int .u64 (dgI av 0)) ∧ w'.cell? ⟨bp, 2, none⟩ = some (.int .u64 (dgI av 1)) ∧ w'.cell? ⟨bp, 3, none⟩ = some (.int .u64 (dgI av 2)) ∧ w'.cell? ⟨bp, 4, none⟩ = some (.int .u64 (dgI av 3)) ∧ w'.cell? ⟨bp, 5, none⟩ = some (.int .u64 (dgI av 4)) ∧ w'.cell? ⟨bp, 6, none⟩ = some (.int .u64 (dgI av 5)) ∧ w'.cell? ⟨bp, 7, none⟩ = some (.int .u64 (dgI av 6)) ∧ w'.cell? ⟨bp, 8, none⟩ = some (.int .u64 (dgI av 7)))
            ((refine ⟨?_, ?_, ?_, ?_, ?_, ?_, ?_, ?_, ?_⟩ <;> (first | with_reducible assumption | (with_reducible exact Eq.trans (cell_set9 (by omega)) (by with_reducible assumption)) | (with_reducible exact Eq.trans (World.cell?_alloc_past _ _ _ (by first | omega | (simp; omega))) (by with_reducible assumption)) | (with_reducible exact Eq.trans (World.cell?_alloc_past _ _ _ (by first | omega | (simp; omega))) (Eq.trans (cell_set9 (by omega)) (by with_reducible assumption))) | (with_reducible exact Eq.trans (cell_set9 (by omega)) (Eq.trans (World.cell?_alloc_past _ _ _ (by first | omega | (simp; omega))) (by with_reducible assumption))) | (with_reducible exact Eq.trans (cell_set9 (by omega)) (Eq.trans (cell_set9 (by omega)) (by with_reducible assumption))) | (with_reducible exact Eq.trans (World.cell?_alloc_past _ _ _ (by first | omega | (simp; omega))) (Eq.trans (World.cell?_alloc_past _ _ _ (by first | omega | (simp; omega))) (by with_reducible assumption))) | go_keep)))
            (((try go_split_ands); (first | (go_at_call 34; with_reducible refine (k4.out _).mono ?_; rintro e wP ⟨rfl, hbP⟩; have zzwP := hbP.size; (try simp at zzwP); obtain ⟨hcwP, hfwP⟩ := bcell hbP; (try (have zbp0wP : bp < wP.heap.size := (by omega))); (try (have zbp1wP : bp < wP.heap.size + 1 := (by omega))); (try (have zbp2wP : bp < wP.heap.size + 1 + 1 := (by omega))); (try (have zk00wP : w6.heap.size < wP.heap.size := (by omega))); (try (have zk01wP : w6.heap.size < wP.heap.size + 1 := (by omega))); (try (have zk10wP : w6.heap.size + 1 < wP.heap.size := (by omega))); have o0 := (hbP.cell (p := ⟨bp, 0, none⟩) (by first | omega | (simp; done) | (simp; omega))).trans (by first | with_reducible assumption | (go_simp; done)); have o1 := (hbP.cell (p := ⟨bp, 1, none⟩) (by first | omega | (simp; done) | (simp; omega))).trans (by first | with_reducible assumption | (go_simp; done)); have o2 := (hbP.cell (p := ⟨bp, 2, none⟩) (by first | omega | (simp; done) | (simp; omega))).trans (by first | with_reducible assumption | (go_simp; done)); have o3 := (hbP.cell (p := ⟨bp, 3, none⟩) (by first | omega | (simp; done) | (simp; omega))).trans (by first | with_reducible assumption | (go_simp; done)); have o4 := (hbP.cell (p := ⟨bp, 4, none⟩) (by first | omega | (simp; done) | (simp; omega))).trans (by first | with_reducible assumption | (go_simp; done)); have o5 := (hbP.cell (p := ⟨bp, 5, none⟩) (by first | omega | (simp; done) | (simp; omega))).trans (by first | with_reducible assumption | (go_simp; done)); have o6 := (hbP.cell (p := ⟨bp, 6, none⟩) (by first | omega | (simp; done) | (simp; omega))).trans (by first | with_reducible assumption | (go_simp; done)); have o7 := (hbP.cell (p := ⟨bp, 7, none⟩) (by first | omega | (simp; done) | (simp; omega))).trans (by first | with_reducible assumption | (go_simp; done)); have o8 := (hbP.cell (p := ⟨bp, 8, none⟩) (by first | omega | (simp; done) | (simp; omega))).trans (by first | with_reducible assumption | (go_simp; done))) | (go_at_call 30; with_reducible refine (k5.out _).mono ?_; rintro e wD ⟨rfl, hbD⟩; have zzwD := hbD.size; (try simp at zzwD); obtain ⟨hcwD, hfwD⟩ := bcell hbD; (try (have zbp0wD : bp < wD.heap.size := (by omega))); (try (have zk00wD : w6.heap.size < wD.heap.size := (by omega))); (try (have zk10wD : w6.heap.size + 1 < wD.heap.size := (by omega))); (try (have zp00wD : wP.heap.size < wD.heap.size := (by omega))); (try (have zp10wD : wP.heap.size + 1 < wD.heap.size := (by omega))); have o0 := (hbD.cell (p := ⟨bp, 0, none⟩) (by first | omega | (simp; done) | (simp; omega))).trans (by first | with_reducible assumption | (go_simp; done)); have o1 := (hbD.cell (p := ⟨bp, 1, none⟩) (by first | omega | (simp; done) | (simp; omega))).trans (by first | with_reducible assumption | (go_simp; done)); have o2 := (hbD.cell (p := ⟨bp, 2, none⟩) (by first | omega | (simp; done) | (simp; omega))).trans (by first | with_reducible assumption | (go_simp; done)); have o3 := (hbD.cell (p := ⟨bp, 3, none⟩) (by first | omega | (simp; done) | (simp; omega))).trans (by first | with_reducible assumption | (go_simp; done)); have o4 := (hbD.cell (p := ⟨bp, 4, none⟩) (by first | omega | (simp; done) | (simp; omega))).trans (by first | with_reducible assumption | (go_simp; done)); have o5 := (hbD.cell (p := ⟨bp, 5, none⟩) (by first | omega | (simp; done) | (simp; omega))).trans (by first | with_reducible assumption | (go_simp; done)); have o6 := (hbD.cell (p := ⟨bp, 6, none⟩) (by first | omega | (simp; done) | (simp; omega))).trans (by first | with_reducible assumption | (go_simp; done)); have o7 := (hbD.cell (p := ⟨bp, 7, none⟩) (by first | omega | (simp; done) | (simp; omega))).trans (by first | with_reducible assumption | (go_simp; done)); have o8 := (hbD.cell (p := ⟨bp, 8, none⟩) (by first | omega | (simp; done) | (simp; omega))).trans (by first | with_reducible assumption | (go_simp; done))))))
          all_goals
            rename_i hhq
            clear hhq
            clear o0 o1 o2 o3 o4 o5 o6 o7 o8 y0 y1 y2 y3 y4 y5 y6 y7 y8
            have qq' := qq.out
            have bb' := bb.out
            go_wp2_with fail
            go_meet
            case rel =>
              refine ⟨_, _, rfl, rfl, ?_, ?_, ?_, ?_, ?_, ?_, ?_⟩
              · refine row_of (c := #[.bool s4, .int .u64 (dgI v4 0), .int .u64 (dgI v4 1), .int .u64 (dgI v4 2), .int .u64 (dgI v4 3), .int .u64 (dgI v4 4), .int .u64 (dgI v4 5), .int .u64 (dgI v4 6), .int .u64 (dgI v4 7)]) ?_ _ rfl
                (repeat (first | with_reducible assumption | (with_reducible refine row_new ?_; focus (first | rfl | (simp; done))) | (with_reducible apply row_past) | (with_reducible apply row_drew) | (with_reducible apply row_set9) | (with_reducible apply row_set2) | (with_reducible refine row_other9 ?_ (by first | omega | (simp; done) | (simp; omega))) | (with_reducible refine row_other2 ?_ (by first | omega | (simp; done) | (simp; omega))) | (with_reducible refine blk hbD ?_ (by first | omega | (simp; done) | (simp; omega))) | (with_reducible refine blk hbP ?_ (by first | omega | (simp; done) | (simp; omega))) | (show Array.size _ = 9; rfl)))
              · refine row_of (c := #[.bool s5, .int .u64 (dgI v5 0), .int .u64 (dgI v5 1), .int .u64 (dgI v5 2), .int .u64 (dgI v5 3), .int .u64 (dgI v5 4), .int .u64 (dgI v5 5), .int .u64 (dgI v5 6), .int .u64 (dgI v5 7)]) ?_ _ rfl
                (repeat (first | with_reducible assumption | (with_reducible refine row_new ?_; focus (first | rfl | (simp; done))) | (with_reducible apply row_past) | (with_reducible apply row_drew) | (with_reducible apply row_set9) | (with_reducible apply row_set2) | (with_reducible refine row_other9 ?_ (by first | omega | (simp; done) | (simp; omega))) | (with_reducible refine row_other2 ?_ (by first | omega | (simp; done) | (simp; omega))) | (with_reducible refine blk hbD ?_ (by first | omega | (simp; done) | (simp; omega))) | (with_reducible refine blk hbP ?_ (by first | omega | (simp; done) | (simp; omega))) | (show Array.size _ = 9; rfl)))
              · (repeat (first | with_reducible assumption | (with_reducible refine row_new ?_; focus (first | rfl | (simp; done))) | (with_reducible apply row_past) | (with_reducible apply row_drew) | (with_reducible apply row_set9) | (with_reducible apply row_set2) | (with_reducible refine row_other9 ?_ (by first | omega | (simp; done) | (simp; omega))) | (with_reducible refine row_other2 ?_ (by first | omega | (simp; done) | (simp; omega))) | (with_reducible refine blk hbD ?_ (by first | omega | (simp; done) | (simp; omega))) | (with_reducible refine blk hbP ?_ (by first | omega | (simp; done) | (simp; omega))) | (show Array.size _ = 9; rfl)))
              · first | omega | (simp; done) | (simp; omega)
              · first | omega | (simp; done) | (simp; omega)
              · first | omega | (simp; done) | (simp; omega)
              · (repeat (first | with_reducible assumption | (with_reducible refine below_set9 ?_ (by first | omega | (simp; done) | (simp; omega))) | (with_reducible refine Below.setCell ?_ (by first | omega | (simp; done) | (simp; omega)) _) | (with_reducible refine Below.alloc ?_ (by first | omega | (simp; done) | (simp; omega)) _) | (with_reducible refine Below.trans ?_ (hbD.mono (by first | omega | (simp; done) | (simp; omega)))) | (with_reducible refine Below.trans ?_ (hbP.mono (by first | omega | (simp; done) | (simp; omega)))) | (with_reducible refine Below.drew ?_)))
        case rest =>
          obtain ⟨bw, br, rfl, rfl, g1, g2, g5, q1, q2, q3, hb⟩ := hcut
          obtain ⟨y0, y1, y2, y3, y4, y5, y6, y7, y8⟩ := big_cells g2
          have gz : w3.heap.size < wc.heap.size := (Array.getElem?_eq_some_iff.1 g5).1
          have g1H := Lib.hid g1
          have g5H := Lib.hid g5
          have hbH5 := Lib.hid hb
          clear g1 g2 g5 hb
          go_wp2_with fail
          refine (k7.out _).mono ?_
          rintro e7 w7 ⟨rfl, hb7⟩
          clear y0 y1 y2 y3 y4 y5 y6 y7 y8
          have hzz : w.heap.size ≤ wc.heap.size := hbH5.out.size
          obtain ⟨y0, y1, y2, y3, y4, y5, y6, y7, y8⟩ := big_cells (blk hb7 g1H.out q1)
          obtain ⟨u4, u5⟩ := cells2 (blk hb7 g5H.out gz)
          have bb7 := Lib.hid (hbH5.out.trans (hb7.mono hzz))
          clear hb7
          skip
          go_wp2_with fail
          refine (k6.out _).mono ?_
          rintro e8 w8 ⟨rfl, hb8⟩
          have hz7 : w.heap.size ≤ w7.heap.size := bb7.out.size
          have bb8 := Lib.hid (bb7.out.trans (hb8.mono hz7))
          clear y0 y1 y2 y3 y4 y5 y6 y7 y8 u4 u5 hb8
          go_wp2_with fail
          refine (s7.out _ (LaidW.below hLH.out bb8.out)).mono ?_
          rintro e9 w9 ⟨rfl, hb9⟩
          have hz8 : w.heap.size ≤ w8.heap.size := bb8.out.size
          have bb9 := bb8.out.trans (hb9.mono hz8)
          clear hb9
          go_wp2_with fail
          refine bp_ret ?_ rfl
          refine ⟨.bool true, ?_, rfl, bb9⟩
          simp [results, Tryd.results5, go_sem]
    case neg =>
      have hn1 : 127 < n := by omega
      have hn2 : 0 ≤ n := by omega
      clear hn0
      go_wp2_with fail
      refine (n6.out _ (LaidW.below hLH.out (hbw3.out.alloc (by omega) _))).mono ?_
      rintro e6 w6 ⟨rfl, hb6⟩
      have z6 := hb6.size
      simp at z6
      obtain ⟨u0, u1⟩ := cells2 (blk hb6 (row_past rs3.out) (by simp; omega))
      have pp := Lib.hid (blk hb6 (row_past rp3.out) (by simp; omega))
      have qq := Lib.hid (blk hb6 (row_new (n := w3.heap.size) rfl) (by simp))
      have bb := Lib.hid ((hbw3.out.alloc (by omega) _).trans (hb6.mono (by simp; omega)))
      have zz0 : w.heap.size < w6.heap.size := by omega
      have zzp : bp < w6.heap.size := by omega
      have zzq : w3.heap.size < w6.heap.size := by omega
      clear hb6 z6 h3 h2 n6
      by_cases hd1 : d < 1
      case pos =>
        obtain ⟨rfl, rfl, rfl⟩ := hQn hd1
        obtain ⟨rfl, rfl⟩ : qh = 0 ∧ ql = 0 := wv_zero eqH.out
        obtain ⟨u2, u3⟩ := cells2 qq.out
        have n7 := Lib.hid (fun w (h : LaidW w) => law02_num (some 1) w h)
        have s7 := Lib.hid (fun w (h : LaidW w) => sure02 w h)
        clear pp hQn hQy
        go_wp2_with fail
        refine (n7.out _ (LaidW.below hLH.out bb.out)).mono ?_
        rintro e7 w7 ⟨rfl, hb7⟩
        obtain ⟨u4, u5⟩ := cells2 (blk hb7 qq.out zzq)
        have bb7 := Lib.hid (bb.out.trans (hb7.mono (by omega)))
        try rw [show numV (some 1) = 1 from rfl]
        clear hb7 u2 u3
        go_wp2_with fail
        refine (s7.out _ (LaidW.below hLH.out bb7.out)).mono ?_
        rintro e8 w8 ⟨rfl, hb8⟩
        have hz8 : w.heap.size ≤ w7.heap.size := bb7.out.size
        have bb8 := bb7.out.trans (hb8.mono hz8)
        clear hb8
        go_wp2_with fail
        refine bp_ret ?_ rfl
        refine ⟨.bool true, ?_, rfl, bb8⟩
        simp [results, Tryd.results5, go_sem]
      case neg =>
        have hd2 : 1 ≤ d := by omega
        obtain ⟨hq1, rfl, rfl⟩ := hQy hd2
        clear hQn hQy hd1
        have hq1H := Lib.hid hq1
        try rw [show errV none = .nilIface from rfl]
        have c4 := fun w => ref_Int d hd w
        have v2 : -(2 ^ 254) < v ∧ v < 2 ^ 254 := by unfold in128 at hv; omega
        have hd3 : d < 2 ^ 255 := by unfold in64 at hd; omega
        have c5 := fun w => ref_Div v d v2.1 v2.2 (by omega) hd3 w
        have c6 := fun w => is02 sq hQ w
        have m0 := Int.emod_nonneg v (b := d) (by omega)
        have m1 := Int.emod_lt_of_pos v (b := d) (by omega)
        have hr64 : in64 (v % d) := by unfold in64 at *; omega
        have c7 := fun w => ref_Number (v % d) (by omega) (by unfold in64 at hr64; omega) w
        rw [numR_yes hr64] at c7
        rw [eqH.out] at c6
        rw [← hq1H.out] at c5
        rw [bigV_open v, hsvH.out, havH.out] at c5
        rw [bigV_open sq] at c5 c6
        rw [bigV_open (v % d)] at c5 c7
        generalize decide (sq < 0) = s4 at *
        generalize absZ sq = v4 at *
        generalize decide (v % d < 0) = s5 at *
        generalize absZ (v % d) = v5 at *
        generalize bigV d = PD at *
        unfold bigA at c5 c6 c7
        have k4 := Lib.hid c4
        have k5 := Lib.hid c5
        have k6 := Lib.hid c6
        have k7 := Lib.hid c7
        have s7 := Lib.hid (fun w (h : LaidW w) => sure02 w h)
        clear c4 c5 c6 c7 v2 hd3 m0 m1 hr64
        go_upto_region 12 with (fail)
        go_cut [16, 17] (fun v1 v2 wc => ∃ bw12 br12 : Nat, v1 = .pointer (some ⟨bw12, 0, none⟩) ∧ v2 = .pointer (some ⟨br12, 0, none⟩) ∧ wc.heap[bw12]? = some (.cells (bigA s4 (dgI v4)) 67) ∧ wc.heap[br12]? = some (.cells (bigA s5 (dgI v5)) 67) ∧ wc.heap[w3.heap.size]? = some (.cells (#[.int .i64 qh, .int .u64 ql]) 64) ∧ bw12 < wc.heap.size ∧ br12 < wc.heap.size ∧ w6.heap.size ≤ wc.heap.size ∧ Below w.heap.size w wc)
        case first =>
          obtain ⟨y0, y1, y2, y3, y4, y5, y6, y7, y8⟩ := big_cells pp.out
          go_region_held3 (fun w' => w'.cell? ⟨bp, 0, none⟩ = some (.bool sv) ∧ w'.cell? ⟨bp, 1, none⟩ = some (.int .u64 (dgI av 0)) ∧ w'.cell? ⟨bp, 2, none⟩ = some (.int .u64 (dgI av 1)) ∧ w'.cell? ⟨bp, 3, none⟩ = some (.int .u64 (dgI av 2)) ∧ w'.cell? ⟨bp, 4, none⟩ = some (.int .u64 (dgI av 3)) ∧ w'.cell? ⟨bp, 5, none⟩ = some (.int .u64 (dgI av 4)) ∧ w'.cell? ⟨bp, 6, none⟩ = some (.int .u64 (dgI av 5)) ∧ w'.cell? ⟨bp, 7, none⟩ = some (.int .u64 (dgI av 6)) ∧ w'.cell? ⟨bp, 8, none⟩ = some (.int .u64 (dgI av 7)))
            ((refine ⟨?_, ?_, ?_, ?_, ?_, ?_, ?_, ?_, ?_⟩ <;> (first | with_reducible assumption | (with_reducible exact Eq.trans (cell_set9 (by omega)) (by with_reducible assumption)) | (with_reducible exact Eq.trans (World.cell?_alloc_past _ _ _ (by first | omega | (simp; omega))) (by with_reducible assumption)) | (with_reducible exact Eq.trans (World.cell?_alloc_past _ _ _ (by first | omega | (simp; omega))) (Eq.trans (cell_set9 (by omega)) (by with_reducible assumption))) | (with_reducible exact Eq.trans (cell_set9 (by omega)) (Eq.trans (World.cell?_alloc_past _ _ _ (by first | omega | (simp; omega))) (by with_reducible assumption))) | (with_reducible exact Eq.trans (cell_set9 (by omega)) (Eq.trans (cell_set9 (by omega)) (by with_reducible assumption))) | (with_reducible exact Eq.trans (World.cell?_alloc_past _ _ _ (by first | omega | (simp; omega))) (Eq.trans (World.cell?_alloc_past _ _ _ (by first | omega | (simp; omega))) (by with_reducible assumption))) | go_keep)))
            (((try go_split_ands); (first | (go_at_call 34; with_reducible refine (k4.out _).mono ?_; rintro e wP ⟨rfl, hbP⟩; have zzwP := hbP.size; (try simp at zzwP); obtain ⟨hcwP, hfwP⟩ := bcell hbP; (try (have zbp0wP : bp < wP.heap.size := (by omega))); (try (have zbp1wP : bp < wP.heap.size + 1 := (by omega))); (try (have zbp2wP : bp < wP.heap.size + 1 + 1 := (by omega))); (try (have zk00wP : w6.heap.size < wP.heap.size := (by omega))); (try (have zk01wP : w6.heap.size < wP.heap.size + 1 := (by omega))); (try (have zk10wP : w6.heap.size + 1 < wP.heap.size := (by omega))); have o0 := (hbP.cell (p := ⟨bp, 0, none⟩) (by first | omega | (simp; done) | (simp; omega))).trans (by first | with_reducible assumption | (go_simp; done)); have o1 := (hbP.cell (p := ⟨bp, 1, none⟩) (by first | omega | (simp; done) | (simp; omega))).trans (by first | with_reducible assumption | (go_simp; done)); have o2 := (hbP.cell (p := ⟨bp, 2, none⟩) (by first | omega | (simp; done) | (simp; omega))).trans (by first | with_reducible assumption | (go_simp; done)); have o3 := (hbP.cell (p := ⟨bp, 3, none⟩) (by first | omega | (simp; done) | (simp; omega))).trans (by first | with_reducible assumption | (go_simp; done)); have o4 := (hbP.cell (p := ⟨bp, 4, none⟩) (by first | omega | (simp; done) | (simp; omega))).trans (by first | with_reducible assumption | (go_simp; done)); have o5 := (hbP.cell (p := ⟨bp, 5, none⟩) (by first | omega | (simp; done) | (simp; omega))).trans (by first | with_reducible assumption | (go_simp; done)); have o6 := (hbP.cell (p := ⟨bp, 6, none⟩) (by first | omega | (simp; done) | (simp; omega))).trans (by first | with_reducible assumption | (go_simp; done)); have o7 := (hbP.cell (p := ⟨bp, 7, none⟩) (by first | omega | (simp; done) | (simp; omega))).trans (by first | with_reducible assumption | (go_simp; done)); have o8 := (hbP.cell (p := ⟨bp, 8, none⟩) (by first | omega | (simp; done) | (simp; omega))).trans (by first | with_reducible assumption | (go_simp; done))) | (go_at_call 30; with_reducible refine (k5.out _).mono ?_; rintro e wD ⟨rfl, hbD⟩; have zzwD := hbD.size; (try simp at zzwD); obtain ⟨hcwD, hfwD⟩ := bcell hbD; (try (have zbp0wD : bp < wD.heap.size := (by omega))); (try (have zk00wD : w6.heap.size < wD.heap.size := (by omega))); (try (have zk10wD : w6.heap.size + 1 < wD.heap.size := (by omega))); (try (have zp00wD : wP.heap.size < wD.heap.size := (by omega))); (try (have zp10wD : wP.heap.size + 1 < wD.heap.size := (by omega))); have o0 := (hbD.cell (p := ⟨bp, 0, none⟩) (by first | omega | (simp; done) | (simp; omega))).trans (by first | with_reducible assumption | (go_simp; done)); have o1 := (hbD.cell (p := ⟨bp, 1, none⟩) (by first | omega | (simp; done) | (simp; omega))).trans (by first | with_reducible assumption | (go_simp; done)); have o2 := (hbD.cell (p := ⟨bp, 2, none⟩) (by first | omega | (simp; done) | (simp; omega))).trans (by first | with_reducible assumption | (go_simp; done)); have o3 := (hbD.cell (p := ⟨bp, 3, none⟩) (by first | omega | (simp; done) | (simp; omega))).trans (by first | with_reducible assumption | (go_simp; done)); have o4 := (hbD.cell (p := ⟨bp, 4, none⟩) (by first | omega | (simp; done) | (simp; omega))).trans (by first | with_reducible assumption | (go_simp; done)); have o5 := (hbD.cell (p := ⟨bp, 5, none⟩) (by first | omega | (simp; done) | (simp; omega))).trans (by first | with_reducible assumption | (go_simp; done)); have o6 := (hbD.cell (p := ⟨bp, 6, none⟩) (by first | omega | (simp; done) | (simp; omega))).trans (by first | with_reducible assumption | (go_simp; done)); have o7 := (hbD.cell (p := ⟨bp, 7, none⟩) (by first | omega | (simp; done) | (simp; omega))).trans (by first | with_reducible assumption | (go_simp; done)); have o8 := (hbD.cell (p := ⟨bp, 8, none⟩) (by first | omega | (simp; done) | (simp; omega))).trans (by first | with_reducible assumption | (go_simp; done))))))
          all_goals
            rename_i hhq
            clear hhq
            clear o0 o1 o2 o3 o4 o5 o6 o7 o8 y0 y1 y2 y3 y4 y5 y6 y7 y8
            have qq' := qq.out
            have bb' := bb.out
            go_wp2_with fail
            go_meet
            case rel =>
              refine ⟨_, _, rfl, rfl, ?_, ?_, ?_, ?_, ?_, ?_, ?_⟩
              · refine row_of (c := #[.bool s4, .int .u64 (dgI v4 0), .int .u64 (dgI v4 1), .int .u64 (dgI v4 2), .int .u64 (dgI v4 3), .int .u64 (dgI v4 4), .int .u64 (dgI v4 5), .int .u64 (dgI v4 6), .int .u64 (dgI v4 7)]) ?_ _ rfl
                (repeat (first | with_reducible assumption | (with_reducible refine row_new ?_; focus (first | rfl | (simp; done))) | (with_reducible apply row_past) | (with_reducible apply row_drew) | (with_reducible apply row_set9) | (with_reducible apply row_set2) | (with_reducible refine row_other9 ?_ (by first | omega | (simp; done) | (simp; omega))) | (with_reducible refine row_other2 ?_ (by first | omega | (simp; done) | (simp; omega))) | (with_reducible refine blk hbD ?_ (by first | omega | (simp; done) | (simp; omega))) | (with_reducible refine blk hbP ?_ (by first | omega | (simp; done) | (simp; omega))) | (show Array.size _ = 9; rfl)))
              · refine row_of (c := #[.bool s5, .int .u64 (dgI v5 0), .int .u64 (dgI v5 1), .int .u64 (dgI v5 2), .int .u64 (dgI v5 3), .int .u64 (dgI v5 4), .int .u64 (dgI v5 5), .int .u64 (dgI v5 6), .int .u64 (dgI v5 7)]) ?_ _ rfl
                (repeat (first | with_reducible assumption | (with_reducible refine row_new ?_; focus (first | rfl | (simp; done))) | (with_reducible apply row_past) | (with_reducible apply row_drew) | (with_reducible apply row_set9) | (with_reducible apply row_set2) | (with_reducible refine row_other9 ?_ (by first | omega | (simp; done) | (simp; omega))) | (with_reducible refine row_other2 ?_ (by first | omega | (simp; done) | (simp; omega))) | (with_reducible refine blk hbD ?_ (by first | omega | (simp; done) | (simp; omega))) | (with_reducible refine blk hbP ?_ (by first | omega | (simp; done) | (simp; omega))) | (show Array.size _ = 9; rfl)))
              · (repeat (first | with_reducible assumption | (with_reducible refine row_new ?_; focus (first | rfl | (simp; done))) | (with_reducible apply row_past) | (with_reducible apply row_drew) | (with_reducible apply row_set9) | (with_reducible apply row_set2) | (with_reducible refine row_other9 ?_ (by first | omega | (simp; done) | (simp; omega))) | (with_reducible refine row_other2 ?_ (by first | omega | (simp; done) | (simp; omega))) | (with_reducible refine blk hbD ?_ (by first | omega | (simp; done) | (simp; omega))) | (with_reducible refine blk hbP ?_ (by first | omega | (simp; done) | (simp; omega))) | (show Array.size _ = 9; rfl)))
              · first | omega | (simp; done) | (simp; omega)
              · first | omega | (simp; done) | (simp; omega)
              · first | omega | (simp; done) | (simp; omega)
              · (repeat (first | with_reducible assumption | (with_reducible refine below_set9 ?_ (by first | omega | (simp; done) | (simp; omega))) | (with_reducible refine Below.setCell ?_ (by first | omega | (simp; done) | (simp; omega)) _) | (with_reducible refine Below.alloc ?_ (by first | omega | (simp; done) | (simp; omega)) _) | (with_reducible refine Below.trans ?_ (hbD.mono (by first | omega | (simp; done) | (simp; omega)))) | (with_reducible refine Below.trans ?_ (hbP.mono (by first | omega | (simp; done) | (simp; omega)))) | (with_reducible refine Below.drew ?_)))
        case rest =>
          obtain ⟨bw, br, rfl, rfl, g1, g2, g5, q1, q2, q3, hb⟩ := hcut
          obtain ⟨y0, y1, y2, y3, y4, y5, y6, y7, y8⟩ := big_cells g2
          have gz : w3.heap.size < wc.heap.size := (Array.getElem?_eq_some_iff.1 g5).1
          have g1H := Lib.hid g1
          have g5H := Lib.hid g5
          have hbH5 := Lib.hid hb
          clear g1 g2 g5 hb
          go_wp2_with fail
          refine (k7.out _).mono ?_
          rintro e7 w7 ⟨rfl, hb7⟩
          clear y0 y1 y2 y3 y4 y5 y6 y7 y8
          have hzz : w.heap.size ≤ wc.heap.size := hbH5.out.size
          obtain ⟨y0, y1, y2, y3, y4, y5, y6, y7, y8⟩ := big_cells (blk hb7 g1H.out q1)
          obtain ⟨u4, u5⟩ := cells2 (blk hb7 g5H.out gz)
          have bb7 := Lib.hid (hbH5.out.trans (hb7.mono hzz))
          clear hb7
          skip
          go_wp2_with fail
          refine (k6.out _).mono ?_
          rintro e8 w8 ⟨rfl, hb8⟩
          have hz7 : w.heap.size ≤ w7.heap.size := bb7.out.size
          have bb8 := Lib.hid (bb7.out.trans (hb8.mono hz7))
          clear y0 y1 y2 y3 y4 y5 y6 y7 y8 u4 u5 hb8
          go_wp2_with fail
          refine (s7.out _ (LaidW.below hLH.out bb8.out)).mono ?_
          rintro e9 w9 ⟨rfl, hb9⟩
          have hz8 : w.heap.size ≤ w8.heap.size := bb8.out.size
          have bb9 := bb8.out.trans (hb9.mono hz8)
          clear hb9
          go_wp2_with fail
          refine bp_ret ?_ rfl
          refine ⟨.bool true, ?_, rfl, bb9⟩
          simp [results, Tryd.results5, go_sem]
end Go.Proofs.YtkdjfakjnkemiaaDoor
