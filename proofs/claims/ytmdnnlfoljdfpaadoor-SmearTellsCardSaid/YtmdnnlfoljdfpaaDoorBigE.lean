/- Package fuseeref02's To, Number. -/
import Derived.Test.YtmdnnlfoljdfpaaDoorBigD
import Derived.Test.YtmdnnlfoljdfpaaDoorWide3
namespace Go.Proofs.YtmdnnlfoljdfpaaDoor
open Go.RowKit

theorem to_small (N : Int) (n0 : 0 ≤ N) (h : N < 170141183460469231731687303715884105728) : dgI N 3 < 2147483648 ∧ ∀ k, 4 ≤ k → dgI N k = 0 := by
  refine ⟨?_, fun k hk => dgI_top N n0 4 k (by omega) hk⟩
  unfold dgI
  simp only [Int.reducePow]
  omega
theorem to_big (N : Int) (n0 : 0 ≤ N) (n1 : N < 4294967296 ^ 8) (h3 : dgI N 3 < 2147483648) (hk : ∀ k, 4 ≤ k → k < 8 → dgI N k = 0) : N < 170141183460469231731687303715884105728 ∧ dgI N 3 * 4294967296 + dgI N 2 = N / 18446744073709551616 ∧ dgI N 1 * 4294967296 + dgI N 0 = N % 18446744073709551616 := by
  have k4 := hk 4 (by omega) (by omega)
  have k5 := hk 5 (by omega) (by omega)
  have k6 := hk 6 (by omega) (by omega)
  have k7 := hk 7 (by omega) (by omega)
  unfold dgI at *
  simp only [Int.reducePow] at *
  omega
/-- A whole number as a wide one, if it is one. -/
def toV (s : Bool) (N : Int) : Value := if N < 170141183460469231731687303715884105728 then .tuple #[wv (if s then -1 - N else N), .bool true] else .tuple #[.agg #[.int .i64 0, .int .u64 0], .bool false]
theorem toV_no {s : Bool} {N : Int} (h : ¬ N < 170141183460469231731687303715884105728) : toV s N = .tuple #[.agg #[.int .i64 0, .int .u64 0], .bool false] := by unfold toV; rw [if_neg h]
theorem toV_yes {s : Bool} {N : Int} (h : N < 170141183460469231731687303715884105728) : toV s N = .tuple #[wv (if s then -1 - N else N), .bool true] := by unfold toV; rw [if_pos h]
theorem cells2 {w : World} {b : Nat} {x y : Value} {t : TypeId} (h : w.heap[b]? = some (.cells #[x, y] t)) : w.cell? ⟨b, 0, none⟩ = some x ∧ w.cell? ⟨b, 1, none⟩ = some y :=
  ⟨by rw [cell_of_row _ _ 0 _ t (0, 0) h]; rfl, by rw [cell_of_row _ _ 1 _ t (0, 0) h]; rfl⟩
theorem ret_cell_tmp {P : Program} {fn : Func} {s u : Nat} {ty : TypeId} {a : Addr} {tmps : Array Value} {w : World} {v x : Value} (hr : fn.results = #[.cell s ty, .tmp u])
    (hs : tmps.getD s undef = .pointer (some a)) (hx : tmps.getD u undef = x) (hl : (loadVar ty a).run P w = .ok v w) : (results fn tmps).run P w = .ok (.tuple #[v, x]) w := by
  have hs' : tmps[s]?.getD undef = .pointer (some a) := by simpa using hs
  have hx' : tmps[u]?.getD undef = x := by simpa using hx
  simp only [results, hr]
  simp [hs', hx', asAddr, hl, Result.andThen]
theorem load63 {w : World} {b : Nat} {c : Array Value} {t : TypeId} (h : w.heap[b]? = some (.cells c t)) (hc : c.size = 2) :
    (loadVar 209 ⟨b, 0, none⟩).run Tryd.prog w = .ok (.agg c) w :=
  run_loadVar_row w b t _ c (0, 0) _ h Tryd.underlying209 rfl (by rw [hc]; kernel_rfl)
theorem row_set2 {w : World} {b : Nat} {x y x' y' : Value} {t : TypeId} (h : w.heap[b]? = some (.cells #[x, y] t)) : ((w.setCell ⟨b, 0, none⟩ x').setCell ⟨b, 1, none⟩ y').heap[b]? = some (.cells #[x', y'] t) :=
  row_of (row_set (row_set h)) _ rfl
theorem row_dgs8 {w : World} {b : Nat} {f : Nat → Int} {t : TypeId} (g : Nat → Int) (h : w.heap[b]? = some (.cells (rowF f) t)) : ((((((((w.setCell ⟨b, 0, none⟩ (.int .u64 (g 0))).setCell ⟨b, 1, none⟩ (.int .u64 (g 1))).setCell ⟨b, 2, none⟩ (.int .u64 (g 2))).setCell ⟨b, 3, none⟩ (.int .u64 (g 3))).setCell ⟨b, 4, none⟩ (.int .u64 (g 4))).setCell ⟨b, 5, none⟩ (.int .u64 (g 5))).setCell ⟨b, 6, none⟩ (.int .u64 (g 6))).setCell ⟨b, 7, none⟩ (.int .u64 (g 7))).heap[b]? = some (.cells (rowF g) t) :=
  row_of (row_set (k := 7) (v := .int .u64 (g 7)) (row_set (k := 6) (v := .int .u64 (g 6)) (row_set (k := 5) (v := .int .u64 (g 5)) (row_set (k := 4) (v := .int .u64 (g 4)) (row_set (k := 3) (v := .int .u64 (g 3)) (row_set (k := 2) (v := .int .u64 (g 2)) (row_set (k := 1) (v := .int .u64 (g 1)) (row_set (k := 0) (v := .int .u64 (g 0)) h)))))))) _ (by simp [rowF])
set_option maxHeartbeats 2000000 in
set_option maxRecDepth 100000 in
theorem ref_To_pos (N : Int) (n0 : 0 ≤ N) (n1 : N < 4294967296 ^ 8) (w : World) :
    Calls Tryd.prog 125 #[.agg (bigA false (dgI N))] w fun e w' => e = .returned (toV false N) ∧ Below w.heap.size w w' := by
  have hnH := Lib.hid (And.intro n0 n1)
  clear n1
  unfold bigA
  go_enter Tryd.func125, Tryd.ntmps125
  go_upto_region 4 with (fail)
  refine wp_gen (fun wd => wd.heap[w.heap.size]? = some (.cells (bigA false (dgI N)) 159) ∧ wd.heap[w.heap.size + 1]? = some (.cells #[.int .i64 0, .int .u64 0] 209) ∧ wd.heap[w.heap.size + 1 + 1]? = some (.cells (rowF (dgI N)) 157) ∧ w.heap.size + 3 ≤ wd.heap.size ∧ Below w.heap.size w wd) ⟨row_past (row_past (row_new rfl)), row_past (row_new (by simp)), row_new (by simp), by simp, by repeat (first | exact Below.refl _ _ | assumption | (refine Below.alloc ?_ (by first | omega | (simp; done) | (simp; omega) | (simp at *; omega)) _) | (refine Below.setCell ?_ (by first | omega | (simp; done) | (simp; omega) | (simp at *; omega)) _) | (refine Below.trans ?_ (below_drewN _ _ _)) | (refine Below.drew ?_) | (refine Below.trans ?_ (Below.mono (by assumption) (by first | omega | (simp; done) | (simp; omega) | (simp at *; omega)))))⟩ ?_
  rintro wd ⟨g0, g1, g2, hz, hb⟩
  obtain ⟨c0, c1, c2, c3, c4, c5, c6, c7⟩ := row_cells g2
  obtain ⟨v0, v1⟩ := cells2 g1
  have vf := row_frozen g1
  have x0 := big_neg g0
  have g1H := Lib.hid g1
  have g2H := Lib.hid g2
  have hbH := Lib.hid hb
  clear g0 g1 g2 hb
  by_cases h3 : dgI N 3 < 2147483648
  case neg =>
    have hnoH := Lib.hid (toV_no (s := false) (show ¬ N < 170141183460469231731687303715884105728 from fun h => h3 (to_small N n0 h).1))
    have h3' : 2147483648 ≤ dgI N 3 := by omega
    clear h3
    go_wp2_with fail
    refine bp_ret ?_ rfl
    refine ⟨.tuple #[.agg #[.int .i64 0, .int .u64 0], .bool false], ret_cell_tmp (a := ⟨w.heap.size + 1, 0, none⟩) Tryd.results125 ?_ ?_ (load63 (row_set2 g1H.out) rfl), by rw [hnoH.out], Below.setCell (Below.setCell hbH.out (by simp) _) (by simp) _⟩
    · simp
    · simp
  go_upto_block 0 with (fail)
  go_wp2_with fail
  go_loop [5] (fun u => ∃ k : Nat, 4 ≤ k ∧ k ≤ 8 ∧ u = .int .i64 k ∧ Hid (∀ j, 4 ≤ j → j < k → dgI N j = 0)) (fun u => 8 - (intOf u).toNat)
  case atStart => exact ⟨4, by omega, by omega, rfl, Lib.hid (fun j h h' => by omega)⟩
  case round =>
    obtain ⟨k, k4, k8, rfl, hkH⟩ := hrel
    by_cases hk : k < 8
    · have ck := row_cell g2H.out k hk
      by_cases hd : dgI N k = 0
      · rw [hd] at ck
        go_wp2_with fail
        refine ⟨⟨k + 1, by omega, by omega, by go_num, Lib.hid (fun j h h' => ?_)⟩, by simp [intOf]; omega⟩
        by_cases hj : j = k
        · subst hj; exact hd
        · exact hkH.out j h (by omega)
      · have hnoH := Lib.hid (toV_no (s := false) (show ¬ N < 170141183460469231731687303715884105728 from fun h => hd ((to_small N n0 h).2 k k4)))
        have hpos : 0 < dgI N k := by have := dgI_nn N k; omega
        clear hd
        go_wp2_with fail
        refine bp_ret ?_ rfl
        refine ⟨.tuple #[.agg #[.int .i64 0, .int .u64 0], .bool false], ret_cell_tmp (a := ⟨w.heap.size + 1, 0, none⟩) Tryd.results125 ?_ ?_ (load63 (row_set2 g1H.out) rfl), by rw [hnoH.out], Below.setCell (Below.setCell hbH.out (by simp) _) (by simp) _⟩
        · simp
        · simp
    · have hk8 : k = 8 := by omega
      subst hk8
      obtain ⟨y0, y1, y2⟩ := to_big N n0 hnH.out.2 h3 hkH.out
      have hyH := Lib.hid (toV_yes (s := false) y0)
      have b0 := dgI_nn N 0; have b1 := dgI_nn N 1; have b2 := dgI_nn N 2; have b3 := dgI_nn N 3
      have a0 := dgI_lt N 0; have a1 := dgI_lt N 1; have a2 := dgI_lt N 2
      have yH := Lib.hid (And.intro y0 (And.intro y1 y2))
      clear y0 y1 y2 c4 c5 c6 c7
      have l0 : w.heap.size < wd.heap.size := by omega
      have l1 : w.heap.size + 1 < wd.heap.size := by omega
      go_wp2_with fail
      refine bp_ret ?_ rfl
      refine ⟨.tuple #[.agg #[.int .i64 (dgI N 3 * 4294967296 + dgI N 2), .int .u64 (dgI N 1 * 4294967296 + dgI N 0)], .bool true], ret_cell_tmp (a := ⟨w.heap.size + 1, 0, none⟩) Tryd.results125 ?_ ?_ (load63 (row_past (row_set2 g1H.out)) rfl), ?_, Below.alloc (Below.setCell (Below.setCell hbH.out (by simp) _) (by simp) _) (by simp; omega) _⟩
      · simp
      · simp
      · obtain ⟨y0, y1, y2⟩ := yH.out
        rw [hyH.out]
        exact ret_eq (congrArg (fun v => Value.tuple #[v, .bool true]) (wv_of (by simp only [Bool.false_eq_true, if_false]; omega) (by simp only [Bool.false_eq_true, if_false]; omega)))
set_option maxHeartbeats 2000000 in
set_option maxRecDepth 100000 in
theorem ref_To_neg (N : Int) (n0 : 0 ≤ N) (n1 : N < 4294967296 ^ 8) (w : World) :
    Calls Tryd.prog 125 #[.agg (bigA true (dgI (N + 1)))] w fun e w' => e = .returned (toV true N) ∧ Below w.heap.size w w' := by
  have hL := fun w => ref_less (N + 1) 1 w
  rw [Int.add_sub_cancel] at hL
  have hO := fun w => ref_one w
  unfold dgs rowF at hL hO
  have hLH := Lib.hid hL
  have hOH := Lib.hid hO
  clear hL hO
  have hnH := Lib.hid (And.intro n0 n1)
  clear n1
  unfold bigA
  go_enter Tryd.func125, Tryd.ntmps125
  go_upto_region 3 with (fail)
  refine wp_gen (fun wd => wd.heap[w.heap.size]? = some (.cells (bigA true (dgI (N + 1))) 159) ∧ wd.heap[w.heap.size + 1]? = some (.cells #[.int .i64 0, .int .u64 0] 209) ∧ wd.heap[w.heap.size + 1 + 1]? = some (.cells (rowF (dgI (N + 1))) 157) ∧ w.heap.size + 3 ≤ wd.heap.size ∧ Below w.heap.size w wd) ⟨row_past (row_past (row_new rfl)), row_past (row_new (by simp)), row_new (by simp), by simp, by repeat (first | exact Below.refl _ _ | assumption | (refine Below.alloc ?_ (by first | omega | (simp; done) | (simp; omega) | (simp at *; omega)) _) | (refine Below.setCell ?_ (by first | omega | (simp; done) | (simp; omega) | (simp at *; omega)) _) | (refine Below.trans ?_ (below_drewN _ _ _)) | (refine Below.drew ?_) | (refine Below.trans ?_ (Below.mono (by assumption) (by first | omega | (simp; done) | (simp; omega) | (simp at *; omega)))))⟩ ?_
  rintro wc ⟨g0, g1, g2, hz, hb⟩
  obtain ⟨c20, c21, c22, c23, c24, c25, c26, c27⟩ := row_cells g2
  have g0H := Lib.hid g0
  have g1H := Lib.hid g1
  have g2H := Lib.hid g2
  have hbH := Lib.hid hb
  clear g0 g1 g2 hb
  go_region_with (first | (go_at_call 138; refine (hOH.out _).mono ?_; rintro e w5 ⟨rfl, hb5⟩; have k2 := blk hb5 (row_drew g2H.out) (by simp; omega); obtain ⟨f20, f21, f22, f23, f24, f25, f26, f27⟩ := row_cells k2) | (go_at_call 121; refine (hLH.out _).mono ?_; rintro e w6 ⟨rfl, hb6⟩; have j2 := blk hb6 k2 (by have := hb5.size; simp at this; omega); obtain ⟨d20, d21, d22, d23, d24, d25, d26, d27⟩ := row_cells j2; have fz2 := row_frozen j2))
  all_goals
  have hs5 := hb5.size
  simp at hs5
  have hs6 := hb6.size
  go_upto_region 4 with (fail)
  refine wp_gen (fun wd => wd.heap[w.heap.size]? = some (.cells (bigA true (dgI (N + 1))) 159) ∧ wd.heap[w.heap.size + 1]? = some (.cells #[.int .i64 0, .int .u64 0] 209) ∧ wd.heap[w.heap.size + 1 + 1]? = some (.cells (rowF (dgI N)) 157) ∧ w.heap.size + 3 ≤ wd.heap.size ∧ Below w.heap.size w wd) ⟨row_other8 (blk hb6 (blk hb5 (row_drew g0H.out) (by simp; omega)) (by omega)) (by omega), row_other8 (blk hb6 (blk hb5 (row_drew g1H.out) (by simp; omega)) (by omega)) (by omega), row_dgs8 (dgI N) j2, by simp; omega, below_set8 ((hbH.out.drew.trans (hb5.mono (by simp; omega))).trans (hb6.mono (by omega))) (by omega)⟩ ?_
  clear c20 c21 c22 c23 c24 c25 c26 c27 f20 f21 f22 f23 f24 f25 f26 f27 d20 d21 d22 d23 d24 d25 d26 d27 fz2 k2 j2 hb5 hb6 hs5 hs6 hbH g0H g1H g2H hz
  rintro wd ⟨g0, g1, g2, hz, hb⟩
  obtain ⟨c0, c1, c2, c3, c4, c5, c6, c7⟩ := row_cells g2
  obtain ⟨v0, v1⟩ := cells2 g1
  have vf := row_frozen g1
  have x0 := big_neg g0
  have g1H := Lib.hid g1
  have g2H := Lib.hid g2
  have hbH := Lib.hid hb
  clear g0 g1 g2 hb
  by_cases h3 : dgI N 3 < 2147483648
  case neg =>
    have hnoH := Lib.hid (toV_no (s := true) (show ¬ N < 170141183460469231731687303715884105728 from fun h => h3 (to_small N n0 h).1))
    have h3' : 2147483648 ≤ dgI N 3 := by omega
    clear h3
    go_wp2_with fail
    refine bp_ret ?_ rfl
    refine ⟨.tuple #[.agg #[.int .i64 0, .int .u64 0], .bool false], ret_cell_tmp (a := ⟨w.heap.size + 1, 0, none⟩) Tryd.results125 ?_ ?_ (load63 (row_set2 g1H.out) rfl), by rw [hnoH.out], Below.setCell (Below.setCell hbH.out (by simp) _) (by simp) _⟩
    · simp
    · simp
  go_upto_block 0 with (fail)
  go_wp2_with fail
  go_loop [5] (fun u => ∃ k : Nat, 4 ≤ k ∧ k ≤ 8 ∧ u = .int .i64 k ∧ Hid (∀ j, 4 ≤ j → j < k → dgI N j = 0)) (fun u => 8 - (intOf u).toNat)
  case atStart => exact ⟨4, by omega, by omega, rfl, Lib.hid (fun j h h' => by omega)⟩
  case round =>
    obtain ⟨k, k4, k8, rfl, hkH⟩ := hrel
    by_cases hk : k < 8
    · have ck := row_cell g2H.out k hk
      by_cases hd : dgI N k = 0
      · rw [hd] at ck
        go_wp2_with fail
        refine ⟨⟨k + 1, by omega, by omega, by go_num, Lib.hid (fun j h h' => ?_)⟩, by simp [intOf]; omega⟩
        by_cases hj : j = k
        · subst hj; exact hd
        · exact hkH.out j h (by omega)
      · have hnoH := Lib.hid (toV_no (s := true) (show ¬ N < 170141183460469231731687303715884105728 from fun h => hd ((to_small N n0 h).2 k k4)))
        have hpos : 0 < dgI N k := by have := dgI_nn N k; omega
        clear hd
        go_wp2_with fail
        refine bp_ret ?_ rfl
        refine ⟨.tuple #[.agg #[.int .i64 0, .int .u64 0], .bool false], ret_cell_tmp (a := ⟨w.heap.size + 1, 0, none⟩) Tryd.results125 ?_ ?_ (load63 (row_set2 g1H.out) rfl), by rw [hnoH.out], Below.setCell (Below.setCell hbH.out (by simp) _) (by simp) _⟩
        · simp
        · simp
    · have hk8 : k = 8 := by omega
      subst hk8
      obtain ⟨y0, y1, y2⟩ := to_big N n0 hnH.out.2 h3 hkH.out
      have hyH := Lib.hid (toV_yes (s := true) y0)
      have b0 := dgI_nn N 0; have b1 := dgI_nn N 1; have b2 := dgI_nn N 2; have b3 := dgI_nn N 3
      have a0 := dgI_lt N 0; have a1 := dgI_lt N 1; have a2 := dgI_lt N 2
      have yH := Lib.hid (And.intro y0 (And.intro y1 y2))
      clear y0 y1 y2 c4 c5 c6 c7
      have l0 : w.heap.size < wd.heap.size := by omega
      have l1 : w.heap.size + 1 < wd.heap.size := by omega
      go_wp2_with fail
      refine bp_ret ?_ rfl
      refine ⟨.tuple #[.agg #[.int .i64 (-1 - (dgI N 3 * 4294967296 + dgI N 2)), .int .u64 (18446744073709551615 - (dgI N 1 * 4294967296 + dgI N 0))], .bool true], ret_cell_tmp (a := ⟨w.heap.size + 1, 0, none⟩) Tryd.results125 ?_ ?_ (load63 (row_past (row_set2 g1H.out)) rfl), ?_, Below.alloc (Below.setCell (Below.setCell hbH.out (by simp) _) (by simp) _) (by simp; omega) _⟩
      · simp
      · simp
      · obtain ⟨y0, y1, y2⟩ := yH.out
        rw [hyH.out]
        exact ret_eq (congrArg (fun v => Value.tuple #[v, .bool true]) (wv_of (by simp only [if_true]; omega) (by simp only [if_true]; omega)))
/-- A whole number as a wide one; as a number. -/
def toR (v : Int) : Value := if in128 v then .tuple #[wv v, .bool true] else .tuple #[.agg #[.int .i64 0, .int .u64 0], .bool false]
theorem ref_To (v : Int) (v0 : -(4294967296 ^ 8) < v) (v1 : v < 4294967296 ^ 8) (w : World) :
    Calls Tryd.prog 125 #[.agg (bigV v)] w fun e w' => e = .returned (toR v) ∧ Below w.heap.size w w' := by
  unfold toR
  by_cases h : v < 0
  · have c := ref_To_neg (-v - 1) (by omega) (by omega) w
    rw [bigV_neg h]
    rw [show -v - 1 + 1 = -v by omega] at c
    unfold toV at c
    by_cases k : in128 v
    · rw [if_pos k]
      rw [if_pos (by unfold in128 at k; omega), if_pos rfl, show -1 - (-v - 1) = v by omega] at c
      exact c
    · rw [if_neg k]
      rw [if_neg (by unfold in128 at k; omega)] at c
      exact c
  · have c := ref_To_pos v (by omega) v1 w
    rw [bigV_nn (by omega)]
    unfold toV at c
    by_cases k : in128 v
    · rw [if_pos k]
      rw [if_pos (by unfold in128 at k; omega), if_neg (by decide)] at c
      exact c
    · rw [if_neg k]
      rw [if_neg (by unfold in128 at k; omega)] at c
      exact c
def numR (v : Int) : Value := if in64 v then .tuple #[.int .i64 v, .bool true] else .tuple #[.int .i64 0, .bool false]
theorem numR_yes {v : Int} (h : in64 v) : numR v = .tuple #[.int .i64 v, .bool true] := by unfold numR; rw [if_pos h]
theorem numR_no {v : Int} (h : ¬ in64 v) : numR v = .tuple #[.int .i64 0, .bool false] := by unfold numR; rw [if_neg h]
set_option maxHeartbeats 1000000 in
set_option maxRecDepth 100000 in
theorem num_out (v : Int) (hv : ¬ in128 v) (v0 : -(4294967296 ^ 8) < v) (v1 : v < 4294967296 ^ 8) (w : World) :
    Calls Tryd.prog 95 #[.agg (bigV v)] w fun e w' => e = .returned (.tuple #[.int .i64 0, .bool false]) ∧ Below w.heap.size w w' := by
  have c := fun w => ref_To v v0 v1 w
  unfold toR at c
  rw [if_neg hv] at c
  have cH := Lib.hid c
  clear c v0 v1
  unfold bigV bigA
  go_enter Tryd.func95, Tryd.ntmps95
  go_wp2_with fail
  refine (cH.out _).mono ?_
  rintro e1 w1 ⟨rfl, hb1⟩
  obtain ⟨hc1, hf1⟩ := bcell hb1
  have hz1 := hb1.size
  try simp at hz1
  have hz1_0 : w.heap.size < w1.heap.size := by omega
  go_wp2_with fail
  refine bp_ret ⟨?_, ?_, ?_, ?_⟩ rfl; rotate_left
  · (simp [results, Tryd.results95, go_sem, *]; rfl)
  rotate_left
  · repeat (first | exact Below.refl _ _ | assumption | (refine Below.alloc ?_ (by first | omega | (simp; done) | (simp; omega) | (simp at *; omega)) _) | (refine Below.setCell ?_ (by first | omega | (simp; done) | (simp; omega) | (simp at *; omega)) _) | (refine Below.trans ?_ (below_drewN _ _ _)) | (refine Below.drew ?_) | (refine Below.trans ?_ (Below.mono (by assumption) (by first | omega | (simp; done) | (simp; omega) | (simp at *; omega)))))
  · rfl
set_option maxHeartbeats 1000000 in
set_option maxRecDepth 100000 in
theorem num_far (v h l : Int) (hv : in128 v) (hw : wv v = .agg #[.int .i64 h, .int .u64 l]) (k1 : ¬ h = 0) (k2 : ¬ h = -1) (v0 : -(4294967296 ^ 8) < v) (v1 : v < 4294967296 ^ 8) (w : World) :
    Calls Tryd.prog 95 #[.agg (bigV v)] w fun e w' => e = .returned (.tuple #[.int .i64 0, .bool false]) ∧ Below w.heap.size w w' := by
  have c := fun w => ref_To v v0 v1 w
  unfold toR at c
  rw [if_pos hv, hw] at c
  have cH := Lib.hid c
  clear c v0 v1
  unfold bigV bigA
  go_enter Tryd.func95, Tryd.ntmps95
  go_wp2_with fail
  refine (cH.out _).mono ?_
  rintro e1 w1 ⟨rfl, hb1⟩
  obtain ⟨hc1, hf1⟩ := bcell hb1
  have hz1 := hb1.size
  try simp at hz1
  have hz1_0 : w.heap.size < w1.heap.size := by omega
  go_wp2_with fail
  refine bp_ret ⟨?_, ?_, ?_, ?_⟩ rfl; rotate_left
  · (simp [results, Tryd.results95, go_sem, *]; rfl)
  rotate_left
  · repeat (first | exact Below.refl _ _ | assumption | (refine Below.alloc ?_ (by first | omega | (simp; done) | (simp; omega) | (simp at *; omega)) _) | (refine Below.setCell ?_ (by first | omega | (simp; done) | (simp; omega) | (simp at *; omega)) _) | (refine Below.trans ?_ (below_drewN _ _ _)) | (refine Below.drew ?_) | (refine Below.trans ?_ (Below.mono (by assumption) (by first | omega | (simp; done) | (simp; omega) | (simp at *; omega)))))
  · rfl
set_option maxHeartbeats 1000000 in
set_option maxRecDepth 100000 in
theorem num_pos (v l : Int) (hv : in128 v) (hw : wv v = .agg #[.int .i64 0, .int .u64 l]) (k1 : l < 9223372036854775808) (k2 : wrap64 l = v) (v0 : -(4294967296 ^ 8) < v) (v1 : v < 4294967296 ^ 8) (w : World) :
    Calls Tryd.prog 95 #[.agg (bigV v)] w fun e w' => e = .returned (.tuple #[.int .i64 v, .bool true]) ∧ Below w.heap.size w w' := by
  have c := fun w => ref_To v v0 v1 w
  unfold toR at c
  rw [if_pos hv, hw] at c
  have cH := Lib.hid c
  clear c v0 v1
  unfold bigV bigA
  go_enter Tryd.func95, Tryd.ntmps95
  go_wp2_with fail
  refine (cH.out _).mono ?_
  rintro e1 w1 ⟨rfl, hb1⟩
  obtain ⟨hc1, hf1⟩ := bcell hb1
  have hz1 := hb1.size
  try simp at hz1
  have hz1_0 : w.heap.size < w1.heap.size := by omega
  go_wp2_with fail
  refine bp_ret ?_ rfl
  refine ⟨.tuple #[.int .i64 (wrap64 l), .bool true], ?_, by rw [k2], ?_⟩
  · simp [results, Tryd.results95, go_sem]
  · repeat (first | exact Below.refl _ _ | assumption | (refine Below.alloc ?_ (by first | omega | (simp; done) | (simp; omega) | (simp at *; omega)) _) | (refine Below.setCell ?_ (by first | omega | (simp; done) | (simp; omega) | (simp at *; omega)) _) | (refine Below.trans ?_ (below_drewN _ _ _)) | (refine Below.drew ?_) | (refine Below.trans ?_ (Below.mono (by assumption) (by first | omega | (simp; done) | (simp; omega) | (simp at *; omega)))))
set_option maxHeartbeats 1000000 in
set_option maxRecDepth 100000 in
theorem num_posover (v l : Int) (hv : in128 v) (hw : wv v = .agg #[.int .i64 0, .int .u64 l]) (k1 : 9223372036854775808 ≤ l) (v0 : -(4294967296 ^ 8) < v) (v1 : v < 4294967296 ^ 8) (w : World) :
    Calls Tryd.prog 95 #[.agg (bigV v)] w fun e w' => e = .returned (.tuple #[.int .i64 0, .bool false]) ∧ Below w.heap.size w w' := by
  have c := fun w => ref_To v v0 v1 w
  unfold toR at c
  rw [if_pos hv, hw] at c
  have cH := Lib.hid c
  clear c v0 v1
  unfold bigV bigA
  go_enter Tryd.func95, Tryd.ntmps95
  go_wp2_with fail
  refine (cH.out _).mono ?_
  rintro e1 w1 ⟨rfl, hb1⟩
  obtain ⟨hc1, hf1⟩ := bcell hb1
  have hz1 := hb1.size
  try simp at hz1
  have hz1_0 : w.heap.size < w1.heap.size := by omega
  go_wp2_with fail
  refine bp_ret ⟨?_, ?_, ?_, ?_⟩ rfl; rotate_left
  · (simp [results, Tryd.results95, go_sem, *]; rfl)
  rotate_left
  · repeat (first | exact Below.refl _ _ | assumption | (refine Below.alloc ?_ (by first | omega | (simp; done) | (simp; omega) | (simp at *; omega)) _) | (refine Below.setCell ?_ (by first | omega | (simp; done) | (simp; omega) | (simp at *; omega)) _) | (refine Below.trans ?_ (below_drewN _ _ _)) | (refine Below.drew ?_) | (refine Below.trans ?_ (Below.mono (by assumption) (by first | omega | (simp; done) | (simp; omega) | (simp at *; omega)))))
  · rfl
set_option maxHeartbeats 1000000 in
set_option maxRecDepth 100000 in
theorem num_neg (v l : Int) (hv : in128 v) (hw : wv v = .agg #[.int .i64 (-1), .int .u64 l]) (k1 : 9223372036854775808 ≤ l) (k2 : wrap64 l = v) (v0 : -(4294967296 ^ 8) < v) (v1 : v < 4294967296 ^ 8) (w : World) :
    Calls Tryd.prog 95 #[.agg (bigV v)] w fun e w' => e = .returned (.tuple #[.int .i64 v, .bool true]) ∧ Below w.heap.size w w' := by
  have c := fun w => ref_To v v0 v1 w
  unfold toR at c
  rw [if_pos hv, hw] at c
  have cH := Lib.hid c
  clear c v0 v1
  unfold bigV bigA
  go_enter Tryd.func95, Tryd.ntmps95
  go_wp2_with fail
  refine (cH.out _).mono ?_
  rintro e1 w1 ⟨rfl, hb1⟩
  obtain ⟨hc1, hf1⟩ := bcell hb1
  have hz1 := hb1.size
  try simp at hz1
  have hz1_0 : w.heap.size < w1.heap.size := by omega
  go_wp2_with fail
  refine bp_ret ?_ rfl
  refine ⟨.tuple #[.int .i64 (wrap64 l), .bool true], ?_, by rw [k2], ?_⟩
  · simp [results, Tryd.results95, go_sem]
  · repeat (first | exact Below.refl _ _ | assumption | (refine Below.alloc ?_ (by first | omega | (simp; done) | (simp; omega) | (simp at *; omega)) _) | (refine Below.setCell ?_ (by first | omega | (simp; done) | (simp; omega) | (simp at *; omega)) _) | (refine Below.trans ?_ (below_drewN _ _ _)) | (refine Below.drew ?_) | (refine Below.trans ?_ (Below.mono (by assumption) (by first | omega | (simp; done) | (simp; omega) | (simp at *; omega)))))
set_option maxHeartbeats 1000000 in
set_option maxRecDepth 100000 in
theorem num_negover (v l : Int) (hv : in128 v) (hw : wv v = .agg #[.int .i64 (-1), .int .u64 l]) (k1 : l < 9223372036854775808) (v0 : -(4294967296 ^ 8) < v) (v1 : v < 4294967296 ^ 8) (w : World) :
    Calls Tryd.prog 95 #[.agg (bigV v)] w fun e w' => e = .returned (.tuple #[.int .i64 0, .bool false]) ∧ Below w.heap.size w w' := by
  have c := fun w => ref_To v v0 v1 w
  unfold toR at c
  rw [if_pos hv, hw] at c
  have k3 : decide (9223372036854775808 ≤ l) = false := by simp; omega
  have k4 : ¬ 9223372036854775808 ≤ l := by omega
  have cH := Lib.hid c
  clear c v0 v1
  unfold bigV bigA
  go_enter Tryd.func95, Tryd.ntmps95
  go_wp2_with fail
  refine (cH.out _).mono ?_
  rintro e1 w1 ⟨rfl, hb1⟩
  obtain ⟨hc1, hf1⟩ := bcell hb1
  have hz1 := hb1.size
  try simp at hz1
  have hz1_0 : w.heap.size < w1.heap.size := by omega
  go_wp2_with fail
  refine bp_ret ⟨?_, ?_, ?_, ?_⟩ rfl; rotate_left
  · (simp [results, Tryd.results95, go_sem, *]; rfl)
  rotate_left
  · repeat (first | exact Below.refl _ _ | assumption | (refine Below.alloc ?_ (by first | omega | (simp; done) | (simp; omega) | (simp at *; omega)) _) | (refine Below.setCell ?_ (by first | omega | (simp; done) | (simp; omega) | (simp at *; omega)) _) | (refine Below.trans ?_ (below_drewN _ _ _)) | (refine Below.drew ?_) | (refine Below.trans ?_ (Below.mono (by assumption) (by first | omega | (simp; done) | (simp; omega) | (simp at *; omega)))))
  · rfl
theorem ref_Number (v : Int) (v0 : -(4294967296 ^ 8) < v) (v1 : v < 4294967296 ^ 8) (w : World) :
    Calls Tryd.prog 95 #[.agg (bigV v)] w fun e w' => e = .returned (numR v) ∧ Below w.heap.size w w' := by
  by_cases hv : in128 v
  · have hw : wv v = .agg #[.int .i64 (v / 18446744073709551616), .int .u64 (v % 18446744073709551616)] := rfl
    by_cases z : v / 18446744073709551616 = 0
    · rw [z] at hw
      by_cases k : v % 18446744073709551616 < 9223372036854775808
      · rw [numR_yes (by unfold in64; omega)]
        exact num_pos v _ hv hw k (by unfold wrap64; omega) v0 v1 w
      · rw [numR_no (by unfold in64; omega)]
        exact num_posover v _ hv hw (by omega) v0 v1 w
    · by_cases y : v / 18446744073709551616 = -1
      · rw [y] at hw
        by_cases k : v % 18446744073709551616 < 9223372036854775808
        · rw [numR_no (by unfold in64; omega)]
          exact num_negover v _ hv hw k v0 v1 w
        · rw [numR_yes (by unfold in64; omega)]
          exact num_neg v _ hv hw (by omega) (by unfold wrap64; omega) v0 v1 w
      · rw [numR_no (by unfold in64; omega)]
        exact num_far v _ _ hv hw z y v0 v1 w
  · rw [numR_no (by unfold in64 in128 at *; omega)]
    exact num_out v hv v0 v1 w
end Go.Proofs.YtmdnnlfoljdfpaaDoor
