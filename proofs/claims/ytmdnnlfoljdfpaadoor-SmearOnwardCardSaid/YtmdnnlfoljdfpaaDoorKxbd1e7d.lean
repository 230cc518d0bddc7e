/- Texts joined. -/
import Derived.Test.YtmdnnlfoljdfpaaDoorKxeba50c
import Derived.Test.YtmdnnlfoljdfpaaDoorRows
import Derived.WalkKit
import Derived.ProofKit
import Derived.OpenShut
import Derived.ShutString
import Derived.ChangeOld
import Derived.ChangeSame
import Derived.ChangeVars
import Derived.JoinedOf
import Derived.Handed
import Derived.SizedLaws
import Derived.LaidLaws
import Derived.LaidHandle
import Derived.RowKitTokens
import Derived.Stop.Joined
namespace Go.Proofs.YtmdnnlfoljdfpaaDoor
open Go.RowKit
theorem to_small (N : Int) (n0 : 0 ≤ N) (h : N < 170141183460469231731687303715884105728) : dgI N 3 < 2147483648 ∧ ∀ k, 4 ≤ k → dgI N k = 0 := by
  refine ⟨?_, fun k hk => dgI_top N n0 4 k (by omega) hk⟩
  unfold dgI
  simp only [Int.reducePow]
  omega
theorem to_big (N : Int) (n0 : 0 ≤ N) (n1 : N < 4294967296 ^ 8) (h3 : dgI N 3 < 2147483648) (hk : ∀ k, 4 ≤ k → k < 8 → dgI N k = 0) : N < 170141183460469231731687303715884105728 ∧ dgI N 3 * 4294967296 + dgI N 2 = N / 18446744073709551616 ∧ dgI N 1 * 4294967296 + dgI N 0 = N % 18446744073709551616 := by
  have k4 := hk 4 (by omega) (by omega)
  have k5 := hk 5 (by omega) (by omega)
  have k6 := hk 6 (by omega) (by omega)
  have k7 := hk 7 (by omega) (by omega)
  unfold dgI at *
  simp only [Int.reducePow] at *
  omega
def toV (s : Bool) (N : Int) : Value := if N < 170141183460469231731687303715884105728 then .tuple #[wv (if s then -1 - N else N), .bool true] else .tuple #[.agg #[.int .i64 0, .int .u64 0], .bool false]
theorem toV_no {s : Bool} {N : Int} (h : ¬ N < 170141183460469231731687303715884105728) : toV s N = .tuple #[.agg #[.int .i64 0, .int .u64 0], .bool false] := by unfold toV; rw [if_neg h]
theorem toV_yes {s : Bool} {N : Int} (h : N < 170141183460469231731687303715884105728) : toV s N = .tuple #[wv (if s then -1 - N else N), .bool true] := by unfold toV; rw [if_pos h]
theorem cells2 {w : World} {b : Nat} {x y : Value} {t : TypeId} (h : w.heap[b]? = some (.cells #[x, y] t)) : w.cell? ⟨b, 0, none⟩ = some x ∧ w.cell? ⟨b, 1, none⟩ = some y :=
  ⟨by rw [cell_of_row _ _ 0 _ t (0, 0) h]; rfl, by rw [cell_of_row _ _ 1 _ t (0, 0) h]; rfl⟩
theorem ret_cell_tmp {P : Program} {fn : Func} {s u : Nat} {ty : TypeId} {a : Addr} {tmps : Array Value} {w : World} {v x : Value} (hr : fn.results = #[.cell s ty, .tmp u])
    (hs : tmps.getD s undef = .pointer (some a)) (hx : tmps.getD u undef = x) (hl : (loadVar ty a).run P w = .ok v w) : (results fn tmps).run P w = .ok (.tuple #[v, x]) w := by
  have hs' : tmps[s]?.getD undef = .pointer (some a) := by simpa using hs
  have hx' : tmps[u]?.getD undef = x := by simpa using hx
  simp only [results, hr]
  simp [hs', hx', asAddr, hl, Result.andThen]
theorem load63 {w : World} {b : Nat} {c : Array Value} {t : TypeId} (h : w.heap[b]? = some (.cells c t)) (hc : c.size = 2) :
    (loadVar 209 ⟨b, 0, none⟩).run Tryd.prog w = .ok (.agg c) w :=
  run_loadVar_row w b t _ c (0, 0) _ h Tryd.underlying209 rfl (by rw [hc]; kernel_rfl)
theorem row_set2 {w : World} {b : Nat} {x y x' y' : Value} {t : TypeId} (h : w.heap[b]? = some (.cells #[x, y] t)) : ((w.setCell ⟨b, 0, none⟩ x').setCell ⟨b, 1, none⟩ y').heap[b]? = some (.cells #[x', y'] t) :=
  row_of (row_set (row_set h)) _ rfl
theorem row_dgs8 {w : World} {b : Nat} {f : Nat → Int} {t : TypeId} (g : Nat → Int) (h : w.heap[b]? = some (.cells (rowF f) t)) : ((((((((w.setCell ⟨b, 0, none⟩ (.int .u64 (g 0))).setCell ⟨b, 1, none⟩ (.int .u64 (g 1))).setCell ⟨b, 2, none⟩ (.int .u64 (g 2))).setCell ⟨b, 3, none⟩ (.int .u64 (g 3))).setCell ⟨b, 4, none⟩ (.int .u64 (g 4))).setCell ⟨b, 5, none⟩ (.int .u64 (g 5))).setCell ⟨b, 6, none⟩ (.int .u64 (g 6))).setCell ⟨b, 7, none⟩ (.int .u64 (g 7))).heap[b]? = some (.cells (rowF g) t) :=
  row_of (row_set (k := 7) (v := .int .u64 (g 7)) (row_set (k := 6) (v := .int .u64 (g 6)) (row_set (k := 5) (v := .int .u64 (g 5)) (row_set (k := 4) (v := .int .u64 (g 4)) (row_set (k := 3) (v := .int .u64 (g 3)) (row_set (k := 2) (v := .int .u64 (g 2)) (row_set (k := 1) (v := .int .u64 (g 1)) (row_set (k := 0) (v := .int .u64 (g 0)) h)))))))) _ (by simp [rowF])
set_option maxHeartbeats 2000000 in
set_option maxRecDepth 100000 in
theorem ref_To_pos (N : Int) (n0 : 0 ≤ N) (n1 : N < 4294967296 ^ 8) (w : World) :
    Calls Tryd.prog 125 #[.agg (bigA false (dgI N))] w fun e w' => e = .returned (toV false N) ∧ Below w.heap.size w w' := by
  have hnH := Lib.hid (And.intro n0 n1)
  clear n1
  unfold bigA
  go_enter Tryd.func125, Tryd.ntmps125
  go_upto_region 4 with (fail)
  refine wp_gen (fun wd => wd.heap[w.heap.size]? = some (.cells (bigA false (dgI N)) 159) ∧ wd.heap[w.heap.size + 1]? = some (.cells #[.int .i64 0, .int .u64 0] 209) ∧ wd.heap[w.heap.size + 1 + 1]? = some (.cells (rowF (dgI N)) 157) ∧ w.heap.size + 3 ≤ wd.heap.size ∧ Below w.heap.size w wd) ⟨row_past (row_past (row_new rfl)), row_past (row_new (by simp)), row_new (by simp), by simp, by repeat (first | exact Below.refl _ _ | assumption | (refine Below.alloc ?_ (by first | omega | (simp; done) | (simp; omega) | (simp at *; omega)) _) | (refine Below.setCell ?_ (by first | omega | (simp; done) | (simp; omega) | (simp at *; omega)) _) | (refine Below.trans ?_ (below_drewN _ _ _)) | (refine Below.drew ?_) | (refine Below.trans ?_ (Below.mono (by assumption) (by first | omega | (simp; done) | (simp; omega) | (simp at *; omega)))))⟩ ?_
  rintro wd ⟨g0, g1, g2, hz, hb⟩
  obtain ⟨c0, c1, c2, c3, c4, c5, c6, c7⟩ := row_cells g2
  obtain ⟨v0, v1⟩ := cells2 g1
  have vf := row_frozen g1
  have x0 := big_neg g0
  have g1H := Lib.hid g1
  have g2H := Lib.hid g2
  have hbH := Lib.hid hb
  clear g0 g1 g2 hb
  by_cases h3 : dgI N 3 < 2147483648
  case neg =>
    have hnoH := Lib.hid (toV_no (s := false) (show ¬ N < 170141183460469231731687303715884105728 from fun h => h3 (to_small N n0 h).1))
    have h3' : 2147483648 ≤ dgI N 3 := by omega
    clear h3
    go_wp2_with fail
    refine bp_ret ?_ rfl
    refine ⟨.tuple #[.agg #[.int .i64 0, .int .u64 0], .bool false], ret_cell_tmp (a := ⟨w.heap.size + 1, 0, none⟩) Tryd.results125 ?_ ?_ (load63 (row_set2 g1H.out) rfl), by rw [hnoH.out], Below.setCell (Below.setCell hbH.out (by simp) _) (by simp) _⟩
    · simp
    · simp
  go_upto_block 0 with (fail)
  go_wp2_with fail
  go_loop [5] (fun u => ∃ k : Nat, 4 ≤ k ∧ k ≤ 8 ∧ u = .int .i64 k ∧ Hid (∀ j, 4 ≤ j → j < k → dgI N j = 0)) (fun u => 8 - (intOf u).toNat)
  case atStart => exact ⟨4, by omega, by omega, rfl, Lib.hid (fun j h h' => by omega)⟩
  case round =>
    obtain ⟨k, k4, k8, rfl, hkH⟩ := hrel
    by_cases hk : k < 8
    · have ck := row_cell g2H.out k hk
      by_cases hd : dgI N k = 0
      · rw [hd] at ck
        go_wp2_with fail
        refine ⟨⟨k + 1, by omega, by omega, by go_num, Lib.hid (fun j h h' => ?_)⟩, by simp [intOf]; omega⟩
        by_cases hj : j = k
        · subst hj; exact hd
        · exact hkH.out j h (by omega)
      · have hnoH := Lib.hid (toV_no (s := false) (show ¬ N < 170141183460469231731687303715884105728 from fun h => hd ((to_small N n0 h).2 k k4)))
        have hpos : 0 < dgI N k := by have := dgI_nn N k; omega
        clear hd
        go_wp2_with fail
        refine bp_ret ?_ rfl
        refine ⟨.tuple #[.agg #[.int .i64 0, .int .u64 0], .bool false], ret_cell_tmp (a := ⟨w.heap.size + 1, 0, none⟩) Tryd.results125 ?_ ?_ (load63 (row_set2 g1H.out) rfl), by rw [hnoH.out], Below.setCell (Below.setCell hbH.out (by simp) _) (by simp) _⟩
        · simp
        · simp
    · have hk8 : k = 8 := by omega
      subst hk8
      obtain ⟨y0, y1, y2⟩ := to_big N n0 hnH.out.2 h3 hkH.out
      have hyH := Lib.hid (toV_yes (s := false) y0)
      have b0 := dgI_nn N 0; have b1 := dgI_nn N 1; have b2 := dgI_nn N 2; have b3 := dgI_nn N 3
      have a0 := dgI_lt N 0; have a1 := dgI_lt N 1; have a2 := dgI_lt N 2
      have yH := Lib.hid (And.intro y0 (And.intro y1 y2))
      clear y0 y1 y2 c4 c5 c6 c7
      have l0 : w.heap.size < wd.heap.size := by omega
      have l1 : w.heap.size + 1 < wd.heap.size := by omega
      go_wp2_with fail
      refine bp_ret ?_ rfl
      refine ⟨.tuple #[.agg #[.int .i64 (dgI N 3 * 4294967296 + dgI N 2), .int .u64 (dgI N 1 * 4294967296 + dgI N 0)], .bool true], ret_cell_tmp (a := ⟨w.heap.size + 1, 0, none⟩) Tryd.results125 ?_ ?_ (load63 (row_past (row_set2 g1H.out)) rfl), ?_, Below.alloc (Below.setCell (Below.setCell hbH.out (by simp) _) (by simp) _) (by simp; omega) _⟩
      · simp
      · simp
      · obtain ⟨y0, y1, y2⟩ := yH.out
        rw [hyH.out]
        exact ret_eq (congrArg (fun v => Value.tuple #[v, .bool true]) (wv_of (by simp only [Bool.false_eq_true, if_false]; omega) (by simp only [Bool.false_eq_true, if_false]; omega)))
set_option maxHeartbeats 2000000 in
set_option maxRecDepth 100000 in
theorem ref_To_neg (N : Int) (n0 : 0 ≤ N) (n1 : N < 4294967296 ^ 8) (w : World) :
    Calls Tryd.prog 125 #[.agg (bigA true (dgI (N + 1)))] w fun e w' => e = .returned (toV true N) ∧ Below w.heap.size w w' := by
  have hL := fun w => ref_less (N + 1) 1 w
  rw [Int.add_sub_cancel] at hL
  have hO := fun w => ref_one w
  unfold dgs rowF at hL hO
  have hLH := Lib.hid hL
  have hOH := Lib.hid hO
  clear hL hO
  have hnH := Lib.hid (And.intro n0 n1)
  clear n1
  unfold bigA
  go_enter Tryd.func125, Tryd.ntmps125
  go_upto_region 3 with (fail)
  refine wp_gen (fun wd => wd.heap[w.heap.size]? = some (.cells (bigA true (dgI (N + 1))) 159) ∧ wd.heap[w.heap.size + 1]? = some (.cells #[.int .i64 0, .int .u64 0] 209) ∧ wd.heap[w.heap.size + 1 + 1]? = some (.cells (rowF (dgI (N + 1))) 157) ∧ w.heap.size + 3 ≤ wd.heap.size ∧ Below w.heap.size w wd) ⟨row_past (row_past (row_new rfl)), row_past (row_new (by simp)), row_new (by simp), by simp, by repeat (first | exact Below.refl _ _ | assumption | (refine Below.alloc ?_ (by first | omega | (simp; done) | (simp; omega) | (simp at *; omega)) _) | (refine Below.setCell ?_ (by first | omega | (simp; done) | (simp; omega) | (simp at *; omega)) _) | (refine Below.trans ?_ (below_drewN _ _ _)) | (refine Below.drew ?_) | (refine Below.trans ?_ (Below.mono (by assumption) (by first | omega | (simp; done) | (simp; omega) | (simp at *; omega)))))⟩ ?_
  rintro wc ⟨g0, g1, g2, hz, hb⟩
  obtain ⟨c20, c21, c22, c23, c24, c25, c26, c27⟩ := row_cells g2
  have g0H := Lib.hid g0
  have g1H := Lib.hid g1
  have g2H := Lib.hid g2
  have hbH := Lib.hid hb
  clear g0 g1 g2 hb
  go_region_with (first | (go_at_call 138; refine (hOH.out _).mono ?_; rintro e w5 ⟨rfl, hb5⟩; have k2 := blk hb5 (row_drew g2H.out) (by simp; omega); obtain ⟨f20, f21, f22, f23, f24, f25, f26, f27⟩ := row_cells k2) | (go_at_call 121; refine (hLH.out _).mono ?_; rintro e w6 ⟨rfl, hb6⟩; have j2 := blk hb6 k2 (by have := hb5.size; simp at this; omega); obtain ⟨d20, d21, d22, d23, d24, d25, d26, d27⟩ := row_cells j2; have fz2 := row_frozen j2))
  all_goals
  have hs5 := hb5.size
  simp at hs5
  have hs6 := hb6.size
  go_upto_region 4 with (fail)
  refine wp_gen (fun wd => wd.heap[w.heap.size]? = some (.cells (bigA true (dgI (N + 1))) 159) ∧ wd.heap[w.heap.size + 1]? = some (.cells #[.int .i64 0, .int .u64 0] 209) ∧ wd.heap[w.heap.size + 1 + 1]? = some (.cells (rowF (dgI N)) 157) ∧ w.heap.size + 3 ≤ wd.heap.size ∧ Below w.heap.size w wd) ⟨row_other8 (blk hb6 (blk hb5 (row_drew g0H.out) (by simp; omega)) (by omega)) (by omega), row_other8 (blk hb6 (blk hb5 (row_drew g1H.out) (by simp; omega)) (by omega)) (by omega), row_dgs8 (dgI N) j2, by simp; omega, below_set8 ((hbH.out.drew.trans (hb5.mono (by simp; omega))).trans (hb6.mono (by omega))) (by omega)⟩ ?_
  clear c20 c21 c22 c23 c24 c25 c26 c27 f20 f21 f22 f23 f24 f25 f26 f27 d20 d21 d22 d23 d24 d25 d26 d27 fz2 k2 j2 hb5 hb6 hs5 hs6 hbH g0H g1H g2H hz
  rintro wd ⟨g0, g1, g2, hz, hb⟩
  obtain ⟨c0, c1, c2, c3, c4, c5, c6, c7⟩ := row_cells g2
  obtain ⟨v0, v1⟩ := cells2 g1
  have vf := row_frozen g1
  have x0 := big_neg g0
  have g1H := Lib.hid g1
  have g2H := Lib.hid g2
  have hbH := Lib.hid hb
  clear g0 g1 g2 hb
  by_cases h3 : dgI N 3 < 2147483648
  case neg =>
    have hnoH := Lib.hid (toV_no (s := true) (show ¬ N < 170141183460469231731687303715884105728 from fun h => h3 (to_small N n0 h).1))
    have h3' : 2147483648 ≤ dgI N 3 := by omega
    clear h3
    go_wp2_with fail
    refine bp_ret ?_ rfl
    refine ⟨.tuple #[.agg #[.int .i64 0, .int .u64 0], .bool false], ret_cell_tmp (a := ⟨w.heap.size + 1, 0, none⟩) Tryd.results125 ?_ ?_ (load63 (row_set2 g1H.out) rfl), by rw [hnoH.out], Below.setCell (Below.setCell hbH.out (by simp) _) (by simp) _⟩
    · simp
    · simp
  go_upto_block 0 with (fail)
  go_wp2_with fail
  go_loop [5] (fun u => ∃ k : Nat, 4 ≤ k ∧ k ≤ 8 ∧ u = .int .i64 k ∧ Hid (∀ j, 4 ≤ j → j < k → dgI N j = 0)) (fun u => 8 - (intOf u).toNat)
  case atStart => exact ⟨4, by omega, by omega, rfl, Lib.hid (fun j h h' => by omega)⟩
  case round =>
    obtain ⟨k, k4, k8, rfl, hkH⟩ := hrel
    by_cases hk : k < 8
    · have ck := row_cell g2H.out k hk
      by_cases hd : dgI N k = 0
      · rw [hd] at ck
        go_wp2_with fail
        refine ⟨⟨k + 1, by omega, by omega, by go_num, Lib.hid (fun j h h' => ?_)⟩, by simp [intOf]; omega⟩
        by_cases hj : j = k
        · subst hj; exact hd
        · exact hkH.out j h (by omega)
      · have hnoH := Lib.hid (toV_no (s := true) (show ¬ N < 170141183460469231731687303715884105728 from fun h => hd ((to_small N n0 h).2 k k4)))
        have hpos : 0 < dgI N k := by have := dgI_nn N k; omega
        clear hd
        go_wp2_with fail
        refine bp_ret ?_ rfl
        refine ⟨.tuple #[.agg #[.int .i64 0, .int .u64 0], .bool false], ret_cell_tmp (a := ⟨w.heap.size + 1, 0, none⟩) Tryd.results125 ?_ ?_ (load63 (row_set2 g1H.out) rfl), by rw [hnoH.out], Below.setCell (Below.setCell hbH.out (by simp) _) (by simp) _⟩
        · simp
        · simp
    · have hk8 : k = 8 := by omega
      subst hk8
      obtain ⟨y0, y1, y2⟩ := to_big N n0 hnH.out.2 h3 hkH.out
      have hyH := Lib.hid (toV_yes (s := true) y0)
      have b0 := dgI_nn N 0; have b1 := dgI_nn N 1; have b2 := dgI_nn N 2; have b3 := dgI_nn N 3
      have a0 := dgI_lt N 0; have a1 := dgI_lt N 1; have a2 := dgI_lt N 2
      have yH := Lib.hid (And.intro y0 (And.intro y1 y2))
      clear y0 y1 y2 c4 c5 c6 c7
      have l0 : w.heap.size < wd.heap.size := by omega
      have l1 : w.heap.size + 1 < wd.heap.size := by omega
      go_wp2_with fail
      refine bp_ret ?_ rfl
      refine ⟨.tuple #[.agg #[.int .i64 (-1 - (dgI N 3 * 4294967296 + dgI N 2)), .int .u64 (18446744073709551615 - (dgI N 1 * 4294967296 + dgI N 0))], .bool true], ret_cell_tmp (a := ⟨w.heap.size + 1, 0, none⟩) Tryd.results125 ?_ ?_ (load63 (row_past (row_set2 g1H.out)) rfl), ?_, Below.alloc (Below.setCell (Below.setCell hbH.out (by simp) _) (by simp) _) (by simp; omega) _⟩
      · simp
      · simp
      · obtain ⟨y0, y1, y2⟩ := yH.out
        rw [hyH.out]
        exact ret_eq (congrArg (fun v => Value.tuple #[v, .bool true]) (wv_of (by simp only [if_true]; omega) (by simp only [if_true]; omega)))
def toR (v : Int) : Value := if in128 v then .tuple #[wv v, .bool true] else .tuple #[.agg #[.int .i64 0, .int .u64 0], .bool false]
theorem ref_To (v : Int) (v0 : -(4294967296 ^ 8) < v) (v1 : v < 4294967296 ^ 8) (w : World) :
    Calls Tryd.prog 125 #[.agg (bigV v)] w fun e w' => e = .returned (toR v) ∧ Below w.heap.size w w' := by
  unfold toR
  by_cases h : v < 0
  · have c := ref_To_neg (-v - 1) (by omega) (by omega) w
    rw [bigV_neg h]
    rw [show -v - 1 + 1 = -v by omega] at c
    unfold toV at c
    by_cases k : in128 v
    · rw [if_pos k]
      rw [if_pos (by unfold in128 at k; omega), if_pos rfl, show -1 - (-v - 1) = v by omega] at c
      exact c
    · rw [if_neg k]
      rw [if_neg (by unfold in128 at k; omega)] at c
      exact c
  · have c := ref_To_pos v (by omega) v1 w
    rw [bigV_nn (by omega)]
    unfold toV at c
    by_cases k : in128 v
    · rw [if_pos k]
      rw [if_pos (by unfold in128 at k; omega), if_neg (by decide)] at c
      exact c
    · rw [if_neg k]
      rw [if_neg (by unfold in128 at k; omega)] at c
      exact c
def numR (v : Int) : Value := if in64 v then .tuple #[.int .i64 v, .bool true] else .tuple #[.int .i64 0, .bool false]
theorem numR_yes {v : Int} (h : in64 v) : numR v = .tuple #[.int .i64 v, .bool true] := by unfold numR; rw [if_pos h]
theorem numR_no {v : Int} (h : ¬ in64 v) : numR v = .tuple #[.int .i64 0, .bool false] := by unfold numR; rw [if_neg h]
set_option maxHeartbeats 1000000 in
set_option maxRecDepth 100000 in
theorem num_out (v : Int) (hv : ¬ in128 v) (v0 : -(4294967296 ^ 8) < v) (v1 : v < 4294967296 ^ 8) (w : World) :
    Calls Tryd.prog 95 #[.agg (bigV v)] w fun e w' => e = .returned (.tuple #[.int .i64 0, .bool false]) ∧ Below w.heap.size w w' := by
  have c := fun w => ref_To v v0 v1 w
  unfold toR at c
  rw [if_neg hv] at c
  have cH := Lib.hid c
  clear c v0 v1
  unfold bigV bigA
  go_enter Tryd.func95, Tryd.ntmps95
  go_wp2_with fail
  refine (cH.out _).mono ?_
  rintro e1 w1 ⟨rfl, hb1⟩
  obtain ⟨hc1, hf1⟩ := bcell hb1
  have hz1 := hb1.size
  try simp at hz1
  have hz1_0 : w.heap.size < w1.heap.size := by omega
  go_wp2_with fail
  refine bp_ret ⟨?_, ?_, ?_, ?_⟩ rfl; rotate_left
  · (simp [results, Tryd.results95, go_sem, *]; rfl)
  rotate_left
  · repeat (first | exact Below.refl _ _ | assumption | (refine Below.alloc ?_ (by first | omega | (simp; done) | (simp; omega) | (simp at *; omega)) _) | (refine Below.setCell ?_ (by first | omega | (simp; done) | (simp; omega) | (simp at *; omega)) _) | (refine Below.trans ?_ (below_drewN _ _ _)) | (refine Below.drew ?_) | (refine Below.trans ?_ (Below.mono (by assumption) (by first | omega | (simp; done) | (simp; omega) | (simp at *; omega)))))
  · rfl
set_option maxHeartbeats 1000000 in
set_option maxRecDepth 100000 in
theorem num_far (v h l : Int) (hv : in128 v) (hw : wv v = .agg #[.int .i64 h, .int .u64 l]) (k1 : ¬ h = 0) (k2 : ¬ h = -1) (v0 : -(4294967296 ^ 8) < v) (v1 : v < 4294967296 ^ 8) (w : World) :
    Calls Tryd.prog 95 #[.agg (bigV v)] w fun e w' => e = .returned (.tuple #[.int .i64 0, .bool false]) ∧ Below w.heap.size w w' := by
  have c := fun w => ref_To v v0 v1 w
  unfold toR at c
  rw [if_pos hv, hw] at c
  have cH := Lib.hid c
  clear c v0 v1
  unfold bigV bigA
  go_enter Tryd.func95, Tryd.ntmps95
  go_wp2_with fail
  refine (cH.out _).mono ?_
  rintro e1 w1 ⟨rfl, hb1⟩
  obtain ⟨hc1, hf1⟩ := bcell hb1
  have hz1 := hb1.size
  try simp at hz1
  have hz1_0 : w.heap.size < w1.heap.size := by omega
  go_wp2_with fail
  refine bp_ret ⟨?_, ?_, ?_, ?_⟩ rfl; rotate_left
  · (simp [results, Tryd.results95, go_sem, *]; rfl)
  rotate_left
  · repeat (first | exact Below.refl _ _ | assumption | (refine Below.alloc ?_ (by first | omega | (simp; done) | (simp; omega) | (simp at *; omega)) _) | (refine Below.setCell ?_ (by first | omega | (simp; done) | (simp; omega) | (simp at *; omega)) _) | (refine Below.trans ?_ (below_drewN _ _ _)) | (refine Below.drew ?_) | (refine Below.trans ?_ (Below.mono (by assumption) (by first | omega | (simp; done) | (simp; omega) | (simp at *; omega)))))
  · rfl
set_option maxHeartbeats 1000000 in
set_option maxRecDepth 100000 in
theorem num_pos (v l : Int) (hv : in128 v) (hw : wv v = .agg #[.int .i64 0, .int .u64 l]) (k1 : l < 9223372036854775808) (k2 : wrap64 l = v) (v0 : -(4294967296 ^ 8) < v) (v1 : v < 4294967296 ^ 8) (w : World) :
    Calls Tryd.prog 95 #[.agg (bigV v)] w fun e w' => e = .returned (.tuple #[.int .i64 v, .bool true]) ∧ Below w.heap.size w w' := by
  have c := fun w => ref_To v v0 v1 w
  unfold toR at c
  rw [if_pos hv, hw] at c
  have cH := Lib.hid c
  clear c v0 v1
  unfold bigV bigA
  go_enter Tryd.func95, Tryd.ntmps95
  go_wp2_with fail
  refine (cH.out _).mono ?_
  rintro e1 w1 ⟨rfl, hb1⟩
  obtain ⟨hc1, hf1⟩ := bcell hb1
  have hz1 := hb1.size
  try simp at hz1
  have hz1_0 : w.heap.size < w1.heap.size := by omega
  go_wp2_with fail
  refine bp_ret ?_ rfl
  refine ⟨.tuple #[.int .i64 (wrap64 l), .bool true], ?_, by rw [k2], ?_⟩
  · simp [results, Tryd.results95, go_sem]
  · repeat (first | exact Below.refl _ _ | assumption | (refine Below.alloc ?_ (by first | omega | (simp; done) | (simp; omega) | (simp at *; omega)) _) | (refine Below.setCell ?_ (by first | omega | (simp; done) | (simp; omega) | (simp at *; omega)) _) | (refine Below.trans ?_ (below_drewN _ _ _)) | (refine Below.drew ?_) | (refine Below.trans ?_ (Below.mono (by assumption) (by first | omega | (simp; done) | (simp; omega) | (simp at *; omega)))))
set_option maxHeartbeats 1000000 in
set_option maxRecDepth 100000 in
theorem num_posover (v l : Int) (hv : in128 v) (hw : wv v = .agg #[.int .i64 0, .int .u64 l]) (k1 : 9223372036854775808 ≤ l) (v0 : -(4294967296 ^ 8) < v) (v1 : v < 4294967296 ^ 8) (w : World) :
    Calls Tryd.prog 95 #[.agg (bigV v)] w fun e w' => e = .returned (.tuple #[.int .i64 0, .bool false]) ∧ Below w.heap.size w w' := by
  have c := fun w => ref_To v v0 v1 w
  unfold toR at c
  rw [if_pos hv, hw] at c
  have cH := Lib.hid c
  clear c v0 v1
  unfold bigV bigA
  go_enter Tryd.func95, Tryd.ntmps95
  go_wp2_with fail
  refine (cH.out _).mono ?_
  rintro e1 w1 ⟨rfl, hb1⟩
  obtain ⟨hc1, hf1⟩ := bcell hb1
  have hz1 := hb1.size
  try simp at hz1
  have hz1_0 : w.heap.size < w1.heap.size := by omega
  go_wp2_with fail
  refine bp_ret ⟨?_, ?_, ?_, ?_⟩ rfl; rotate_left
  · (simp [results, Tryd.results95, go_sem, *]; rfl)
  rotate_left
  · repeat (first | exact Below.refl _ _ | assumption | (refine Below.alloc ?_ (by first | omega | (simp; done) | (simp; omega) | (simp at *; omega)) _) | (refine Below.setCell ?_ (by first | omega | (simp; done) | (simp; omega) | (simp at *; omega)) _) | (refine Below.trans ?_ (below_drewN _ _ _)) | (refine Below.drew ?_) | (refine Below.trans ?_ (Below.mono (by assumption) (by first | omega | (simp; done) | (simp; omega) | (simp at *; omega)))))
  · rfl
set_option maxHeartbeats 1000000 in
set_option maxRecDepth 100000 in
theorem num_neg (v l : Int) (hv : in128 v) (hw : wv v = .agg #[.int .i64 (-1), .int .u64 l]) (k1 : 9223372036854775808 ≤ l) (k2 : wrap64 l = v) (v0 : -(4294967296 ^ 8) < v) (v1 : v < 4294967296 ^ 8) (w : World) :
    Calls Tryd.prog 95 #[.agg (bigV v)] w fun e w' => e = .returned (.tuple #[.int .i64 v, .bool true]) ∧ Below w.heap.size w w' := by
  have c := fun w => ref_To v v0 v1 w
  unfold toR at c
  rw [if_pos hv, hw] at c
  have cH := Lib.hid c
  clear c v0 v1
  unfold bigV bigA
  go_enter Tryd.func95, Tryd.ntmps95
  go_wp2_with fail
  refine (cH.out _).mono ?_
  rintro e1 w1 ⟨rfl, hb1⟩
  obtain ⟨hc1, hf1⟩ := bcell hb1
  have hz1 := hb1.size
  try simp at hz1
  have hz1_0 : w.heap.size < w1.heap.size := by omega
  go_wp2_with fail
  refine bp_ret ?_ rfl
  refine ⟨.tuple #[.int .i64 (wrap64 l), .bool true], ?_, by rw [k2], ?_⟩
  · simp [results, Tryd.results95, go_sem]
  · repeat (first | exact Below.refl _ _ | assumption | (refine Below.alloc ?_ (by first | omega | (simp; done) | (simp; omega) | (simp at *; omega)) _) | (refine Below.setCell ?_ (by first | omega | (simp; done) | (simp; omega) | (simp at *; omega)) _) | (refine Below.trans ?_ (below_drewN _ _ _)) | (refine Below.drew ?_) | (refine Below.trans ?_ (Below.mono (by assumption) (by first | omega | (simp; done) | (simp; omega) | (simp at *; omega)))))
set_option maxHeartbeats 1000000 in
set_option maxRecDepth 100000 in
theorem num_negover (v l : Int) (hv : in128 v) (hw : wv v = .agg #[.int .i64 (-1), .int .u64 l]) (k1 : l < 9223372036854775808) (v0 : -(4294967296 ^ 8) < v) (v1 : v < 4294967296 ^ 8) (w : World) :
    Calls Tryd.prog 95 #[.agg (bigV v)] w fun e w' => e = .returned (.tuple #[.int .i64 0, .bool false]) ∧ Below w.heap.size w w' := by
  have c := fun w => ref_To v v0 v1 w
  unfold toR at c
  rw [if_pos hv, hw] at c
  have k3 : decide (9223372036854775808 ≤ l) = false := by simp; omega
  have k4 : ¬ 9223372036854775808 ≤ l := by omega
  have cH := Lib.hid c
  clear c v0 v1
  unfold bigV bigA
  go_enter Tryd.func95, Tryd.ntmps95
  go_wp2_with fail
  refine (cH.out _).mono ?_
  rintro e1 w1 ⟨rfl, hb1⟩
  obtain ⟨hc1, hf1⟩ := bcell hb1
  have hz1 := hb1.size
  try simp at hz1
  have hz1_0 : w.heap.size < w1.heap.size := by omega
  go_wp2_with fail
  refine bp_ret ⟨?_, ?_, ?_, ?_⟩ rfl; rotate_left
  · (simp [results, Tryd.results95, go_sem, *]; rfl)
  rotate_left
  · repeat (first | exact Below.refl _ _ | assumption | (refine Below.alloc ?_ (by first | omega | (simp; done) | (simp; omega) | (simp at *; omega)) _) | (refine Below.setCell ?_ (by first | omega | (simp; done) | (simp; omega) | (simp at *; omega)) _) | (refine Below.trans ?_ (below_drewN _ _ _)) | (refine Below.drew ?_) | (refine Below.trans ?_ (Below.mono (by assumption) (by first | omega | (simp; done) | (simp; omega) | (simp at *; omega)))))
  · rfl
theorem ref_Number (v : Int) (v0 : -(4294967296 ^ 8) < v) (v1 : v < 4294967296 ^ 8) (w : World) :
    Calls Tryd.prog 95 #[.agg (bigV v)] w fun e w' => e = .returned (numR v) ∧ Below w.heap.size w w' := by
  by_cases hv : in128 v
  · have hw : wv v = .agg #[.int .i64 (v / 18446744073709551616), .int .u64 (v % 18446744073709551616)] := rfl
    by_cases z : v / 18446744073709551616 = 0
    · rw [z] at hw
      by_cases k : v % 18446744073709551616 < 9223372036854775808
      · rw [numR_yes (by unfold in64; omega)]
        exact num_pos v _ hv hw k (by unfold wrap64; omega) v0 v1 w
      · rw [numR_no (by unfold in64; omega)]
        exact num_posover v _ hv hw (by omega) v0 v1 w
    · by_cases y : v / 18446744073709551616 = -1
      · rw [y] at hw
        by_cases k : v % 18446744073709551616 < 9223372036854775808
        · rw [numR_no (by unfold in64; omega)]
          exact num_negover v _ hv hw k v0 v1 w
        · rw [numR_yes (by unfold in64; omega)]
          exact num_neg v _ hv hw (by omega) (by unfold wrap64; omega) v0 v1 w
      · rw [numR_no (by unfold in64; omega)]
        exact num_far v _ _ hv hw z y v0 v1 w
  · rw [numR_no (by unfold in64 in128 at *; omega)]
    exact num_out v hv v0 v1 w
end Go.Proofs.YtmdnnlfoljdfpaaDoor
namespace Go.Proofs.YtmdnnlfoljdfpaaDoor
open Go.RowKit
def mdX (a b c : Int) : Int × Option Int := if c < 1 then (0, some 1) else if in64 (a * b / c) then (a * b / c, none) else (0, some 2)
def msX (a m s : Int) : Int × Option Int := if s < 0 ∨ 31 < s then (0, some 1) else mdX a m (2 ^ s.toNat)
def refP (r : Int × Option Int) : Value := .tuple #[.int .i64 r.1, .int .i64 (numV r.2)]
theorem mul_in128' {a b : Int} (ha : in64 a) (hb : in64 b) : -(2 ^ 254) < a * b ∧ a * b < 2 ^ 254 := by
  have h := mul_in128 ha hb
  unfold in128 at h
  omega
theorem in64_lim {a : Int} (h : in64 a) : -(4294967296 ^ 4) < a ∧ a < 4294967296 ^ 4 := by unfold in64 at h; omega
theorem ediv_lim {x d : Int} (h0 : -(2 ^ 254) < x) (h1 : x < 2 ^ 254) (hd : 0 < d) : -(2 ^ 255) < x / d ∧ x / d < 2 ^ 255 := by
  have e := Int.mul_ediv_add_emod x d
  have r0 := Int.emod_nonneg x (Int.ne_of_gt hd)
  have r1 := Int.emod_lt_of_pos x hd
  rcases Int.lt_or_le x 0 with h | h
  · have a : x / d < 0 := Int.ediv_neg_of_neg_of_pos h hd
    have b := Int.mul_le_mul_of_nonpos_right (show 1 ≤ d from hd) (show x / d + 1 ≤ 0 by omega)
    rw [Int.mul_add, Int.mul_one] at b
    omega
  · have a : 0 ≤ x / d := Int.ediv_nonneg h (by omega)
    have b : x / d ≤ x := Int.ediv_le_self _ h
    omega
set_option maxHeartbeats 1000000 in
set_option maxRecDepth 100000 in
theorem ref_MulDiv (a b c : Int) (ha : in64 a) (hb : in64 b) (hc : in64 c) (w : World) :
    Calls Tryd.prog 52 #[.int .i64 a, .int .i64 b, .int .i64 c] w fun e w' => e = .returned (refP (mdX a b c)) ∧ Below w.heap.size w w' := by
  unfold refP mdX
  by_cases h : c < 1
  · rw [if_pos h]
    go_enter Tryd.func52, Tryd.ntmps52
    go_wp2_with fail
    refine bp_ret ⟨?_, ?_, ?_, ?_⟩ rfl; rotate_left
    · (simp [results, Tryd.results52, go_sem, *]; rfl)
    rotate_left
    · repeat (first | exact Below.refl _ _ | assumption | (refine Below.alloc ?_ (by first | omega | (simp; done) | (simp; omega) | (simp at *; omega)) _) | (refine Below.setCell ?_ (by first | omega | (simp; done) | (simp; omega) | (simp at *; omega)) _) | (refine Below.trans ?_ (below_drewN _ _ _)) | (refine Below.drew ?_) | (refine Below.trans ?_ (Below.mono (by assumption) (by first | omega | (simp; done) | (simp; omega) | (simp at *; omega)))))
    · rfl
  · rw [if_neg h]
    obtain ⟨p0, p1⟩ := mul_in128' ha hb
    have c0 : 0 < c := by omega
    have q := ediv_lim p0 p1 c0
    have h1 := Lib.hid (fun w => ref_Int a ha w)
    have h2 := Lib.hid (fun w => ref_Int b hb w)
    have h3 := Lib.hid (fun w => ref_Mul a b (in64_lim ha).1 (in64_lim ha).2 (in64_lim hb).1 (in64_lim hb).2 w)
    have h4 := Lib.hid (fun w => ref_Int c hc w)
    have c5 := fun w => ref_Div (a * b) c p0 p1 c0 (by have := (in64_lim hc).2; unfold in64 at hc; omega) w
    rw [bigV_open (a * b / c), bigV_open (a * b % c)] at c5
    unfold bigA at c5
    have h5 := Lib.hid c5
    have c6 := fun w => ref_Number (a * b / c) (by omega) (by omega) w
    rw [bigV_open (a * b / c)] at c6
    unfold bigA at c6
    by_cases hq : in64 (a * b / c)
    · rw [numR_yes hq] at c6
      rw [if_pos hq]
      have h6 := Lib.hid c6
      clear c5 c6 p0 p1 q
      go_enter Tryd.func52, Tryd.ntmps52
      go_wp2_with fail
      refine (h1.out _).mono ?_
      rintro e1 w1 ⟨rfl, hb1⟩
      obtain ⟨hc1, hf1⟩ := bcell hb1
      have hz1 := hb1.size
      try simp at hz1
      go_wp2_with fail
      refine (h2.out _).mono ?_
      rintro e2 w2 ⟨rfl, hb2⟩
      obtain ⟨hc2, hf2⟩ := bcell hb2
      have hz2 := hb2.size
      try simp at hz2
      go_wp2_with fail
      refine (h3.out _).mono ?_
      rintro e3 w3 ⟨rfl, hb3⟩
      obtain ⟨hc3, hf3⟩ := bcell hb3
      have hz3 := hb3.size
      try simp at hz3
      go_wp2_with fail
      refine (h4.out _).mono ?_
      rintro e4 w4 ⟨rfl, hb4⟩
      obtain ⟨hc4, hf4⟩ := bcell hb4
      have hz4 := hb4.size
      try simp at hz4
      go_wp2_with fail
      refine (h5.out _).mono ?_
      rintro e5 w5 ⟨rfl, hb5⟩
      obtain ⟨hc5, hf5⟩ := bcell hb5
      have hz5 := hb5.size
      try simp at hz5
      go_wp2_with fail
      refine (h6.out _).mono ?_
      rintro e6 w6 ⟨rfl, hb6⟩
      obtain ⟨hc6, hf6⟩ := bcell hb6
      have hz6 := hb6.size
      try simp at hz6
      go_wp2_with fail
      refine bp_ret ⟨?_, ?_, ?_, ?_⟩ rfl; rotate_left
      · (simp [results, Tryd.results52, go_sem, *]; rfl)
      rotate_left
      · repeat (first | exact Below.refl _ _ | assumption | (refine Below.alloc ?_ (by first | omega | (simp; done) | (simp; omega) | (simp at *; omega)) _) | (refine Below.setCell ?_ (by first | omega | (simp; done) | (simp; omega) | (simp at *; omega)) _) | (refine Below.trans ?_ (below_drewN _ _ _)) | (refine Below.drew ?_) | (refine Below.trans ?_ (Below.mono (by assumption) (by first | omega | (simp; done) | (simp; omega) | (simp at *; omega)))))
      · rfl
    · rw [numR_no hq] at c6
      rw [if_neg hq]
      have h6 := Lib.hid c6
      clear c5 c6 p0 p1 q
      go_enter Tryd.func52, Tryd.ntmps52
      go_wp2_with fail
      refine (h1.out _).mono ?_
      rintro e1 w1 ⟨rfl, hb1⟩
      obtain ⟨hc1, hf1⟩ := bcell hb1
      have hz1 := hb1.size
      try simp at hz1
      go_wp2_with fail
      refine (h2.out _).mono ?_
      rintro e2 w2 ⟨rfl, hb2⟩
      obtain ⟨hc2, hf2⟩ := bcell hb2
      have hz2 := hb2.size
      try simp at hz2
      go_wp2_with fail
      refine (h3.out _).mono ?_
      rintro e3 w3 ⟨rfl, hb3⟩
      obtain ⟨hc3, hf3⟩ := bcell hb3
      have hz3 := hb3.size
      try simp at hz3
      go_wp2_with fail
      refine (h4.out _).mono ?_
      rintro e4 w4 ⟨rfl, hb4⟩
      obtain ⟨hc4, hf4⟩ := bcell hb4
      have hz4 := hb4.size
      try simp at hz4
      go_wp2_with fail
      refine (h5.out _).mono ?_
      rintro e5 w5 ⟨rfl, hb5⟩
      obtain ⟨hc5, hf5⟩ := bcell hb5
      have hz5 := hb5.size
      try simp at hz5
      go_wp2_with fail
      refine (h6.out _).mono ?_
      rintro e6 w6 ⟨rfl, hb6⟩
      obtain ⟨hc6, hf6⟩ := bcell hb6
      have hz6 := hb6.size
      try simp at hz6
      go_wp2_with fail
      refine bp_ret ⟨?_, ?_, ?_, ?_⟩ rfl; rotate_left
      · (simp [results, Tryd.results52, go_sem, *]; rfl)
      rotate_left
      · repeat (first | exact Below.refl _ _ | assumption | (refine Below.alloc ?_ (by first | omega | (simp; done) | (simp; omega) | (simp at *; omega)) _) | (refine Below.setCell ?_ (by first | omega | (simp; done) | (simp; omega) | (simp at *; omega)) _) | (refine Below.trans ?_ (below_drewN _ _ _)) | (refine Below.drew ?_) | (refine Below.trans ?_ (Below.mono (by assumption) (by first | omega | (simp; done) | (simp; omega) | (simp at *; omega)))))
      · rfl
end Go.Proofs.YtmdnnlfoljdfpaaDoor
namespace Go.Proofs.YtmdnnlfoljdfpaaDoor.Mir
open Go Go.RowKit
set_option maxRecDepth 100000
abbrev lI : List ShA → List ShA := fun l => .one (.d (.int .i64)) :: l
abbrev shE : ShA := .one (.d (.err 95))
def i64B (x : Int) : Bool := decide (-9223372036854775808 ≤ x ∧ x < 9223372036854775808)
theorem i64B_iff {x : Int} : i64B x = true ↔ in64 x := by simp [i64B, in64]
def fitP (s : Int) : Int × Option Int := bif i64B s then (s, none) else (0, some 2)
theorem fitP_rep {g : Gh} (s : Int) : RepV g (retV 2 (encAs 0 [.one (.d (.int .i64)), shE] (fitP s))) (fitI s) := by
  unfold fitP fitI
  by_cases h : in64 s
  · rw [if_pos h, i64B_iff.2 h]; exact ⟨_, rfl, _, _, rfl, rfl, _, _, rfl, rfl, rfl⟩
  · rw [if_neg h, Bool.eq_false_iff.2 (fun e => h (i64B_iff.1 e))]; exact ⟨_, rfl, _, _, rfl, rfl, _, _, rfl, rfl, rfl⟩
def mdF (a b c : Int) : Option (TAs [.one (.d (.int .i64)), shE]) := bif i64B a && (i64B b && i64B c) then some (bif decide (c < 1) then (0, some 1) else fitP (a * b / c)) else none
def mdS : Sum := fnSum 3 0 2 [.one (.d (.int .i64)), .one (.d (.int .i64)), .one (.d (.int .i64))] [.one (.d (.int .i64)), shE] (fun p => mdF p.1 p.2.1 p.2.2)
theorem mdS_ok : SumOk Tryd.prog laidL 49 mdS := by
  refine bridge rfl (fun _ => rfl) ?_
  rintro ⟨a, b, c⟩ r h g w vs _ ⟨_, _, rfl, ha, _, _, rfl, hb, _, _, rfl, hc, rfl⟩
  simp only [mdF] at h
  cases hk : (i64B a && (i64B b && i64B c)) with
  | false => rw [hk] at h; cases h
  | true =>
    rw [hk] at h
    obtain rfl := Option.some.inj h
    simp only [Bool.and_eq_true, i64B_iff] at hk
    cases ha; cases hb; cases hc
    refine invokes_of_calls Tryd.func49 (by kernel_rfl) (by kernel_rfl) ((wide_MulDiv a b c hk.1 hk.2.1 hk.2.2 w).mono ?_)
    rintro e w' ⟨rfl, hw⟩
    refine ⟨_, rfl, ?_, hw⟩
    unfold mulDivR
    by_cases h : c < 1
    · rw [if_pos h, decide_eq_true h]; exact ⟨_, rfl, _, _, rfl, rfl, _, _, rfl, rfl, rfl⟩
    · rw [if_neg h, decide_eq_false h]; exact fitP_rep _
def rmdF (a b c : Int) : Option (TAs [.one (.d (.int .i64)), .one (.d (.int .i64))]) := bif i64B a && (i64B b && i64B c) then some (bif decide (c < 1) then (0, 1) else bif i64B (a * b / c) then (a * b / c, 0) else (0, 2)) else none
def rmdS : Sum := fnSum 3 0 2 [.one (.d (.int .i64)), .one (.d (.int .i64)), .one (.d (.int .i64))] [.one (.d (.int .i64)), .one (.d (.int .i64))] (fun p => rmdF p.1 p.2.1 p.2.2)
theorem rmdS_ok : SumOk Tryd.prog laidL 52 rmdS := by
  refine bridge rfl (fun _ => rfl) ?_
  rintro ⟨a, b, c⟩ r h g w vs _ ⟨_, _, rfl, ha, _, _, rfl, hb, _, _, rfl, hc, rfl⟩
  simp only [rmdF] at h
  cases hk : (i64B a && (i64B b && i64B c)) with
  | false => rw [hk] at h; cases h
  | true =>
    rw [hk] at h
    obtain rfl := Option.some.inj h
    simp only [Bool.and_eq_true, i64B_iff] at hk
    cases ha; cases hb; cases hc
    refine invokes_of_calls Tryd.func52 (by kernel_rfl) (by kernel_rfl) ((ref_MulDiv a b c hk.1 hk.2.1 hk.2.2 w).mono ?_)
    rintro e w' ⟨rfl, hw⟩
    refine ⟨_, rfl, ?_, hw⟩
    unfold refP mdX
    by_cases h : c < 1
    · rw [if_pos h, decide_eq_true h]; exact ⟨_, rfl, _, _, rfl, rfl, _, _, rfl, rfl, rfl⟩
    · rw [if_neg h, decide_eq_false h]
      by_cases h2 : in64 (a * b / c)
      · rw [if_pos h2, i64B_iff.2 h2]; exact ⟨_, rfl, _, _, rfl, rfl, _, _, rfl, rfl, rfl⟩
      · rw [if_neg h2, Bool.eq_false_iff.2 (fun e => h2 (i64B_iff.1 e))]; exact ⟨_, rfl, _, _, rfl, rfl, _, _, rfl, rfl, rfl⟩
abbrev shW : ShA := .agg [.d (.int .i64), .d (.int .u64)]
def hlV (p : Int × Int) : Int := p.1 * 18446744073709551616 + p.2
def hlD (v : Int) : Int × Int := (v / 18446744073709551616, v % 18446744073709551616)
theorem hlD_hlV (v : Int) : hlV (hlD v) = v := by unfold hlV hlD; simp only; omega
theorem hl_rep {g : Gh} {p : Int × Int} {x : Value} (h2 : u64B p.2 = true) (h : RepA g (encA 0 shW p) x) : x = wv (hlV p) := by
  obtain ⟨l, rfl, _, _, rfl, hx, _, _, rfl, hy, rfl⟩ := h
  cases hx; cases hy
  exact wv_hl p.1 p.2 (u64B_iff.1 h2).1 (u64B_iff.1 h2).2
theorem rep_hl {g : Gh} (v : Int) : RepA g (encA 0 shW (hlD v)) (wv v) := ⟨_, rfl, _, _, rfl, rfl, _, _, rfl, rfl, rfl⟩
theorem hlV_in {p : Int × Int} (h1 : in64 p.1) (h2 : u64B p.2 = true) : in128 (hlV p) := by
  have := u64B_iff.1 h2
  unfold in64 at h1
  unfold in128 hlV
  omega
def wmulF (a b : Int) : Option (TAs [shW]) := bif i64B a && i64B b then some (hlD (a * b)) else none
def wmulS : Sum := fnSum 2 0 1 [.one (.d (.int .i64)), .one (.d (.int .i64))] [shW] (fun p => wmulF p.1 p.2)
theorem wmulS_ok : SumOk Tryd.prog laidL 90 wmulS := by
  refine bridge rfl (fun _ => rfl) ?_
  rintro ⟨a, b⟩ r h g w vs _ ⟨_, _, rfl, ha, _, _, rfl, hb, rfl⟩
  simp only [wmulF] at h
  cases hk : (i64B a && i64B b) with
  | false => rw [hk] at h; cases h
  | true =>
    rw [hk] at h
    obtain rfl := Option.some.inj h
    simp only [Bool.and_eq_true, i64B_iff] at hk
    cases ha; cases hb
    refine invokes_of_calls Tryd.func90 (by kernel_rfl) (by kernel_rfl) ((wide_Mul a b hk.1 hk.2 w).mono ?_)
    rintro e w' ⟨rfl, hw⟩
    exact ⟨_, rfl, rep_hl _, hw⟩
def wintF (p : TAs [shW]) : Option (TAs [.one (.d (.int .i64)), shE]) := bif i64B p.1 && u64B p.2 then some (fitP (hlV p)) else none
def wintS : Sum := fnSum 1 0 2 [shW] [.one (.d (.int .i64)), shE] wintF
theorem wintS_ok : SumOk Tryd.prog laidL 91 wintS := by
  refine bridge rfl (fun _ => rfl) ?_
  rintro p r h g w vs _ ⟨_, _, rfl, ha, rfl⟩
  simp only [wintF] at h
  cases hk : (i64B p.1 && u64B p.2) with
  | false => rw [hk] at h; cases h
  | true =>
    rw [hk] at h
    obtain rfl := Option.some.inj h
    simp only [Bool.and_eq_true, i64B_iff] at hk
    obtain rfl := hl_rep hk.2 ha
    refine invokes_of_calls Tryd.func91 (by kernel_rfl) (by kernel_rfl) ((wide_Int (hlV p) (hlV_in hk.1 hk.2) w).mono ?_)
    rintro e w' ⟨rfl, hw⟩
    exact ⟨_, rfl, fitP_rep _, hw⟩
def wdivF (p : TAs [shW, .one (.d (.int .i64))]) : Option (TAs [shW, .one (.d (.int .i64)), shE]) := bif i64B p.1.1 && (u64B p.1.2 && i64B p.2) then some (bif decide (p.2 < 1) then ((0, 0), 0, some 1) else (hlD (hlV p.1 / p.2), hlV p.1 % p.2, none)) else none
def wdivS : Sum := fnSum 2 0 3 [shW, .one (.d (.int .i64))] [shW, .one (.d (.int .i64)), shE] wdivF
theorem wdivS_ok : SumOk Tryd.prog laidL 89 wdivS := by
  refine bridge rfl (fun _ => rfl) ?_
  rintro ⟨p, d⟩ r h g w vs _ ⟨_, _, rfl, ha, _, _, rfl, hd, rfl⟩
  simp only [wdivF] at h
  cases hk : (i64B p.1 && (u64B p.2 && i64B d)) with
  | false => rw [hk] at h; cases h
  | true =>
    rw [hk] at h
    obtain rfl := Option.some.inj h
    simp only [Bool.and_eq_true, i64B_iff] at hk
    obtain rfl := hl_rep hk.2.1 ha
    cases hd
    have hin := hlV_in hk.1 hk.2.1
    by_cases h : d < 1
    · refine invokes_of_calls Tryd.func89 (by kernel_rfl) (by kernel_rfl) ((wide_Div_err (hlV p) d hin h w).mono ?_)
      rintro e w' ⟨rfl, hw⟩
      refine ⟨_, rfl, ?_, hw⟩
      rw [decide_eq_true h]
      exact ⟨_, rfl, _, _, rfl, rep_hl 0, _, _, rfl, rfl, _, _, rfl, rfl, rfl⟩
    · have hd2 := hk.2.2
      unfold in64 at hd2
      have hd1 : (1 : Int) ≤ d := Int.not_lt.1 h
      refine invokes_of_calls Tryd.func89 (by kernel_rfl) (by kernel_rfl) ((wide_Div_ok (hlV p) d hin hd1 hd2.2 w).mono ?_)
      rintro e w' ⟨rfl, hw⟩
      refine ⟨_, rfl, ?_, hw⟩
      rw [decide_eq_false h]
      exact ⟨_, rfl, _, _, rfl, rep_hl _, _, _, rfl, rfl, _, _, rfl, rfl, rfl⟩
end Go.Proofs.YtmdnnlfoljdfpaaDoor.Mir
namespace Go.Proofs.YtmdnnlfoljdfpaaDoor
open Go.ChangeShapes Go.WideShapes Go.ChangeAt Go.RowKit
def leavesF (P : Program) (f : TypeId → Option (List TypeId)) : List Field → Nat → Option (List TypeId)
  | [], _ => some []
  | fd :: r, o => if fd.offset = o then (f fd.type).bind fun l => if P.cellsOf fd.type = l.length then (leavesF P f r (o + l.length)).map (l ++ ·) else none else none
def leavesOf (P : Program) : Nat → TypeId → Option (List TypeId)
  | 0, _ => none
  | n + 1, t => match P.underlying t with
    | some (.struct fs) => (leavesF P (leavesOf P n) fs.toList 0).bind fun l => if P.cellsOf t = l.length then some l else none
    | some (.array m e) => (leavesOf P n e).bind fun l => if P.cellsOf e = l.length ∧ P.cellsOf t = m * l.length then some (List.replicate m l).flatten else none
    | some .bool => some [t]
    | some (.int _) => some [t]
    | some .string => some [t]
    | some (.slice _) => some [t]
    | _ => none
def Leaves (R : TypeId → Value → Prop) : List TypeId → List Value → Prop
  | [], [] => True
  | u :: us, c :: cs => R u c ∧ Leaves R us cs
  | _, _ => False
theorem Leaves.length {R : TypeId → Value → Prop} : ∀ {us cs}, Leaves R us cs → us.length = cs.length
  | [], [], _ => rfl
  | _ :: _, _ :: _, h => by simp [Leaves.length h.2]
  | [], _ :: _, h => h.elim
  | _ :: _, [], h => h.elim
theorem Leaves.append {R : TypeId → Value → Prop} : ∀ {a b x y}, Leaves R a x → Leaves R b y → Leaves R (a ++ b) (x ++ y)
  | [], _, [], _, _, h => h
  | _ :: _, _, _ :: _, _, h, k => ⟨h.1, Leaves.append h.2 k⟩
  | [], _, _ :: _, _, h, _ => h.elim
  | _ :: _, _, [], _, h, _ => h.elim
section
variable {H : Type} {enc : TypeId × Value → H} {P : Program} {w : World} {base : Nat} {spare : Nat → Bool} {held : Bool}
def Reads1 (enc : TypeId × Value → H) (P : Program) (w : World) (base : Nat) (spare : Nat → Bool) (held : Bool) (u : TypeId) (c : Value) : Prop :=
  ∃ (m : Nat) (y : DataW H × List MemPlace), DataW.trod enc P w base spare held m u [c] = some y
theorem take_add_drop (cs : List Value) (o a b : Nat) : (cs.drop o).take (a + b) = (cs.drop o).take a ++ (cs.drop (o + a)).take b := by
  rw [List.take_add, List.drop_drop]
theorem leaves_fields {f : TypeId → Option (List TypeId)} (ih : ∀ t l, f t = some l → ∀ fuel cs x, DataW.trod enc P w base spare held fuel t cs = some x → Leaves (Reads1 enc P w base spare held) l cs) (cs : List Value) :
    ∀ (fs : List Field) (o : Nat) (l : List TypeId), leavesF P f fs o = some l → (∀ fd ∈ fs, ∃ m y, DataW.trod enc P w base spare held m fd.type ((cs.drop fd.offset).take (P.cellsOf fd.type)) = some y) → Leaves (Reads1 enc P w base spare held) l ((cs.drop o).take l.length)
  | [], o, l, h, _ => by
    simp only [leavesF, Option.some.injEq] at h
    subst h
    simp [Leaves]
  | fd :: r, o, l, h, hr => by
    unfold leavesF at h
    by_cases ho : fd.offset = o
    · rw [if_pos ho] at h
      cases hf : f fd.type with
      | none => rw [hf] at h; simp at h
      | some l1 =>
        rw [hf] at h
        simp only [Option.bind_some] at h
        by_cases hc : P.cellsOf fd.type = l1.length
        · rw [if_pos hc] at h
          cases h2 : leavesF P f r (o + l1.length) with
          | none => rw [h2] at h; simp at h
          | some l2 =>
            rw [h2] at h
            simp only [Option.map_some, Option.some.injEq] at h
            subst h
            obtain ⟨m, y, hy⟩ := hr fd (List.mem_cons_self ..)
            have a := ih _ _ hf _ _ _ hy
            rw [ho, hc] at a
            have b := leaves_fields ih cs r _ _ h2 (fun q hq => hr q (List.mem_cons_of_mem _ hq))
            rw [List.length_append, take_add_drop]
            exact a.append b
        · rw [if_neg hc] at h; cases h
    · rw [if_neg ho] at h; cases h
theorem leaves_array {l : List TypeId} (cs : List Value) : ∀ m : Nat, (∀ i, i < m → Leaves (Reads1 enc P w base spare held) l ((cs.drop (i * l.length)).take l.length)) → Leaves (Reads1 enc P w base spare held) (List.replicate m l).flatten (cs.take (m * l.length))
  | 0, _ => by simp [Leaves]
  | m + 1, h => by
    have a := leaves_array cs m (fun i hi => h i (by omega))
    have b := h m (by omega)
    rw [List.replicate_succ', List.flatten_append, Nat.succ_mul, List.take_add]
    refine a.append ?_
    simpa using b
theorem leaves : ∀ (n : Nat) (t : TypeId) (l : List TypeId), leavesOf P n t = some l → ∀ (fuel : Nat) (cs : List Value) (x : DataW H × List MemPlace), DataW.trod enc P w base spare held fuel t cs = some x → Leaves (Reads1 enc P w base spare held) l cs := by
  intro n
  induction n with
  | zero => intro t l h; cases h
  | succ n ih =>
    intro t l h fuel cs x hx
    unfold leavesOf at h
    cases ht : P.underlying t with
    | none => rw [ht] at h; cases h
    | some u =>
      rw [ht] at h
      by_cases hs : ∃ fs, u = .struct fs
      · obtain ⟨fs, rfl⟩ := hs
        simp only at h
        cases h1 : leavesF P (leavesOf P n) fs.toList 0 with
        | none => rw [h1] at h; cases h
        | some l1 =>
          rw [h1] at h
          simp only [Option.bind_some] at h
          by_cases hc : P.cellsOf t = l1.length
          · rw [if_pos hc] at h
            obtain rfl := Option.some.inj h
            obtain ⟨xs, m, _, _, hl, hxl, hf⟩ := DataW.trod_struct ht hx
            have a := leaves_fields ih cs fs.toList 0 l1 h1 (fun fd hfd => by
              obtain ⟨i, hi, e⟩ := List.mem_iff_getElem.mp hfd
              have e' : fs[i]? = some fd := by rw [← e]; simp at hi ⊢
              have k := hf i fd e'
              have hi' : i < xs.length := by simp at hi; omega
              exact ⟨m, xs[i], by rw [k, List.getElem?_eq_getElem hi']⟩)
            rw [List.drop_zero, List.take_of_length_le (by omega)] at a
            exact a
          · rw [if_neg hc] at h; cases h
      · by_cases ha : ∃ m e, u = .array m e
        · obtain ⟨m, e, rfl⟩ := ha
          simp only at h
          cases h1 : leavesOf P n e with
          | none => rw [h1] at h; cases h
          | some l1 =>
            rw [h1] at h
            simp only [Option.bind_some] at h
            by_cases hc : P.cellsOf e = l1.length ∧ P.cellsOf t = m * l1.length
            · rw [if_pos hc] at h
              obtain rfl := Option.some.inj h
              obtain ⟨xs, q, _, _, hl, hxl, hf⟩ := DataW.trod_array ht hx
              have a := leaves_array (enc := enc) (P := P) (w := w) (base := base) (spare := spare) (held := held) (l := l1) cs m (fun i hi => by
                have k := hf i hi
                rw [hc.1] at k
                have hi' : i < xs.length := by omega
                exact ih _ _ h1 _ _ _ (k.trans (List.getElem?_eq_getElem hi')))
              rw [List.take_of_length_le (by omega)] at a
              exact a
            · rw [if_neg hc] at h; cases h
        · cases u with
          | bool =>
            obtain rfl := Option.some.inj h
            obtain ⟨b, rfl, _⟩ := DataW.trod_bool ht hx
            exact ⟨⟨_, _, hx⟩, trivial⟩
          | int k =>
            obtain rfl := Option.some.inj h
            obtain ⟨b, rfl, _⟩ := DataW.trod_int ht hx
            exact ⟨⟨_, _, hx⟩, trivial⟩
          | string =>
            obtain rfl := Option.some.inj h
            obtain ⟨b, rfl, _⟩ := DataW.trod_string ht hx
            exact ⟨⟨_, _, hx⟩, trivial⟩
          | slice e =>
            obtain rfl := Option.some.inj h
            rcases DataW.trod_slice ht hx with ⟨rfl, _⟩ | ⟨a, len, cap, el, re, m, _, rfl, _⟩
            · exact ⟨⟨_, _, hx⟩, trivial⟩
            · exact ⟨⟨_, _, hx⟩, trivial⟩
          | struct fs => exact absurd ⟨_, rfl⟩ hs
          | array m e => exact absurd ⟨_, _, rfl⟩ ha
          | _ => cases h
theorem Reads1.int {u : TypeId} {k : IntKind} {c : Value} (ht : P.underlying u = some (.int k)) (h : Reads1 enc P w base spare held u c) : ∃ n, c = .int k n ∧ (Lit.int k n).wf = true := by
  obtain ⟨m, y, h⟩ := h
  obtain ⟨n, e, _, hw⟩ := DataW.trod_int ht h
  exact ⟨n, (List.cons.inj e).1, hw⟩
theorem Reads1.bool {u : TypeId} {c : Value} (ht : P.underlying u = some .bool) (h : Reads1 enc P w base spare held u c) : ∃ b, c = .bool b := by
  obtain ⟨m, y, h⟩ := h
  obtain ⟨n, e, _⟩ := DataW.trod_bool ht h
  exact ⟨n, (List.cons.inj e).1⟩
theorem Reads1.string {u : TypeId} {c : Value} (ht : P.underlying u = some .string) (h : Reads1 enc P w base spare held u c) : ∃ s : ByteArray, c = .string s ∧ s.size ≤ maxLen := by
  obtain ⟨m, y, h⟩ := h
  obtain ⟨n, e, _, hw⟩ := DataW.trod_string ht h
  exact ⟨n, (List.cons.inj e).1, hw⟩
theorem okWide_agg {r : Reach} {b0 : Nat} {t : TypeId} {v : Value} (ht : (∃ fs, P.underlying t = some (.struct fs)) ∨ ∃ m e, P.underlying t = some (.array m e)) (h : Value.okWide P w r b0 t v) : ∃ cs, v = .agg cs ∧ cs.size = P.cellsOf t := by
  rcases ht with ⟨fs, ht⟩ | ⟨m, e, ht⟩ <;>
  · simp only [Value.okWide, ht] at h
    obtain ⟨cs, h1, h2, _⟩ := h
    exact ⟨cs, h1, h2⟩
theorem open_leaves {r : Reach} {b0 : Nat} {t : TypeId} {l : List TypeId} {v : Value} {d : DataW H} {p : List MemPlace} (hl : leavesOf P 9 t = some l) (ht : (∃ fs, P.underlying t = some (.struct fs)) ∨ ∃ m e, P.underlying t = some (.array m e)) (hv : Value.okWide P w r b0 t v) (h : DataW.Trod enc P w base spare held t v d p) :
    ∃ cs : List Value, v = .agg cs.toArray ∧ Leaves (Reads1 enc P w base spare held) l cs := by
  obtain ⟨cs, rfl, _⟩ := okWide_agg ht hv
  obtain ⟨fuel, hf⟩ := h
  exact ⟨cs.toList, by simp, leaves 9 t l hl fuel _ _ hf⟩
theorem trodAll_stays (hl : laidOutB P = true) {W W' : World} (hb : Below W.heap.size W W') : ∀ {ts : List TypeId} {vs : List Value} {ds : List (DataW H)} {ps : List MemPlace}, (∀ t ∈ ts, P.readableRec t = true ∧ t < P.types.size) →
    DataW.TrodAll enc P W 0 (fun _ => true) true ts vs ds ps → DataW.TrodAll enc P W' 0 (fun b => decide (b < W.heap.size)) true ts vs ds ps
  | [], [], [], _, _, h => h
  | t :: ts, v :: vs, d :: ds, ps, hr, h => by
    obtain ⟨p, q, h1, h2, e⟩ := h
    have lt : ∀ x ∈ p, x.block < W.heap.size := by obtain ⟨m, hm⟩ := h1; exact DataW.trod_lt m _ _ _ hm
    exact ⟨p, q, Below.trod hl (hr t (List.mem_cons_self ..)).1 (hr t (List.mem_cons_self ..)).2 h1 hb lt, trodAll_stays hl hb (fun u hu => hr u (List.mem_cons_of_mem _ hu)) h2, e⟩
  | [], _ :: _, _, _, _, h => by simp [DataW.TrodAll] at h
  | [], [], _ :: _, _, _, h => by simp [DataW.TrodAll] at h
  | _ :: _, [], _, _, _, h => by simp [DataW.TrodAll] at h
  | _ :: _, _ :: _, [], _, _, h => by simp [DataW.TrodAll] at h
end
theorem Tryd.own : ownKnob Tryd.prog.godebug = none := by kernel_rfl
theorem Tryd.laidOut : laidOutB Tryd.prog = true := by kernel_rfl
theorem Tryd.et : Tryd.prog.globalNamed "errors.errorType" = some 0 := by kernel_rfl
theorem Tryd.rt : (Tryd.prog.cutTypes.find? (·.1 == "internal/reflectlite.rtype")).map (·.2) = some 188 := by kernel_rfl
theorem Tryd.oneRow : ((List.range 268).filter fun t => Tryd.prog.rowNamed t [101, 114, 114, 111, 114]) = [32] := by kernel_rfl
theorem Tryd.size : Tryd.prog.types.size = 268 := by kernel_rfl
def laidL : List (String × DataW Unit) := [("errors.errorType", Rows.laid_errors_errorType)]
theorem laid_of {W : World} (h : laidMetH Tryd.prog laidL W) : LaidW W := by
  have h' : laidMet Tryd.prog [] W ∧ handlesMet Tryd.prog laidL W := h
  obtain ⟨name, u, ty, e1, e2, e3, e4, e5⟩ := h'.2 _ (List.mem_singleton.2 rfl)
  have en : name = [101, 114, 114, 111, 114] := (Option.some.inj e1).symm
  subst en
  obtain rfl := Option.some.inj (Tryd.rt.symm.trans e2)
  have hm : ty ∈ (List.range 268).filter fun t => Tryd.prog.rowNamed t [101, 114, 114, 111, 114] := List.mem_filter.2 ⟨List.mem_range.2 (by rw [← Tryd.size]; exact e3), e4⟩
  rw [Tryd.oneRow] at hm
  obtain rfl := List.mem_singleton.1 hm
  have hh : typeHandle Tryd.prog 32 = .pointer (some ⟨6, 32, none⟩) := by kernel_rfl
  rw [hh] at e5
  have := World.var?_cell Tryd.et e5 0
  unfold LaidW
  simpa using this
noncomputable def laidWorld (os : Os) : World :=
  let w0 := World.holding Tryd.prog os ⟨#[], #[], []⟩
  { w0 with heap := w0.heap.modify 0 fun
      | .cells _ t frozen => .cells #[.iface 188 (.agg #[.pointer (some ⟨6, 32, none⟩)])] t frozen
      | o => o }
theorem laidWorld_met (os : Os) (args : Array Value) : laidMetH Tryd.prog laidL ((laidWorld os).forCall (fun _ _ => 0) ⟨#[], args, []⟩).memory :=
  laidMetH_of_parts (laidMet_nil _ _) (by kernel_rfl)
end Go.Proofs.YtmdnnlfoljdfpaaDoor
