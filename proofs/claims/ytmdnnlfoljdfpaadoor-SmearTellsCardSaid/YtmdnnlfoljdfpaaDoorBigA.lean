/- Package fuseeref02's functions on rows of digits. -/
import Derived.Test.YtmdnnlfoljdfpaaDoorProg
import Derived.Test.YtmdnnlfoljdfpaaDoorMath
import Derived.Test.YtmdnnlfoljdfpaaDoorBig
import Derived.Lib.Hide
import Derived.Deep.QuietTactic
import Derived.BigQuiet
namespace Go.Proofs.YtmdnnlfoljdfpaaDoor
open Go.RowKit

/-- The row of a block. -/
theorem row_cell {w : World} {b : Nat} {f : Nat → Int} {t : TypeId} (h : w.heap[b]? = some (.cells (rowF f) t)) (k : Nat) (hk : k < 8) :
    w.cell? ⟨b, k, none⟩ = some (.int .u64 (f k)) := by
  simp [World.cell?, h, rowF_get f k hk]
theorem row_frozen {w : World} {b : Nat} {c : Array Value} {t : TypeId} (h : w.heap[b]? = some (.cells c t)) (k : Nat) :
    w.frozen? ⟨b, k, none⟩ = false := by
  simp [World.frozen?, h]
theorem row_new {w : World} {o : Obj} {n : Nat} (hn : n = w.heap.size) : (w.alloc o).heap[n]? = some o := by
  subst hn
  show (w.heap.push o)[w.heap.size]? = some o
  simp
theorem row_past {w : World} {o x : Obj} {n : Nat} (h : w.heap[n]? = some x) : (w.alloc o).heap[n]? = some x := by
  rw [Below.heap_alloc _ _ _ (Array.getElem?_eq_some_iff.1 h).1, h]
theorem row_drewN {w : World} {x : Obj} {n : Nat} (q : Nat) (h : w.heap[n]? = some x) : (w.drewN q).heap[n]? = some x := h
theorem row_drew {w : World} {x : Obj} {n : Nat} (h : w.heap[n]? = some x) : (w.drew).heap[n]? = some x := h
theorem row_other {w : World} {a : Addr} {v : Value} {x : Obj} {n : Nat} (h : w.heap[n]? = some x) (hn : n ≠ a.block) : (w.setCell a v).heap[n]? = some x := by
  rw [Below.heap_setCell _ _ _ _ hn, h]
theorem row_set {w : World} {b k : Nat} {v : Value} {c : Array Value} {t : TypeId} (h : w.heap[b]? = some (.cells c t)) :
    (w.setCell ⟨b, k, none⟩ v).heap[b]? = some (.cells (c.setIfInBounds k v) t) := by
  simp [World.setCell, Array.getElem?_modify, h]
theorem row_cells {w : World} {b : Nat} {f : Nat → Int} {t : TypeId} (h : w.heap[b]? = some (.cells (rowF f) t)) :
    w.cell? ⟨b, 0, none⟩ = some (.int .u64 (f 0)) ∧ w.cell? ⟨b, 1, none⟩ = some (.int .u64 (f 1)) ∧ w.cell? ⟨b, 2, none⟩ = some (.int .u64 (f 2)) ∧ w.cell? ⟨b, 3, none⟩ = some (.int .u64 (f 3)) ∧ w.cell? ⟨b, 4, none⟩ = some (.int .u64 (f 4)) ∧ w.cell? ⟨b, 5, none⟩ = some (.int .u64 (f 5)) ∧ w.cell? ⟨b, 6, none⟩ = some (.int .u64 (f 6)) ∧ w.cell? ⟨b, 7, none⟩ = some (.int .u64 (f 7)) :=
  ⟨row_cell h 0 (by omega), row_cell h 1 (by omega), row_cell h 2 (by omega), row_cell h 3 (by omega), row_cell h 4 (by omega), row_cell h 5 (by omega), row_cell h 6 (by omega), row_cell h 7 (by omega)⟩
theorem row_of {w : World} {b : Nat} {c : Array Value} {t : TypeId} (h : w.heap[b]? = some (.cells c t)) (c' : Array Value) (e : c = c') : w.heap[b]? = some (.cells c' t) := e ▸ h
/-- What a result's own block holds. -/
theorem ret_cell {P : Program} {fn : Func} {s : Nat} {ty : TypeId} {a : Addr} {tmps : Array Value} {w : World} {v : Value} (hr : fn.results = #[.cell s ty])
    (hs : tmps.getD s undef = .pointer (some a)) (hl : (loadVar ty a).run P w = .ok v w) : (results fn tmps).run P w = .ok v w := by
  have hs' : tmps[s]?.getD undef = .pointer (some a) := by simpa using hs
  simp only [results, hr]
  simp [hs', asAddr, hl]
theorem load65 {w : World} {b : Nat} {c : Array Value} {t : TypeId} (h : w.heap[b]? = some (.cells c t)) (hc : c.size = 8) :
    (loadVar 157 ⟨b, 0, none⟩).run Tryd.prog w = .ok (.agg c) w :=
  run_loadVar_row w b t _ c (0, 0) _ h Tryd.underlying157 rfl (by rw [hc]; kernel_rfl)
theorem below_set8 {B : Nat} {a w : World} {b : Nat} {v0 v1 v2 v3 v4 v5 v6 v7 : Value} {o0 o1 o2 o3 o4 o5 o6 o7 : Nat} (h : Below B a w) (hb : B ≤ b) :
    Below B a ((((((((w.setCell ⟨b, o0, none⟩ v0).setCell ⟨b, o1, none⟩ v1).setCell ⟨b, o2, none⟩ v2).setCell ⟨b, o3, none⟩ v3).setCell ⟨b, o4, none⟩ v4).setCell ⟨b, o5, none⟩ v5).setCell ⟨b, o6, none⟩ v6).setCell ⟨b, o7, none⟩ v7) :=
  ((((((((h.setCell hb _).setCell hb _).setCell hb _).setCell hb _).setCell hb _).setCell hb _).setCell hb _).setCell hb _)
set_option maxHeartbeats 2000000 in
theorem ref_plus (m n : Int) (w : World) :
    Calls Tryd.prog 137 #[.agg (dgs m), .agg (dgs n)] w fun e w' => e = .returned (.agg (dgs (m + n))) ∧ Below w.heap.size w w' := by
  unfold dgs rowF
  go_enter Tryd.func137, Tryd.ntmps137
  go_wp2
  go_loopw [5, 6] (fun c i wr => ∃ k : Nat, k ≤ 8 ∧ i = .int .i64 k ∧ c = .int .u64 (carI 1 1 0 m n k) ∧ wr.heap[w.heap.size]? = some (.cells (rowF (mixF (m + n) m k)) 157) ∧ wr.heap[w.heap.size + 1]? = some (.cells (rowF (dgI n)) 157) ∧ wr.heap[w.heap.size + 1 + 1]? = some (.cells (rowF fun _ => 0) 157) ∧ Below w.heap.size w wr) (fun _ i _ => 8 - (intOf i).toNat)
  case atStart =>
    refine ⟨0, by omega, rfl, by rw [car_zero], ?_, ?_, ?_, by repeat (first | exact Below.refl _ _ | assumption | (refine Below.alloc ?_ (by first | omega | (simp; done) | (simp; omega) | (simp at *; omega)) _) | (refine Below.setCell ?_ (by first | omega | (simp; done) | (simp; omega) | (simp at *; omega)) _) | (refine Below.trans ?_ (below_drewN _ _ _)) | (refine Below.drew ?_) | (refine Below.trans ?_ (Below.mono (by assumption) (by first | omega | (simp; done) | (simp; omega) | (simp at *; omega)))))⟩
    · rw [mixF_zero]
      exact row_past (row_past (row_new rfl))
    · exact row_past (row_new (by simp))
    · exact row_new (by simp)
  case round =>
    obtain ⟨k, hk, rfl, rfl, r0, r1, r2, hb⟩ := hrel
    by_cases h8 : k < 8
    · have c0 := row_cell r0 k h8
      rw [mixF_at] at c0
      have c1 := row_cell r1 k h8
      have f0 := row_frozen r0 k
      go_wp2
      go_quiet (fail)
      go_wp2
      have e1 : IntKind.u64.wrap (IntKind.u64.wrap (dgI m k + dgI n k) + carI 1 1 0 m n k) = dgI m k + dgI n k + carI 1 1 0 m n k := by
        have := dgI_nn m k; have := dgI_lt m k; have := dgI_nn n k; have := dgI_lt n k; have := car_add m n k
        rw [IntKind.wrap_u64, IntKind.wrap_u64]
        omega
      have e2 : 0 ≤ dgI m k + dgI n k + carI 1 1 0 m n k := by
        have := dgI_nn m k; have := dgI_nn n k; have := car_add m n k
        omega
      have e3 := car_succ 1 1 0 m n k
      have e4 := dg_sum 1 1 0 m n k
      simp only [Int.one_mul, Int.add_zero] at e3 e4
      rw [e1, Int.tdiv_eq_ediv_of_nonneg e2, Int.tmod_eq_emod_of_nonneg e2, ← e3, ← e4]
      refine ⟨⟨k + 1, by omega, by go_num, congrArg (Value.int IntKind.u64) (by rw [IntKind.wrap_u64]; have := car_add m n (k + 1); omega), ?_, ?_, ?_, by repeat (first | exact Below.refl _ _ | assumption | (refine Below.alloc ?_ (by first | omega | (simp; done) | (simp; omega) | (simp at *; omega)) _) | (refine Below.setCell ?_ (by first | omega | (simp; done) | (simp; omega) | (simp at *; omega)) _) | (refine Below.trans ?_ (below_drewN _ _ _)) | (refine Below.drew ?_) | (refine Below.trans ?_ (Below.mono (by assumption) (by first | omega | (simp; done) | (simp; omega) | (simp at *; omega)))))⟩, by simp [intOf]; omega⟩
      · rw [row_set (row_drewN _ r0), mix_step' _ _ _ h8]
      · exact row_other (row_drewN _ r1) (by simp)
      · exact row_other (row_drewN _ r2) (by simp; omega)
    · have h9 : k = 8 := by omega
      subst h9
      rw [mixF_all] at r0
      obtain ⟨c0, c1, c2, c3, c4, c5, c6, c7⟩ := row_cells r0
      have fz := row_frozen r2
      clear r0 r1
      obtain ⟨z0, z1, z2, z3, z4, z5, z6, z7⟩ := row_cells r2
      have r2H := Lib.hid r2
      clear r2
      go_wp2
      have rz := row_set (k := 7) (v := .int .u64 (dgI (m + n) 7)) (row_set (k := 6) (v := .int .u64 (dgI (m + n) 6)) (row_set (k := 5) (v := .int .u64 (dgI (m + n) 5)) (row_set (k := 4) (v := .int .u64 (dgI (m + n) 4)) (row_set (k := 3) (v := .int .u64 (dgI (m + n) 3)) (row_set (k := 2) (v := .int .u64 (dgI (m + n) 2)) (row_set (k := 1) (v := .int .u64 (dgI (m + n) 1)) (row_set (k := 0) (v := .int .u64 (dgI (m + n) 0)) r2H.out)))))))
      refine bp_ret ?_ rfl
      refine ⟨.agg (dgs (m + n)), ret_cell (a := ⟨w.heap.size + 1 + 1, 0, none⟩) Tryd.results137 ?_ (load65 (row_of rz (dgs (m + n)) ?_) ?_), ?_, ?_⟩
      · simp
      · rfl
      · rfl
      · rfl
      · exact below_set8 hb (by omega)
theorem ref_one (w : World) :
    Calls Tryd.prog 138 #[] w fun e w' => e = .returned (.agg (dgs 1)) ∧ Below w.heap.size w w' := by
  go_enter Tryd.func138, Tryd.ntmps138
  go_wp2
  refine bp_ret ⟨.agg (dgs 1), ?_, rfl, ?_⟩ rfl
  · simp [results, Tryd.results138, go_sem]
    rfl
  · repeat (first | exact Below.refl _ _ | assumption | (refine Below.alloc ?_ (by first | omega | (simp; done) | (simp; omega) | (simp at *; omega)) _) | (refine Below.setCell ?_ (by first | omega | (simp; done) | (simp; omega) | (simp at *; omega)) _) | (refine Below.trans ?_ (below_drewN _ _ _)) | (refine Below.drew ?_) | (refine Below.trans ?_ (Below.mono (by assumption) (by first | omega | (simp; done) | (simp; omega) | (simp at *; omega)))))
set_option maxHeartbeats 2000000 in
theorem ref_less (m n : Int) (w : World) :
    Calls Tryd.prog 121 #[.agg (dgs m), .agg (dgs n)] w fun e w' => e = .returned (.agg (dgs (m - n))) ∧ Below w.heap.size w w' := by
  unfold dgs rowF
  go_enter Tryd.func121, Tryd.ntmps121
  go_wp2
  go_loopw [5, 6] (fun c i wr => ∃ k : Nat, k ≤ 8 ∧ i = .int .i64 k ∧ c = .int .u64 (-carI 1 (-1) 0 m n k) ∧ wr.heap[w.heap.size]? = some (.cells (rowF (mixF (m - n) m k)) 157) ∧ wr.heap[w.heap.size + 1]? = some (.cells (rowF (dgI n)) 157) ∧ wr.heap[w.heap.size + 1 + 1]? = some (.cells (rowF fun _ => 0) 157) ∧ Below w.heap.size w wr) (fun _ i _ => 8 - (intOf i).toNat)
  case atStart =>
    refine ⟨0, by omega, rfl, by rw [car_zero]; rfl, ?_, ?_, ?_, by repeat (first | exact Below.refl _ _ | assumption | (refine Below.alloc ?_ (by first | omega | (simp; done) | (simp; omega) | (simp at *; omega)) _) | (refine Below.setCell ?_ (by first | omega | (simp; done) | (simp; omega) | (simp at *; omega)) _) | (refine Below.trans ?_ (below_drewN _ _ _)) | (refine Below.drew ?_) | (refine Below.trans ?_ (Below.mono (by assumption) (by first | omega | (simp; done) | (simp; omega) | (simp at *; omega)))))⟩
    · rw [mixF_zero]
      exact row_past (row_past (row_new rfl))
    · exact row_past (row_new (by simp))
    · exact row_new (by simp)
  case round =>
    obtain ⟨k, hk, rfl, rfl, r0, r1, r2, hb⟩ := hrel
    by_cases h8 : k < 8
    · have c0 := row_cell r0 k h8
      rw [mixF_at] at c0
      have c1 := row_cell r1 k h8
      have f0 := row_frozen r0 k
      go_wp2
      go_quiet (fail)
      go_wp2
      have b1 := dgI_nn m k; have b2 := dgI_lt m k; have b3 := dgI_nn n k; have b4 := dgI_lt n k; have b5 := car_sub m n k
      have e1 : IntKind.u64.wrap (IntKind.u64.wrap (IntKind.u64.wrap (4294967296 + dgI m k) - dgI n k) + carI 1 (-1) 0 m n k) = 4294967296 + (dgI m k + -1 * dgI n k + carI 1 (-1) 0 m n k) := by
        rw [IntKind.wrap_u64, IntKind.wrap_u64, IntKind.wrap_u64]
        omega
      have e2 : 0 ≤ 4294967296 + (dgI m k + -1 * dgI n k + carI 1 (-1) 0 m n k) := by omega
      have e3 := car_succ 1 (-1) 0 m n k
      have e4 := dg_sum 1 (-1) 0 m n k
      have e5 : 1 * m + -1 * n + 0 = m - n := by omega
      have e6 := car_sub m n (k + 1)
      rw [e5] at e4
      simp only [Int.one_mul] at e3 e4
      rw [e1, Int.tdiv_eq_ediv_of_nonneg e2, Int.tmod_eq_emod_of_nonneg e2, Int.add_emod_left, Int.add_ediv_of_dvd_left (by omega), ← e3, ← e4]
      refine ⟨⟨k + 1, by omega, by go_num, congrArg (Value.int IntKind.u64) (by simp only [IntKind.wrap_u64]; omega), ?_, ?_, ?_, by repeat (first | exact Below.refl _ _ | assumption | (refine Below.alloc ?_ (by first | omega | (simp; done) | (simp; omega) | (simp at *; omega)) _) | (refine Below.setCell ?_ (by first | omega | (simp; done) | (simp; omega) | (simp at *; omega)) _) | (refine Below.trans ?_ (below_drewN _ _ _)) | (refine Below.drew ?_) | (refine Below.trans ?_ (Below.mono (by assumption) (by first | omega | (simp; done) | (simp; omega) | (simp at *; omega)))))⟩, by simp [intOf]; omega⟩
      · rw [row_set (row_drewN _ r0), mix_step' _ _ _ h8]
      · exact row_other (row_drewN _ r1) (by simp)
      · exact row_other (row_drewN _ r2) (by simp; omega)
    · have h9 : k = 8 := by omega
      subst h9
      rw [mixF_all] at r0
      obtain ⟨c0, c1, c2, c3, c4, c5, c6, c7⟩ := row_cells r0
      have fz := row_frozen r2
      clear r0 r1
      obtain ⟨z0, z1, z2, z3, z4, z5, z6, z7⟩ := row_cells r2
      have r2H := Lib.hid r2
      clear r2
      go_wp2
      have rz := row_set (k := 7) (v := .int .u64 (dgI (m - n) 7)) (row_set (k := 6) (v := .int .u64 (dgI (m - n) 6)) (row_set (k := 5) (v := .int .u64 (dgI (m - n) 5)) (row_set (k := 4) (v := .int .u64 (dgI (m - n) 4)) (row_set (k := 3) (v := .int .u64 (dgI (m - n) 3)) (row_set (k := 2) (v := .int .u64 (dgI (m - n) 2)) (row_set (k := 1) (v := .int .u64 (dgI (m - n) 1)) (row_set (k := 0) (v := .int .u64 (dgI (m - n) 0)) r2H.out)))))))
      refine bp_ret ?_ rfl
      refine ⟨.agg (dgs (m - n)), ret_cell (a := ⟨w.heap.size + 1 + 1, 0, none⟩) Tryd.results121 ?_ (load65 (row_of rz (dgs (m - n)) ?_) ?_), ?_, ?_⟩
      · simp
      · rfl
      · rfl
      · rfl
      · exact below_set8 hb (by omega)
set_option maxHeartbeats 2000000 in
theorem ref_twice (m r : Int) (hr0 : 0 ≤ r) (hr1 : r ≤ 1) (w : World) :
    Calls Tryd.prog 119 #[.agg (dgs m), .int .u64 r] w fun e w' => e = .returned (.agg (dgs (2 * m + r))) ∧ Below w.heap.size w w' := by
  unfold dgs rowF
  go_enter Tryd.func119, Tryd.ntmps119
  go_wp2
  go_loopw [1, 5] (fun c i wr => ∃ k : Nat, k ≤ 8 ∧ i = .int .i64 k ∧ c = .int .u64 (carI 2 0 r m 0 k) ∧ wr.heap[w.heap.size]? = some (.cells (rowF (mixF (2 * m + r) m k)) 157) ∧ wr.heap[w.heap.size + 1]? = some (.cells (rowF fun _ => 0) 157) ∧ Below w.heap.size w wr) (fun _ i _ => 8 - (intOf i).toNat)
  case atStart =>
    refine ⟨0, by omega, rfl, by rw [car_zero], ?_, ?_, by repeat (first | exact Below.refl _ _ | assumption | (refine Below.alloc ?_ (by first | omega | (simp; done) | (simp; omega) | (simp at *; omega)) _) | (refine Below.setCell ?_ (by first | omega | (simp; done) | (simp; omega) | (simp at *; omega)) _) | (refine Below.trans ?_ (below_drewN _ _ _)) | (refine Below.drew ?_) | (refine Below.trans ?_ (Below.mono (by assumption) (by first | omega | (simp; done) | (simp; omega) | (simp at *; omega)))))⟩
    · rw [mixF_zero]
      exact row_past (row_new rfl)
    · exact row_new (by simp)
  case round =>
    obtain ⟨k, hk, rfl, rfl, r0, r2, hb⟩ := hrel
    by_cases h8 : k < 8
    · have c0 := row_cell r0 k h8
      rw [mixF_at] at c0
      have f0 := row_frozen r0 k
      go_wp2
      have b1 := dgI_nn m k; have b2 := dgI_lt m k; have b5 := car_dbl m r hr0 hr1 k
      have e1 : IntKind.u64.wrap (IntKind.u64.wrap (2 * dgI m k) + carI 2 0 r m 0 k) = 2 * dgI m k + 0 * dgI 0 k + carI 2 0 r m 0 k := by
        rw [IntKind.wrap_u64, IntKind.wrap_u64]
        omega
      have e2 : 0 ≤ 2 * dgI m k + 0 * dgI 0 k + carI 2 0 r m 0 k := by omega
      have e3 := car_succ 2 0 r m 0 k
      have e4 := dg_sum 2 0 r m 0 k
      have e5 : 2 * m + 0 * 0 + r = 2 * m + r := by omega
      have e6 := car_dbl m r hr0 hr1 (k + 1)
      rw [e5] at e4
      rw [e1, Int.tdiv_eq_ediv_of_nonneg e2, Int.tmod_eq_emod_of_nonneg e2, ← e3, ← e4]
      refine ⟨⟨k + 1, by omega, by go_num, congrArg (Value.int IntKind.u64) (by simp only [IntKind.wrap_u64]; omega), ?_, ?_, by repeat (first | exact Below.refl _ _ | assumption | (refine Below.alloc ?_ (by first | omega | (simp; done) | (simp; omega) | (simp at *; omega)) _) | (refine Below.setCell ?_ (by first | omega | (simp; done) | (simp; omega) | (simp at *; omega)) _) | (refine Below.trans ?_ (below_drewN _ _ _)) | (refine Below.drew ?_) | (refine Below.trans ?_ (Below.mono (by assumption) (by first | omega | (simp; done) | (simp; omega) | (simp at *; omega)))))⟩, by simp [intOf]; omega⟩
      · rw [row_set r0, mix_step' _ _ _ h8]
      · exact row_other r2 (by simp)
    · have h9 : k = 8 := by omega
      subst h9
      rw [mixF_all] at r0
      obtain ⟨c0, c1, c2, c3, c4, c5, c6, c7⟩ := row_cells r0
      have fz := row_frozen r2
      clear r0
      obtain ⟨z0, z1, z2, z3, z4, z5, z6, z7⟩ := row_cells r2
      have r2H := Lib.hid r2
      clear r2
      go_wp2
      have rz := row_set (k := 7) (v := .int .u64 (dgI (2 * m + r) 7)) (row_set (k := 6) (v := .int .u64 (dgI (2 * m + r) 6)) (row_set (k := 5) (v := .int .u64 (dgI (2 * m + r) 5)) (row_set (k := 4) (v := .int .u64 (dgI (2 * m + r) 4)) (row_set (k := 3) (v := .int .u64 (dgI (2 * m + r) 3)) (row_set (k := 2) (v := .int .u64 (dgI (2 * m + r) 2)) (row_set (k := 1) (v := .int .u64 (dgI (2 * m + r) 1)) (row_set (k := 0) (v := .int .u64 (dgI (2 * m + r) 0)) r2H.out)))))))
      refine bp_ret ?_ rfl
      refine ⟨.agg (dgs (2 * m + r)), ret_cell (a := ⟨w.heap.size + 1, 0, none⟩) Tryd.results119 ?_ (load65 (row_of rz (dgs (2 * m + r)) ?_) ?_), ?_, ?_⟩
      · simp
      · rfl
      · rfl
      · rfl
      · exact below_set8 hb (by omega)
set_option maxHeartbeats 2000000 in
theorem ref_Size (m n : Int) (m0 : 0 ≤ m) (m1 : m < 4294967296 ^ 8) (n0 : 0 ≤ n) (n1 : n < 4294967296 ^ 8) (w : World) :
    Calls Tryd.prog 120 #[.agg (dgs m), .agg (dgs n)] w fun e w' => e = .returned (.int .i64 (szZ m n)) ∧ Below w.heap.size w w' := by
  have t1 := Lib.hid (div_top m m0 8 m1)
  have t2 := Lib.hid (div_top n n0 8 n1)
  clear m1 n1
  unfold dgs rowF
  go_enter Tryd.func120, Tryd.ntmps120
  go_wp2
  go_loopw [5] (fun i wr => ∃ k : Nat, k ≤ 8 ∧ i = .int .i64 ((k : Int) - 1) ∧ Hid (m / 4294967296 ^ k = n / 4294967296 ^ k) ∧ wr.heap[w.heap.size]? = some (.cells (rowF (dgI m)) 157) ∧ wr.heap[w.heap.size + 1]? = some (.cells (rowF (dgI n)) 157) ∧ Below w.heap.size w wr) (fun i _ => (intOf i + 1).toNat)
  case atStart =>
    refine ⟨8, by omega, rfl, (t1.out.trans t2.out.symm : _ = _), ?_, ?_, by repeat (first | exact Below.refl _ _ | assumption | (refine Below.alloc ?_ (by first | omega | (simp; done) | (simp; omega) | (simp at *; omega)) _) | (refine Below.setCell ?_ (by first | omega | (simp; done) | (simp; omega) | (simp at *; omega)) _) | (refine Below.trans ?_ (below_drewN _ _ _)) | (refine Below.drew ?_) | (refine Below.trans ?_ (Below.mono (by assumption) (by first | omega | (simp; done) | (simp; omega) | (simp at *; omega)))))⟩
    · exact row_past (row_new rfl)
    · exact row_new (by simp)
  case round =>
    obtain ⟨k, hk, rfl, hq, r0, r1, hb⟩ := hrel
    rcases k with _ | j
    · have hq := hq.out
      simp only [Int.pow_zero, Int.ediv_one] at hq
      subst hq
      go_wp2
      refine bp_ret ⟨?_, ?_, ?_, ?_⟩ rfl; rotate_left
      · (simp [results, Tryd.results120, go_sem, *]; rfl)
      rotate_left
      · repeat (first | exact Below.refl _ _ | assumption | (refine Below.alloc ?_ (by first | omega | (simp; done) | (simp; omega) | (simp at *; omega)) _) | (refine Below.setCell ?_ (by first | omega | (simp; done) | (simp; omega) | (simp at *; omega)) _) | (refine Below.trans ?_ (below_drewN _ _ _)) | (refine Below.drew ?_) | (refine Below.trans ?_ (Below.mono (by assumption) (by first | omega | (simp; done) | (simp; omega) | (simp at *; omega)))))
      · rw [szZ_eq]
    · have e : ((j + 1 : Nat) : Int) - 1 = (j : Int) := by omega
      rw [e]
      clear e
      have c0 := row_cell r0 j (by omega)
      have c1 := row_cell r1 j (by omega)
      rcases Int.lt_trichotomy (dgI m j) (dgI n j) with h | h | h
      · have hL := Lib.hid (szZ_lt (dg_lt n m j hq.out.symm h))
        have h' : ¬ dgI n j < dgI m j := by omega
        go_wp2
        go_quiet (fail)
        go_wp2
        go_quiet (fail)
        go_wp2
        refine bp_ret ?_ rfl
        refine ⟨.int .i64 (-1), ?_, ?_, ?_⟩
        · simp [results, Tryd.results120, go_sem]
        · rw [hL.out]
        · exact (hb.trans (below_drewN _ _ _)).trans (below_drewN _ _ _)
      · have hL := Lib.hid (dg_same m n j hq.out h.symm)
        rw [h] at c0
        have h' : ¬ dgI n j < dgI n j := by omega
        clear h
        go_wp2
        go_quiet (fail)
        go_wp2
        go_quiet (fail)
        go_wp2
        refine ⟨⟨j, by omega, by go_num, hL, r0, r1, hb.trans (below_drewN _ _ _)⟩, by simp [intOf]⟩
      · have hL := Lib.hid (szZ_gt (dg_lt m n j hq.out h))
        go_wp2
        go_quiet (fail)
        go_wp2
        refine bp_ret ?_ rfl
        refine ⟨.int .i64 1, ?_, ?_, ?_⟩
        · simp [results, Tryd.results120, go_sem]
        · rw [hL.out]
        · exact hb.trans (below_drewN _ _ _)
end Go.Proofs.YtmdnnlfoljdfpaaDoor
