/- Package fuseeref02's functions on signs and rows of digits: From, Int, Add. -/
import Derived.Test.YtmdnnlfoljdfpaaDoorBigA
import Derived.Deep.DeepCutAuto
import Derived.Deep.CutBlock
import Derived.Deep.RegionHeld3
import Derived.Deep.RegionWith
namespace Go.Proofs.YtmdnnlfoljdfpaaDoor
open Go.RowKit

/-- A world by what is known of it. -/
theorem wp_gen {P : Program} {c : Code} {Q : Exit → Act → World → Prop} {a : Act} {W : World} (R : World → Prop) (h : R W) (k : ∀ wc, R wc → Code.wp P c Q a wc) : Code.wp P c Q a W := k W h
theorem load67 {w : World} {b : Nat} {c : Array Value} {t : TypeId} (h : w.heap[b]? = some (.cells c t)) (hc : c.size = 9) :
    (loadVar 159 ⟨b, 0, none⟩).run Tryd.prog w = .ok (.agg c) w :=
  run_loadVar_row w b t _ c (0, 0) _ h Tryd.underlying159 rfl (by rw [hc]; kernel_rfl)
theorem row_set9 {w : World} {b : Nat} {c : Array Value} {t : TypeId} {v0 v1 v2 v3 v4 v5 v6 v7 v8 : Value} (h : w.heap[b]? = some (.cells c t)) (hc : c.size = 9) :
    (((((((((w.setCell ⟨b, 0, none⟩ v0).setCell ⟨b, 1, none⟩ v1).setCell ⟨b, 2, none⟩ v2).setCell ⟨b, 3, none⟩ v3).setCell ⟨b, 4, none⟩ v4).setCell ⟨b, 5, none⟩ v5).setCell ⟨b, 6, none⟩ v6).setCell ⟨b, 7, none⟩ v7).setCell ⟨b, 8, none⟩ v8).heap[b]? = some (.cells #[v0, v1, v2, v3, v4, v5, v6, v7, v8] t) := by
  refine row_of (row_set (k := 8) (v := v8) (row_set (k := 7) (v := v7) (row_set (k := 6) (v := v6) (row_set (k := 5) (v := v5) (row_set (k := 4) (v := v4) (row_set (k := 3) (v := v3) (row_set (k := 2) (v := v2) (row_set (k := 1) (v := v1) (row_set (k := 0) (v := v0) h))))))))) _ ?_
  obtain ⟨l⟩ := c
  match l, hc with
  | [_, _, _, _, _, _, _, _, _], _ => simp
theorem below_set9 {B : Nat} {a w : World} {b : Nat} {v0 v1 v2 v3 v4 v5 v6 v7 v8 : Value} (h : Below B a w) (hb : B ≤ b) : Below B a (((((((((w.setCell ⟨b, 0, none⟩ v0).setCell ⟨b, 1, none⟩ v1).setCell ⟨b, 2, none⟩ v2).setCell ⟨b, 3, none⟩ v3).setCell ⟨b, 4, none⟩ v4).setCell ⟨b, 5, none⟩ v5).setCell ⟨b, 6, none⟩ v6).setCell ⟨b, 7, none⟩ v7).setCell ⟨b, 8, none⟩ v8) :=
  (((((((((h.setCell hb _).setCell hb _).setCell hb _).setCell hb _).setCell hb _).setCell hb _).setCell hb _).setCell hb _).setCell hb _)
theorem cell_set9 {w : World} {a b o : Nat} {v0 v1 v2 v3 v4 v5 v6 v7 v8 : Value} {o0 o1 o2 o3 o4 o5 o6 o7 o8 : Nat} (h : a ≠ b) : (((((((((w.setCell ⟨b, o0, none⟩ v0).setCell ⟨b, o1, none⟩ v1).setCell ⟨b, o2, none⟩ v2).setCell ⟨b, o3, none⟩ v3).setCell ⟨b, o4, none⟩ v4).setCell ⟨b, o5, none⟩ v5).setCell ⟨b, o6, none⟩ v6).setCell ⟨b, o7, none⟩ v7).setCell ⟨b, o8, none⟩ v8).cell? ⟨a, o, none⟩ = w.cell? ⟨a, o, none⟩ :=
  World.cell?_of_block (by
    show _ = w.heap[a]?
    rw [Below.heap_setCell _ _ _ _ h, Below.heap_setCell _ _ _ _ h, Below.heap_setCell _ _ _ _ h, Below.heap_setCell _ _ _ _ h, Below.heap_setCell _ _ _ _ h, Below.heap_setCell _ _ _ _ h, Below.heap_setCell _ _ _ _ h, Below.heap_setCell _ _ _ _ h, Below.heap_setCell _ _ _ _ h])
theorem row_other9 {w : World} {a b : Nat} {x : Option Obj} {v0 v1 v2 v3 v4 v5 v6 v7 v8 : Value} {o0 o1 o2 o3 o4 o5 o6 o7 o8 : Nat} (q : w.heap[a]? = x) (h : a ≠ b) : (((((((((w.setCell ⟨b, o0, none⟩ v0).setCell ⟨b, o1, none⟩ v1).setCell ⟨b, o2, none⟩ v2).setCell ⟨b, o3, none⟩ v3).setCell ⟨b, o4, none⟩ v4).setCell ⟨b, o5, none⟩ v5).setCell ⟨b, o6, none⟩ v6).setCell ⟨b, o7, none⟩ v7).setCell ⟨b, o8, none⟩ v8).heap[a]? = x := by
  rw [Below.heap_setCell _ _ _ _ h, Below.heap_setCell _ _ _ _ h, Below.heap_setCell _ _ _ _ h, Below.heap_setCell _ _ _ _ h, Below.heap_setCell _ _ _ _ h, Below.heap_setCell _ _ _ _ h, Below.heap_setCell _ _ _ _ h, Below.heap_setCell _ _ _ _ h, Below.heap_setCell _ _ _ _ h, q]
theorem row_dig8 {w : World} {b : Nat} {s : Bool} {f : Nat → Int} {t : TypeId} (g : Nat → Int) (h : w.heap[b]? = some (.cells (bigA s f) t)) : ((((((((w.setCell ⟨b, 1, none⟩ (.int .u64 (g 0))).setCell ⟨b, 2, none⟩ (.int .u64 (g 1))).setCell ⟨b, 3, none⟩ (.int .u64 (g 2))).setCell ⟨b, 4, none⟩ (.int .u64 (g 3))).setCell ⟨b, 5, none⟩ (.int .u64 (g 4))).setCell ⟨b, 6, none⟩ (.int .u64 (g 5))).setCell ⟨b, 7, none⟩ (.int .u64 (g 6))).setCell ⟨b, 8, none⟩ (.int .u64 (g 7))).heap[b]? = some (.cells (bigA s g) t) :=
  row_of (row_set (k := 8) (v := .int .u64 (g 7)) (row_set (k := 7) (v := .int .u64 (g 6)) (row_set (k := 6) (v := .int .u64 (g 5)) (row_set (k := 5) (v := .int .u64 (g 4)) (row_set (k := 4) (v := .int .u64 (g 3)) (row_set (k := 3) (v := .int .u64 (g 2)) (row_set (k := 2) (v := .int .u64 (g 1)) (row_set (k := 1) (v := .int .u64 (g 0)) h)))))))) _ (by simp [bigA])
theorem row_other8 {w : World} {a b : Nat} {x : Option Obj} {v0 v1 v2 v3 v4 v5 v6 v7 : Value} {o0 o1 o2 o3 o4 o5 o6 o7 : Nat} (q : w.heap[a]? = x) (h : a ≠ b) : ((((((((w.setCell ⟨b, o0, none⟩ v0).setCell ⟨b, o1, none⟩ v1).setCell ⟨b, o2, none⟩ v2).setCell ⟨b, o3, none⟩ v3).setCell ⟨b, o4, none⟩ v4).setCell ⟨b, o5, none⟩ v5).setCell ⟨b, o6, none⟩ v6).setCell ⟨b, o7, none⟩ v7).heap[a]? = x := by
  rw [Below.heap_setCell _ _ _ _ h, Below.heap_setCell _ _ _ _ h, Below.heap_setCell _ _ _ _ h, Below.heap_setCell _ _ _ _ h, Below.heap_setCell _ _ _ _ h, Below.heap_setCell _ _ _ _ h, Below.heap_setCell _ _ _ _ h, Below.heap_setCell _ _ _ _ h, q]
theorem ref_Zero (m : Int) (m0 : 0 ≤ m) (m1 : m < 4294967296 ^ 8) (w : World) :
    Calls Tryd.prog 122 #[.agg (dgs m)] w fun e w' => e = .returned (.bool (decide (m = 0))) ∧ Below w.heap.size w w' := by
  have hq := fun w => run_eq_zero (P := Tryd.prog) 157 150 m m0 m1 Tryd.underlying157 Tryd.underlying150 (fun _ => by kernel_rfl) w
  unfold rowF at hq
  unfold dgs rowF
  go_enter Tryd.func122, Tryd.ntmps122
  go_wp2
  refine bp_ret ⟨?_, ?_, ?_, ?_⟩ rfl; rotate_left
  · (simp [results, Tryd.results122, go_sem, *]; rfl)
  rotate_left
  · repeat (first | exact Below.refl _ _ | assumption | (refine Below.alloc ?_ (by first | omega | (simp; done) | (simp; omega) | (simp at *; omega)) _) | (refine Below.setCell ?_ (by first | omega | (simp; done) | (simp; omega) | (simp at *; omega)) _) | (refine Below.trans ?_ (below_drewN _ _ _)) | (refine Below.drew ?_) | (refine Below.trans ?_ (Below.mono (by assumption) (by first | omega | (simp; done) | (simp; omega) | (simp at *; omega)))))
  · rfl
theorem big_neg {w : World} {b : Nat} {s : Bool} {f : Nat → Int} {t : TypeId} (h : w.heap[b]? = some (.cells (bigA s f) t)) : w.cell? ⟨b, 0, none⟩ = some (.bool s) := by
  rw [cell_of_row _ _ 0 _ t (0, 0) h]; rfl
theorem big_dig {w : World} {b : Nat} {s : Bool} {f : Nat → Int} {t : TypeId} (h : w.heap[b]? = some (.cells (bigA s f) t)) (k : Nat) (hk : k < 8) : w.cell? ⟨b, 1 + k, none⟩ = some (.int .u64 (f k)) := by
  rw [cell_of_row _ _ (1 + k) _ t (0, 0) h]
  rcases lt8 hk with rfl | rfl | rfl | rfl | rfl | rfl | rfl | rfl <;> rfl
theorem big_digs {w : World} {b : Nat} {s : Bool} {f : Nat → Int} {t : TypeId} (h : w.heap[b]? = some (.cells (bigA s f) t)) :
    w.cell? ⟨b, 1, none⟩ = some (.int .u64 (f 0)) ∧ w.cell? ⟨b, 2, none⟩ = some (.int .u64 (f 1)) ∧ w.cell? ⟨b, 3, none⟩ = some (.int .u64 (f 2)) ∧ w.cell? ⟨b, 4, none⟩ = some (.int .u64 (f 3)) ∧ w.cell? ⟨b, 5, none⟩ = some (.int .u64 (f 4)) ∧ w.cell? ⟨b, 6, none⟩ = some (.int .u64 (f 5)) ∧ w.cell? ⟨b, 7, none⟩ = some (.int .u64 (f 6)) ∧ w.cell? ⟨b, 8, none⟩ = some (.int .u64 (f 7)) :=
  ⟨big_dig h 0 (by omega), big_dig h 1 (by omega), big_dig h 2 (by omega), big_dig h 3 (by omega), big_dig h 4 (by omega), big_dig h 5 (by omega), big_dig h 6 (by omega), big_dig h 7 (by omega)⟩
theorem big_cells {w : World} {b : Nat} {s : Bool} {f : Nat → Int} {t : TypeId} (h : w.heap[b]? = some (.cells (bigA s f) t)) :
    w.cell? ⟨b, 0, none⟩ = some (.bool s) ∧ w.cell? ⟨b, 1, none⟩ = some (.int .u64 (f 0)) ∧ w.cell? ⟨b, 2, none⟩ = some (.int .u64 (f 1)) ∧ w.cell? ⟨b, 3, none⟩ = some (.int .u64 (f 2)) ∧ w.cell? ⟨b, 4, none⟩ = some (.int .u64 (f 3)) ∧ w.cell? ⟨b, 5, none⟩ = some (.int .u64 (f 4)) ∧ w.cell? ⟨b, 6, none⟩ = some (.int .u64 (f 5)) ∧ w.cell? ⟨b, 7, none⟩ = some (.int .u64 (f 6)) ∧ w.cell? ⟨b, 8, none⟩ = some (.int .u64 (f 7)) :=
  ⟨big_neg h, big_digs h⟩
theorem blk {B : Nat} {w w' : World} {k : Nat} {x : Option Obj} (hb : Below B w w') (h : w.heap[k]? = x) (hk : k < B) : w'.heap[k]? = x := by rw [hb.block k hk, h]
theorem bigA_size (s : Bool) (f : Nat → Int) : (bigA s f).size = 9 := rfl
theorem dgs_size (m : Int) : (dgs m).size = 8 := rfl
theorem ld_dig {w : World} {b : Nat} {s : Bool} {m : Int} {t : TypeId} (h : w.heap[b]? = some (.cells (bigA s (dgI m)) t)) : (loadVar 157 ⟨b, 1, none⟩).run Tryd.prog w = .ok (.agg (dgs m)) w :=
  loadVar_agg Tryd.underlying157 rfl (by kernel_rfl) (load_dig h)
theorem ld_row {w : World} {b : Nat} {m : Int} {t : TypeId} (h : w.heap[b]? = some (.cells (rowF (dgI m)) t)) : (loadVar 157 ⟨b, 0, none⟩).run Tryd.prog w = .ok (.agg (dgs m)) w :=
  loadVar_agg Tryd.underlying157 rfl (by kernel_rfl) (load_row h)
theorem ld_big {w : World} {b : Nat} {s : Bool} {f : Nat → Int} {t : TypeId} (h : w.heap[b]? = some (.cells (bigA s f) t)) : (loadVar 159 ⟨b, 0, none⟩).run Tryd.prog w = .ok (.agg (bigA s f)) w :=
  loadVar_agg Tryd.underlying159 rfl (by kernel_rfl) (load_big h)
theorem st_dig {w : World} {b : Nat} {s : Bool} {f : Nat → Int} {t : TypeId} (m : Int) (h : w.heap[b]? = some (.cells (bigA s f) t)) : (storeVar 157 ⟨b, 1, none⟩ (.agg (dgs m))).run Tryd.prog w = .ok () (w.setRow b (bigA s (dgI m))) :=
  storeVar_agg (by rw [dgs_size]; kernel_rfl) (store_dig h)
theorem st_row {w : World} {b : Nat} {f : Nat → Int} {t : TypeId} (m : Int) (h : w.heap[b]? = some (.cells (rowF f) t)) : (storeVar 157 ⟨b, 0, none⟩ (.agg (dgs m))).run Tryd.prog w = .ok () (w.setRow b (rowF (dgI m))) :=
  storeVar_agg (by rw [dgs_size]; kernel_rfl) (store_row h)
theorem st_big {w : World} {b : Nat} {s : Bool} {f : Nat → Int} {t : TypeId} (s' : Bool) (g : Nat → Int) (h : w.heap[b]? = some (.cells (bigA s f) t)) : (storeVar 159 ⟨b, 0, none⟩ (.agg (bigA s' g))).run Tryd.prog w = .ok () (w.setRow b (bigA s' g)) :=
  storeVar_agg (by rw [bigA_size]; kernel_rfl) (store_big h)
theorem bigA_zero (s : Bool) (f : Nat → Int) : (bigA s f)[0]? = some (.bool s) := rfl

set_option maxHeartbeats 1000000 in
theorem ref_From_pos (hi lo : Int) (h0 : 0 ≤ hi) (h1 : hi < 9223372036854775808) (l0 : 0 ≤ lo) (l1 : lo < 18446744073709551616) (w : World) :
    Calls Tryd.prog 124 #[.agg #[.int .i64 hi, .int .u64 lo]] w fun e w' => e = .returned (.agg (bigV (hi * 18446744073709551616 + lo))) ∧ Below w.heap.size w w' := by
  have hn : ¬ hi < 0 := by omega
  go_enter Tryd.func124, Tryd.ntmps124
  go_wp2
  go_quiet (fail)
  go_wp2
  have hr := row_wide false hi lo h0 (by omega) l0 l1
  refine bp_ret ?_ rfl
  refine ⟨.agg (bigA false (dgI (hi * 18446744073709551616 + lo))), ret_cell (a := ⟨w.heap.size + 1, 0, none⟩) Tryd.results124 ?_ (load67 (row_of (row_set9 (row_other (row_other (row_other (row_other (row_drewN _ (row_past (row_new (n := w.heap.size + 1) (by simp)))) (by simp)) (by simp)) (by simp)) (by simp)) rfl) _ hr.symm) rfl), ?_, ?_⟩
  · simp
  · unfold bigV absZ
    rw [if_neg (by omega), decide_eq_false (by omega)]
  · refine below_set9 ?_ (by omega)
    iterate 4 (with_reducible refine Below.setCell ?_ (by simp; omega) _)
    refine Below.trans ?_ (below_drewN _ _ _)
    repeat (first | exact Below.refl _ _ | assumption | (refine Below.alloc ?_ (by first | omega | (simp; done) | (simp; omega) | (simp at *; omega)) _) | (refine Below.setCell ?_ (by first | omega | (simp; done) | (simp; omega) | (simp at *; omega)) _) | (refine Below.trans ?_ (below_drewN _ _ _)) | (refine Below.drew ?_) | (refine Below.trans ?_ (Below.mono (by assumption) (by first | omega | (simp; done) | (simp; omega) | (simp at *; omega)))))
set_option maxHeartbeats 2000000 in
set_option maxRecDepth 100000 in
theorem ref_From_neg (H lo : Int) (h0 : 0 ≤ H) (h1 : H < 9223372036854775808) (l0 : 0 ≤ lo) (l1 : lo < 18446744073709551616) (w : World) :
    Calls Tryd.prog 124 #[.agg #[.int .i64 (-1 - H), .int .u64 lo]] w fun e w' => e = .returned (.agg (bigV ((-1 - H) * 18446744073709551616 + lo))) ∧ Below w.heap.size w w' := by
  have q0 : -1 - H < 0 := by omega
  have q1 : IntKind.u64.wrap (-1 - H) = 18446744073709551615 - H := by rw [IntKind.wrap_u64]; omega
  have q2 : IntKind.u64.wrap (18446744073709551615 - (18446744073709551615 - H)) = H := by rw [IntKind.wrap_u64]; omega
  have q3 : IntKind.u64.wrap (H / 4294967296) = H / 4294967296 := by rw [IntKind.wrap_u64]; omega
  have hsd := dgs_size
  have hone := fun w => ref_one w
  have hplus := fun w => ref_plus (H * 18446744073709551616 + (18446744073709551615 - lo)) 1 w
  unfold dgs rowF at hplus hone
  have hone' := Lib.hid hone
  have hplus' := Lib.hid hplus
  clear hone hplus
  go_enter Tryd.func124, Tryd.ntmps124
  go_wp2
  go_quiet (fail)
  go_wp2
  have hrow := row_wide true H (18446744073709551615 - lo) h0 (by omega) (by omega) (by omega)
  refine wp_gen (fun wd => wd.heap[w.heap.size + 1]? = some (.cells (bigA false fun _ => 0) 159) ∧ wd.heap[w.heap.size + 1 + 1]? = some (.cells (bigA true (dgI (H * 18446744073709551616 + (18446744073709551615 - lo)))) 159) ∧ w.heap.size + 3 ≤ wd.heap.size ∧ Below w.heap.size w wd)
    ⟨row_other (row_other (row_other (row_other (row_drewN _ (row_past (row_new (by simp)))) (by simp)) (by simp)) (by simp)) (by simp), row_of (row_set (row_set (row_set (row_set (row_drewN _ (row_new (by simp))))))) _ (by rw [hrow]; rfl), by simp, ?_⟩ ?_
  · iterate 4 (with_reducible refine Below.setCell ?_ (by simp; omega) _)
    refine Below.trans ?_ (below_drewN _ _ _)
    repeat (first | exact Below.refl _ _ | assumption | (refine Below.alloc ?_ (by first | omega | (simp; done) | (simp; omega) | (simp at *; omega)) _) | (refine Below.setCell ?_ (by first | omega | (simp; done) | (simp; omega) | (simp at *; omega)) _) | (refine Below.trans ?_ (below_drewN _ _ _)) | (refine Below.drew ?_) | (refine Below.trans ?_ (Below.mono (by assumption) (by first | omega | (simp; done) | (simp; omega) | (simp at *; omega)))))
  rintro wd ⟨g2, g3, hz, hb⟩
  clear hrow q0 q1 q2 q3
  generalize hV : H * 18446744073709551616 + (18446744073709551615 - lo) = V at *
  have hVH := Lib.hid hV
  clear hV
  obtain ⟨d10, d11, d12, d13, d14, d15, d16, d17⟩ := big_digs g3
  have g2H := Lib.hid g2
  have g3H := Lib.hid g3
  clear g2 g3
  go_region_with (first | (go_at_call 138; refine (hone'.out _).mono ?_; rintro e w3 ⟨rfl, hb3⟩; have k3 := blk hb3 (row_drew g3H.out) (by simp; omega); obtain ⟨f10, f11, f12, f13, f14, f15, f16, f17⟩ := big_digs k3) | (go_at_call 137; refine (hplus'.out _).mono ?_; rintro e w4 ⟨rfl, hb4⟩; have j3 := blk hb4 k3 (by have := hb3.size; simp at this; omega); obtain ⟨z0, z1, z2, z3, z4, z5, z6, z7, z8⟩ := big_cells j3; have fz := row_frozen j3))
  all_goals
    have hs4 := hb4.size
    have hs3 := hb3.size
    simp at hs3
    have k2 := row_other8 (b := w.heap.size + 1 + 1) (o0 := 1) (o1 := 2) (o2 := 3) (o3 := 4) (o4 := 5) (o5 := 6) (o6 := 7) (o7 := 8) (v0 := .int .u64 (dgI (V + 1) 0)) (v1 := .int .u64 (dgI (V + 1) 1)) (v2 := .int .u64 (dgI (V + 1) 2)) (v3 := .int .u64 (dgI (V + 1) 3)) (v4 := .int .u64 (dgI (V + 1) 4)) (v5 := .int .u64 (dgI (V + 1) 5)) (v6 := .int .u64 (dgI (V + 1) 6)) (v7 := .int .u64 (dgI (V + 1) 7)) (blk hb4 (blk hb3 (row_drew g2H.out) (by simp; omega)) (by omega)) (by omega)
    have k3' := row_dig8 (dgI (V + 1)) j3
    have l4 := ld_big k3'
    have s4 := st_big true (dgI (V + 1)) k2
    have kH := Lib.hid (setRow_at (c' := bigA true (dgI (V + 1))) k2)
    have hbH := Lib.hid (below_setRow (b := w.heap.size + 1) (c := bigA true (dgI (V + 1))) (below_set8 (v0 := .int .u64 (dgI (V + 1) 0)) (v1 := .int .u64 (dgI (V + 1) 1)) (v2 := .int .u64 (dgI (V + 1) 2)) (v3 := .int .u64 (dgI (V + 1) 3)) (v4 := .int .u64 (dgI (V + 1) 4)) (v5 := .int .u64 (dgI (V + 1) 5)) (v6 := .int .u64 (dgI (V + 1) 6)) (v7 := .int .u64 (dgI (V + 1) 7)) (b := w.heap.size + 1 + 1) (o0 := 1) (o1 := 2) (o2 := 3) (o3 := 4) (o4 := 5) (o5 := 6) (o6 := 7) (o7 := 8) ((hb.drew.trans (hb3.mono (by simp; omega))).trans (hb4.mono (by omega))) (by omega)) (by omega))
    have hsz := bigA_size
    clear k2 k3' j3 k3 z0 z1 z2 z3 z4 z5 z6 z7 z8 fz d10 d11 d12 d13 d14 d15 d16 d17 f10 f11 f12 f13 f14 f15 f16 f17
    go_wp2_with (first | (refine wpList_load_at _ _ rfl rfl _ rfl _ (by with_reducible assumption) ?_; go_simp) | (refine wpList_store_at _ _ _ rfl rfl _ rfl _ (by with_reducible assumption) (by rfl) ?_; go_simp))
    refine bp_ret ?_ rfl
    refine ⟨.agg (bigA true (dgI (V + 1))), ret_cell (a := ⟨w.heap.size + 1, 0, none⟩) Tryd.results124 ?_ (load67 kH.out rfl), ?_, hbH.out⟩
    · simp
    · have hV := hVH.out
      have e : (-1 - H) * 18446744073709551616 + lo = -(V + 1) := by omega
      rw [e]
      unfold bigV absZ
      rw [if_pos (by omega), decide_eq_true (by omega), Int.neg_neg]
theorem ref_From (v : Int) (hv : in128 v) (w : World) :
    Calls Tryd.prog 124 #[wv v] w fun e w' => e = .returned (.agg (bigV v)) ∧ Below w.heap.size w w' := by
  unfold in128 at hv
  unfold wv
  by_cases h : v < 0
  · have c := ref_From_neg (-1 - v / 18446744073709551616) (v % 18446744073709551616) (by omega) (by omega) (by omega) (by omega) w
    rw [show -1 - (-1 - v / 18446744073709551616) = v / 18446744073709551616 by omega, show v / 18446744073709551616 * 18446744073709551616 + v % 18446744073709551616 = v by omega] at c
    exact c
  · have c := ref_From_pos (v / 18446744073709551616) (v % 18446744073709551616) (by omega) (by omega) (by omega) (by omega) w
    rw [show v / 18446744073709551616 * 18446744073709551616 + v % 18446744073709551616 = v by omega] at c
    exact c
theorem ref_Int (a : Int) (ha : in64 a) (w : World) :
    Calls Tryd.prog 94 #[.int .i64 a] w fun e w' => e = .returned (.agg (bigV a)) ∧ Below w.heap.size w w' := by
  have h128 : in128 a := by unfold in64 in128 at *; omega
  have hf := fun w => ref_From a h128 w
  unfold wv bigV at hf
  have hsz := bigA_size
  unfold in64 at ha
  obtain ⟨a0, a1⟩ := ha
  by_cases h : a < 0
  · have e1 : a / 18446744073709551616 = -1 := by omega
    have e2 : a % 18446744073709551616 = IntKind.u64.wrap a := by rw [IntKind.wrap_u64]
    rw [e1, e2, decide_eq_true h] at hf
    have hfH := Lib.hid hf
    clear hf e1 e2 h128
    go_enter Tryd.func94, Tryd.ntmps94
    go_wp2_with fail
    refine (hfH.out _).mono ?_
    rintro e w2 ⟨rfl, hb2⟩
    have k := blk hb2 (row_new (n := w.heap.size) rfl) (by simp)
    have s4 := st_big (s := false) (f := fun _ => 0) true (dgI (absZ a)) k
    have kH := Lib.hid (setRow_at (c' := bigA true (dgI (absZ a))) k)
    have hbH := Lib.hid (below_setRow (b := w.heap.size) (c := bigA true (dgI (absZ a))) (((Below.refl _ w).alloc (Nat.le_refl _) _).trans (hb2.mono (by simp))) (Nat.le_refl _))
    clear k
    go_wp2_with (first | (refine wpList_load_at _ _ rfl rfl _ rfl _ (by with_reducible assumption) ?_; go_simp) | (refine wpList_store_at _ _ _ rfl rfl _ rfl _ (by with_reducible assumption) (by rfl) ?_; go_simp))
    refine bp_ret ?_ rfl
    refine ⟨.agg (bigA true (dgI (absZ a))), ret_cell (a := ⟨w.heap.size, 0, none⟩) Tryd.results94 ?_ (load67 kH.out rfl), by unfold bigV; rw [decide_eq_true h], hbH.out⟩
    simp
  · have e1 : a / 18446744073709551616 = 0 := by omega
    have e2 : a % 18446744073709551616 = a := by omega
    rw [e1, e2, decide_eq_false h] at hf
    have hfH := Lib.hid hf
    clear hf e1 e2 h128
    have h0 : 0 ≤ a := by omega
    go_enter Tryd.func94, Tryd.ntmps94
    go_wp2_with fail
    refine (hfH.out _).mono ?_
    rintro e w2 ⟨rfl, hb2⟩
    have k := blk hb2 (row_new (n := w.heap.size) rfl) (by simp)
    have s4 := st_big (s := false) (f := fun _ => 0) false (dgI (absZ a)) k
    have kH := Lib.hid (setRow_at (c' := bigA false (dgI (absZ a))) k)
    have hbH := Lib.hid (below_setRow (b := w.heap.size) (c := bigA false (dgI (absZ a))) (((Below.refl _ w).alloc (Nat.le_refl _) _).trans (hb2.mono (by simp))) (Nat.le_refl _))
    clear k
    go_wp2_with (first | (refine wpList_load_at _ _ rfl rfl _ rfl _ (by with_reducible assumption) ?_; go_simp) | (refine wpList_store_at _ _ _ rfl rfl _ rfl _ (by with_reducible assumption) (by rfl) ?_; go_simp))
    refine bp_ret ?_ rfl
    refine ⟨.agg (bigA false (dgI (absZ a))), ret_cell (a := ⟨w.heap.size, 0, none⟩) Tryd.results94 ?_ (load67 kH.out rfl), by unfold bigV; rw [decide_eq_false (by omega)], hbH.out⟩
    simp
end Go.Proofs.YtmdnnlfoljdfpaaDoor
