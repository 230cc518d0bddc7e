/- The statement RatioFits: factors of fractions, scaled, off, adjusted: the program's and the document's. -/
import Derived.Test.YtkdjfakjnkemiaaDoorRef03b
import Derived.Test.YtkdjfakjnkemiaaDoorSure03
import Derived.Test.YtkdjfakjnkemiaaDoorLawWideTimes
namespace Go.Proofs.YtkdjfakjnkemiaaDoor
open Go.RowKit

theorem fitR_fi (a b : Int) : fitR a b = .tuple #[.agg #[.int .u32 (fiX a b).1.1, .int .i64 (fiX a b).1.2], errV (fiX a b).2] := by
  unfold fitR fiX
  by_cases h : mayFit a b
  · rw [if_pos h, if_pos h]
    cases fitS a b 31 with
    | none => rfl
    | some p => rfl
  · rw [if_neg h, if_neg h]; rfl
theorem scaleR_sc (m s n : Int) : scaleR m s n = .tuple #[.int .i64 (scX m s n).1, errV (scX m s n).2] := by
  unfold scaleR scX
  by_cases h : mayF m s
  · rw [if_pos h, if_pos h, mulShiftR_ms]
  · rw [if_neg h, if_neg h]; rfl
theorem offR_of (m s n : Int) : offR m s n = .tuple #[.int .i64 (ofX m s n).1, errV (ofX m s n).2] := by
  unfold offR ofX
  by_cases h : mayF m s ∧ 0 ≤ n
  · rw [if_pos h, if_pos h]
    have q0 : 0 ≤ n / 2 ^ s.toNat := Int.ediv_nonneg h.2 (Int.le_of_lt (two_pos _))
    by_cases k : n / 2 ^ s.toNat ≤ 9223372036854775805
    · rw [if_pos k, fitI_pos (by unfold in64; omega)]; rfl
    · rw [if_neg k, fitI_neg (by unfold in64; omega)]; rfl
  · rw [if_neg h, if_neg h]; rfl
theorem adjR_ad (m s b : Int) : adjR m s b = .tuple #[.agg #[.int .u32 (adX m s b).1.1, .int .i64 (adX m s b).1.2], errV (adX m s b).2] := by
  unfold adjR adX adN
  by_cases h : mayF m s
  · rw [if_pos h, if_pos h]
    by_cases k : 1 ≤ m * (1073741824 + clampI b (-1073741824) 1073741824) / 1073741824 ∧ m * (1073741824 + clampI b (-1073741824) 1073741824) / 1073741824 < 4294967296
    · rw [if_pos k, if_pos k]; rfl
    · rw [if_neg k, if_neg k]; rfl
  · rw [if_neg h, if_neg h]; rfl
theorem ref_Fit (a b : Int) (ha0 : 0 ≤ a) (hb0 : 0 ≤ b) (w : World) :
    Calls Tryd.prog 51 #[.int .u64 a, .int .u64 b] w fun e w' => e = .returned (refF (fiX a b)) ∧ Below w.heap.size w w' := by
  unfold fiX
  by_cases h : mayFit a b
  · rw [if_pos h]
    have c := ref_Fit_yes a b h ha0 hb0 w
    cases hf : fitS a b 31 with
    | none => rw [hf] at c; exact c
    | some p => rw [hf] at c; exact c
  · rw [if_neg h]; exact ref_Fit_no a b h w
set_option maxHeartbeats 4000000 in
set_option maxRecDepth 100000 in
theorem fits_yes (a b m s n p x1 y1 x3 x5 x7 y7 : Int) (e1 e3 e5 e7 : Option Int) (w : World) (hLH : Hid (LaidW w))
    (h1 : Hid (∀ w, Calls Tryd.prog 48 #[.int .u64 a, .int .u64 b] w fun e w' => e = .returned (.tuple #[.agg #[.int .u32 x1, .int .i64 y1], errV e1]) ∧ Below w.heap.size w w'))
    (h2 : Hid (∀ w, Calls Tryd.prog 51 #[.int .u64 a, .int .u64 b] w fun e w' => e = .returned (.tuple #[.agg #[.int .u32 x1, .int .i64 y1], .int .i64 (numV e1)]) ∧ Below w.heap.size w w'))
    (h3 : Hid (∀ w, Calls Tryd.prog 49 #[.agg #[.int .u32 m, .int .i64 s], .int .i64 n] w fun e w' => e = .returned (.tuple #[.int .i64 x3, errV e3]) ∧ Below w.heap.size w w'))
    (h4 : Hid (∀ w, Calls Tryd.prog 52 #[.agg #[.int .u32 m, .int .i64 s], .int .i64 n] w fun e w' => e = .returned (.tuple #[.int .i64 x3, .int .i64 (numV e3)]) ∧ Below w.heap.size w w'))
    (h5 : Hid (∀ w, Calls Tryd.prog 50 #[.agg #[.int .u32 m, .int .i64 s], .int .i64 n] w fun e w' => e = .returned (.tuple #[.int .i64 x5, errV e5]) ∧ Below w.heap.size w w'))
    (h6 : Hid (∀ w, Calls Tryd.prog 53 #[.agg #[.int .u32 m, .int .i64 s], .int .i64 n] w fun e w' => e = .returned (.tuple #[.int .i64 x5, .int .i64 (numV e5)]) ∧ Below w.heap.size w w'))
    (h7 : Hid (∀ w, Calls Tryd.prog 45 #[.agg #[.int .u32 m, .int .i64 s], .int .i64 p] w fun e w' => e = .returned (.tuple #[.agg #[.int .u32 x7, .int .i64 y7], errV e7]) ∧ Below w.heap.size w w'))
    (h8 : Hid (∀ w, Calls Tryd.prog 54 #[.agg #[.int .u32 m, .int .i64 s], .int .i64 p] w fun e w' => e = .returned (.tuple #[.agg #[.int .u32 x7, .int .i64 y7], .int .i64 (numV e7)]) ∧ Below w.heap.size w w'))
    (h9 : Hid (∀ w, Calls Tryd.prog 44 #[.agg #[.int .u32 m, .int .i64 s]] w fun e w' => e = .returned (.nilIface) ∧ Below w.heap.size w w'))
    (h10 : Hid (∀ w, Calls Tryd.prog 55 #[.agg #[.int .u32 m, .int .i64 s]] w fun e w' => e = .returned (.bool true) ∧ Below w.heap.size w w')) :
    Calls Tryd.prog 10 #[.int .u64 a, .int .u64 b, .agg #[.int .u32 m, .int .i64 s, .int .i64 n, .int .i64 p]] w fun e w' => e = .returned (.bool true) ∧ Below w.heap.size w w' := by
  have n1 := Lib.hid (fun w (h : LaidW w) => law03_num e1 w h)
  have n3 := Lib.hid (fun w (h : LaidW w) => law03_num e3 w h)
  have n5 := Lib.hid (fun w (h : LaidW w) => law03_num e5 w h)
  have n7 := Lib.hid (fun w (h : LaidW w) => law03_num e7 w h)
  have hs := Lib.hid (fun w (h : LaidW w) => sure03 w h)
  generalize errV e1 = E1 at *
  generalize numV e1 = N1 at *
  generalize errV e3 = E3 at *
  generalize numV e3 = N3 at *
  generalize errV e5 = E5 at *
  generalize numV e5 = N5 at *
  generalize errV e7 = E7 at *
  generalize numV e7 = N7 at *
  go_enter Tryd.func10, Tryd.ntmps10
  go_wp2_with fail
  refine (h1.out _).mono ?_
  rintro e1 w1 ⟨rfl, hb1⟩
  obtain ⟨hc1, hf1⟩ := bcell hb1
  have hz1 := hb1.size
  try simp at hz1
  have hz1_0 : w.heap.size < w1.heap.size := by omega
  have hz1_w : w.heap.size < w1.heap.size := by omega
  have hz1_wa : w.heap.size < w1.heap.size + 1 := by omega
  have hz1_wb : w.heap.size ≤ w1.heap.size := by omega
  go_wp2_with fail
  refine (h2.out _).mono ?_
  rintro e2 w2 ⟨rfl, hb2⟩
  obtain ⟨hc2, hf2⟩ := bcell hb2
  have hz2 := hb2.size
  try simp at hz2
  have hz2_0 : w.heap.size < w2.heap.size := by omega
  have hz2_w : w.heap.size < w2.heap.size := by omega
  have hz2_w1 : w1.heap.size < w2.heap.size := by omega
  have hz2_wa : w.heap.size < w2.heap.size + 1 := by omega
  have hz2_w1a : w1.heap.size < w2.heap.size + 1 := by omega
  have hz2_wb : w.heap.size ≤ w2.heap.size := by omega
  have hz2_w1b : w1.heap.size ≤ w2.heap.size := by omega
  have hp2 : w.heap.size < w2.heap.size + 1 + 1 := by omega
  have hp2a : w1.heap.size < w2.heap.size + 1 + 1 := by omega
  go_wp2_with fail
  refine (h3.out _).mono ?_
  rintro e3 w3 ⟨rfl, hb3⟩
  obtain ⟨hc3, hf3⟩ := bcell hb3
  have hz3 := hb3.size
  try simp at hz3
  have hz3_0 : w.heap.size < w3.heap.size := by omega
  have hz3_w : w.heap.size < w3.heap.size := by omega
  have hz3_w1 : w1.heap.size < w3.heap.size := by omega
  have hz3_w2 : w2.heap.size < w3.heap.size := by omega
  have hz3_wa : w.heap.size < w3.heap.size + 1 := by omega
  have hz3_w1a : w1.heap.size < w3.heap.size + 1 := by omega
  have hz3_w2a : w2.heap.size < w3.heap.size + 1 := by omega
  have hz3_wb : w.heap.size ≤ w3.heap.size := by omega
  have hz3_w1b : w1.heap.size ≤ w3.heap.size := by omega
  have hz3_w2b : w2.heap.size ≤ w3.heap.size := by omega
  have hq3 : w2.heap.size + 1 < w3.heap.size := by omega
  have hq3a : w2.heap.size < w3.heap.size := by omega
  go_wp2_with fail
  refine (h4.out _).mono ?_
  rintro e4 w4 ⟨rfl, hb4⟩
  obtain ⟨hc4, hf4⟩ := bcell hb4
  have hz4 := hb4.size
  try simp at hz4
  have hz4_0 : w.heap.size < w4.heap.size := by omega
  have hz4_w : w.heap.size < w4.heap.size := by omega
  have hz4_w1 : w1.heap.size < w4.heap.size := by omega
  have hz4_w2 : w2.heap.size < w4.heap.size := by omega
  have hz4_wa : w.heap.size < w4.heap.size + 1 := by omega
  have hz4_w1a : w1.heap.size < w4.heap.size + 1 := by omega
  have hz4_w2a : w2.heap.size < w4.heap.size + 1 := by omega
  have hz4_wb : w.heap.size ≤ w4.heap.size := by omega
  have hz4_w1b : w1.heap.size ≤ w4.heap.size := by omega
  have hz4_w2b : w2.heap.size ≤ w4.heap.size := by omega
  have hq4 : w2.heap.size + 1 < w4.heap.size := by omega
  have hq4a : w2.heap.size < w4.heap.size := by omega
  go_wp2_with fail
  refine (h5.out _).mono ?_
  rintro e5 w5 ⟨rfl, hb5⟩
  obtain ⟨hc5, hf5⟩ := bcell hb5
  have hz5 := hb5.size
  try simp at hz5
  have hz5_0 : w.heap.size < w5.heap.size := by omega
  have hz5_w : w.heap.size < w5.heap.size := by omega
  have hz5_w1 : w1.heap.size < w5.heap.size := by omega
  have hz5_w2 : w2.heap.size < w5.heap.size := by omega
  have hz5_wa : w.heap.size < w5.heap.size + 1 := by omega
  have hz5_w1a : w1.heap.size < w5.heap.size + 1 := by omega
  have hz5_w2a : w2.heap.size < w5.heap.size + 1 := by omega
  have hz5_wb : w.heap.size ≤ w5.heap.size := by omega
  have hz5_w1b : w1.heap.size ≤ w5.heap.size := by omega
  have hz5_w2b : w2.heap.size ≤ w5.heap.size := by omega
  have hq5 : w2.heap.size + 1 < w5.heap.size := by omega
  have hq5a : w2.heap.size < w5.heap.size := by omega
  go_wp2_with fail
  refine (h6.out _).mono ?_
  rintro e6 w6 ⟨rfl, hb6⟩
  obtain ⟨hc6, hf6⟩ := bcell hb6
  have hz6 := hb6.size
  try simp at hz6
  have hz6_0 : w.heap.size < w6.heap.size := by omega
  have hz6_w : w.heap.size < w6.heap.size := by omega
  have hz6_w1 : w1.heap.size < w6.heap.size := by omega
  have hz6_w2 : w2.heap.size < w6.heap.size := by omega
  have hz6_wa : w.heap.size < w6.heap.size + 1 := by omega
  have hz6_w1a : w1.heap.size < w6.heap.size + 1 := by omega
  have hz6_w2a : w2.heap.size < w6.heap.size + 1 := by omega
  have hz6_wb : w.heap.size ≤ w6.heap.size := by omega
  have hz6_w1b : w1.heap.size ≤ w6.heap.size := by omega
  have hz6_w2b : w2.heap.size ≤ w6.heap.size := by omega
  have hq6 : w2.heap.size + 1 < w6.heap.size := by omega
  have hq6a : w2.heap.size < w6.heap.size := by omega
  go_wp2_with fail
  refine (h7.out _).mono ?_
  rintro e7 w7 ⟨rfl, hb7⟩
  obtain ⟨hc7, hf7⟩ := bcell hb7
  have hz7 := hb7.size
  try simp at hz7
  have hz7_0 : w.heap.size < w7.heap.size := by omega
  have hz7_w : w.heap.size < w7.heap.size := by omega
  have hz7_w1 : w1.heap.size < w7.heap.size := by omega
  have hz7_w2 : w2.heap.size < w7.heap.size := by omega
  have hz7_wa : w.heap.size < w7.heap.size + 1 := by omega
  have hz7_w1a : w1.heap.size < w7.heap.size + 1 := by omega
  have hz7_w2a : w2.heap.size < w7.heap.size + 1 := by omega
  have hz7_wb : w.heap.size ≤ w7.heap.size := by omega
  have hz7_w1b : w1.heap.size ≤ w7.heap.size := by omega
  have hz7_w2b : w2.heap.size ≤ w7.heap.size := by omega
  have hq7 : w2.heap.size + 1 < w7.heap.size := by omega
  have hq7a : w2.heap.size < w7.heap.size := by omega
  go_wp2_with fail
  refine (h8.out _).mono ?_
  rintro e8 w8 ⟨rfl, hb8⟩
  obtain ⟨hc8, hf8⟩ := bcell hb8
  have hz8 := hb8.size
  try simp at hz8
  have hz8_0 : w.heap.size < w8.heap.size := by omega
  have hz8_w : w.heap.size < w8.heap.size := by omega
  have hz8_w1 : w1.heap.size < w8.heap.size := by omega
  have hz8_w2 : w2.heap.size < w8.heap.size := by omega
  have hz8_w7 : w7.heap.size < w8.heap.size := by omega
  have hz8_wa : w.heap.size < w8.heap.size + 1 := by omega
  have hz8_w1a : w1.heap.size < w8.heap.size + 1 := by omega
  have hz8_w2a : w2.heap.size < w8.heap.size + 1 := by omega
  have hz8_w7a : w7.heap.size < w8.heap.size + 1 := by omega
  have hz8_wb : w.heap.size ≤ w8.heap.size := by omega
  have hz8_w1b : w1.heap.size ≤ w8.heap.size := by omega
  have hz8_w2b : w2.heap.size ≤ w8.heap.size := by omega
  have hz8_w7b : w7.heap.size ≤ w8.heap.size := by omega
  have hq8 : w2.heap.size + 1 < w8.heap.size := by omega
  have hq8a : w2.heap.size < w8.heap.size := by omega
  go_wp2_with fail
  refine wp_gen (fun wd => wd.cell? ⟨w1.heap.size, 0, none⟩ = some (.int .u32 x1) ∧ wd.cell? ⟨w1.heap.size, 1, none⟩ = some (.int .i64 y1) ∧ wd.cell? ⟨w2.heap.size, 0, none⟩ = some (.int .u32 x1) ∧ wd.cell? ⟨w2.heap.size, 1, none⟩ = some (.int .i64 y1) ∧ wd.cell? ⟨w2.heap.size + 1, 0, none⟩ = some (.int .u32 m) ∧ wd.cell? ⟨w2.heap.size + 1, 1, none⟩ = some (.int .i64 s) ∧ wd.cell? ⟨w7.heap.size, 0, none⟩ = some (.int .u32 x7) ∧ wd.cell? ⟨w7.heap.size, 1, none⟩ = some (.int .i64 y7) ∧ wd.cell? ⟨w8.heap.size, 0, none⟩ = some (.int .u32 x7) ∧ wd.cell? ⟨w8.heap.size, 1, none⟩ = some (.int .i64 y7) ∧ wd.cell? ⟨w.heap.size, 0, none⟩ = some (.int .u32 m) ∧ wd.cell? ⟨w.heap.size, 1, none⟩ = some (.int .i64 s) ∧ Below w.heap.size w wd ∧ w8.heap.size + 1 ≤ wd.heap.size) ⟨by first | (go_simp; done) | (simp; done), by first | (go_simp; done) | (simp; done), by first | (go_simp; done) | (simp; done), by first | (go_simp; done) | (simp; done), by first | (go_simp; done) | (simp; done), by first | (go_simp; done) | (simp; done), by first | (go_simp; done) | (simp; done), by first | (go_simp; done) | (simp; done), by first | (go_simp; done) | (simp; done), by first | (go_simp; done) | (simp; done), by first | (go_simp; done) | (simp; done), by first | (go_simp; done) | (simp; done), by repeat (first | exact Below.refl _ _ | assumption | (refine Below.alloc ?_ (by first | omega | (simp; done) | (simp; omega) | (simp at *; omega)) _) | (refine Below.setCell ?_ (by first | omega | (simp; done) | (simp; omega) | (simp at *; omega)) _) | (refine Below.trans ?_ (below_drewN _ _ _)) | (refine Below.drew ?_) | (refine Below.trans ?_ (Below.mono (by assumption) (by first | omega | (simp; done) | (simp; omega) | (simp at *; omega))))), by simp⟩ ?_
  have hZ1 : w1.heap.size < w8.heap.size + 1 := by omega
  have hZ2 : w2.heap.size < w8.heap.size + 1 := by omega
  have hZ3 : w2.heap.size + 1 < w8.heap.size + 1 := by omega
  have hZ4 : w7.heap.size < w8.heap.size + 1 := by omega
  have hZ5 : w8.heap.size < w8.heap.size + 1 := by omega
  have hZ6 : w.heap.size < w8.heap.size + 1 := by omega
  clear hb1 hc1 hf1
  clear hb2 hc2 hf2
  clear hb3 hc3 hf3
  clear hb4 hc4 hf4
  clear hb5 hc5 hf5
  clear hb6 hc6 hf6
  clear hb7 hc7 hf7
  clear hb8 hc8 hf8
  rintro wd ⟨k0, k1, k2, k3, k4, k5, k6, k7, k8, k9, k10, k11, kb, kz⟩
  have d0 : wd.drew.cell? ⟨w1.heap.size, 0, none⟩ = some (.int .u32 x1) := k0
  have d1 : wd.drew.cell? ⟨w1.heap.size, 1, none⟩ = some (.int .i64 y1) := k1
  have d2 : wd.drew.cell? ⟨w2.heap.size, 0, none⟩ = some (.int .u32 x1) := k2
  have d3 : wd.drew.cell? ⟨w2.heap.size, 1, none⟩ = some (.int .i64 y1) := k3
  have d4 : wd.drew.cell? ⟨w2.heap.size + 1, 0, none⟩ = some (.int .u32 m) := k4
  have d5 : wd.drew.cell? ⟨w2.heap.size + 1, 1, none⟩ = some (.int .i64 s) := k5
  have d6 : wd.drew.cell? ⟨w7.heap.size, 0, none⟩ = some (.int .u32 x7) := k6
  have d7 : wd.drew.cell? ⟨w7.heap.size, 1, none⟩ = some (.int .i64 y7) := k7
  have d8 : wd.drew.cell? ⟨w8.heap.size, 0, none⟩ = some (.int .u32 x7) := k8
  have d9 : wd.drew.cell? ⟨w8.heap.size, 1, none⟩ = some (.int .i64 y7) := k9
  have d10 : wd.drew.cell? ⟨w.heap.size, 0, none⟩ = some (.int .u32 m) := k10
  have d11 : wd.drew.cell? ⟨w.heap.size, 1, none⟩ = some (.int .i64 s) := k11
  have db : Below w.heap.size w wd.drew := kb.drew
  have dz : w8.heap.size + 1 ≤ wd.drew.heap.size := kz
  clear k0 k1 k2 k3 k4 k5 k6 k7 k8 k9 k10 k11 kb kz
  go_region_held3 (fun w' => w'.cell? ⟨w1.heap.size, 0, none⟩ = some (.int .u32 x1) ∧ w'.cell? ⟨w1.heap.size, 1, none⟩ = some (.int .i64 y1) ∧ w'.cell? ⟨w2.heap.size, 0, none⟩ = some (.int .u32 x1) ∧ w'.cell? ⟨w2.heap.size, 1, none⟩ = some (.int .i64 y1) ∧ w'.cell? ⟨w2.heap.size + 1, 0, none⟩ = some (.int .u32 m) ∧ w'.cell? ⟨w2.heap.size + 1, 1, none⟩ = some (.int .i64 s) ∧ w'.cell? ⟨w7.heap.size, 0, none⟩ = some (.int .u32 x7) ∧ w'.cell? ⟨w7.heap.size, 1, none⟩ = some (.int .i64 y7) ∧ w'.cell? ⟨w8.heap.size, 0, none⟩ = some (.int .u32 x7) ∧ w'.cell? ⟨w8.heap.size, 1, none⟩ = some (.int .i64 y7) ∧ w'.cell? ⟨w.heap.size, 0, none⟩ = some (.int .u32 m) ∧ w'.cell? ⟨w.heap.size, 1, none⟩ = some (.int .i64 s) ∧ Below w.heap.size w w' ∧ w8.heap.size + 1 ≤ w'.heap.size)
    ((refine ⟨?_, ?_, ?_, ?_, ?_, ?_, ?_, ?_, ?_, ?_, ?_, ?_, ?_, ?_⟩ <;> (first | with_reducible assumption | go_keep)))
    (((try go_split_ands); (first | (go_at_call 46; with_reducible refine (n1.out _ (LaidW.below hLH.out (by with_reducible assumption))).mono ?_) | (go_at_call 46; with_reducible refine (n3.out _ (LaidW.below hLH.out (by with_reducible assumption))).mono ?_) | (go_at_call 46; with_reducible refine (n5.out _ (LaidW.below hLH.out (by with_reducible assumption))).mono ?_) | (go_at_call 46; with_reducible refine (n7.out _ (LaidW.below hLH.out (by with_reducible assumption))).mono ?_) | (go_at_call 44; with_reducible refine (h9.out _).mono ?_) | (go_at_call 55; with_reducible refine (h10.out _).mono ?_) | (go_at_call 47; with_reducible refine (hs.out _ (LaidW.below hLH.out (by with_reducible assumption))).mono ?_)); (rintro e wn ⟨rfl, hbn⟩); have f0 := (hbn.cell (p := ⟨w1.heap.size, 0, none⟩) (Nat.lt_of_lt_of_le hZ1 (by with_reducible assumption))).trans (by with_reducible assumption); have f1 := (hbn.cell (p := ⟨w1.heap.size, 1, none⟩) (Nat.lt_of_lt_of_le hZ1 (by with_reducible assumption))).trans (by with_reducible assumption); have f2 := (hbn.cell (p := ⟨w2.heap.size, 0, none⟩) (Nat.lt_of_lt_of_le hZ2 (by with_reducible assumption))).trans (by with_reducible assumption); have f3 := (hbn.cell (p := ⟨w2.heap.size, 1, none⟩) (Nat.lt_of_lt_of_le hZ2 (by with_reducible assumption))).trans (by with_reducible assumption); have f4 := (hbn.cell (p := ⟨w2.heap.size + 1, 0, none⟩) (Nat.lt_of_lt_of_le hZ3 (by with_reducible assumption))).trans (by with_reducible assumption); have f5 := (hbn.cell (p := ⟨w2.heap.size + 1, 1, none⟩) (Nat.lt_of_lt_of_le hZ3 (by with_reducible assumption))).trans (by with_reducible assumption); have f6 := (hbn.cell (p := ⟨w7.heap.size, 0, none⟩) (Nat.lt_of_lt_of_le hZ4 (by with_reducible assumption))).trans (by with_reducible assumption); have f7 := (hbn.cell (p := ⟨w7.heap.size, 1, none⟩) (Nat.lt_of_lt_of_le hZ4 (by with_reducible assumption))).trans (by with_reducible assumption); have f8 := (hbn.cell (p := ⟨w8.heap.size, 0, none⟩) (Nat.lt_of_lt_of_le hZ5 (by with_reducible assumption))).trans (by with_reducible assumption); have f9 := (hbn.cell (p := ⟨w8.heap.size, 1, none⟩) (Nat.lt_of_lt_of_le hZ5 (by with_reducible assumption))).trans (by with_reducible assumption); have f10 := (hbn.cell (p := ⟨w.heap.size, 0, none⟩) (Nat.lt_of_lt_of_le hZ6 (by with_reducible assumption))).trans (by with_reducible assumption); have f11 := (hbn.cell (p := ⟨w.heap.size, 1, none⟩) (Nat.lt_of_lt_of_le hZ6 (by with_reducible assumption))).trans (by with_reducible assumption); have fb := Below.trans (b := _) (by with_reducible assumption : Below w.heap.size w _) (hbn.mono (Nat.le_trans (Nat.le_of_lt hZ6) (by with_reducible assumption))); have fz := Nat.le_trans (by with_reducible assumption : w8.heap.size + 1 ≤ _) hbn.size))
  all_goals
    go_wp2_with fail
    refine bp_ret ?_ rfl
    refine ⟨.bool true, ?_, rfl, ?_⟩
    · simp [results, Tryd.results10, go_sem]
    · assumption
set_option maxHeartbeats 4000000 in
set_option maxRecDepth 100000 in
theorem fits_no (a b m s n p x1 y1 x3 x5 x7 y7 : Int) (e1 e3 e5 e7 : Option Int) (w : World) (hLH : Hid (LaidW w))
    (h1 : Hid (∀ w, Calls Tryd.prog 48 #[.int .u64 a, .int .u64 b] w fun e w' => e = .returned (.tuple #[.agg #[.int .u32 x1, .int .i64 y1], errV e1]) ∧ Below w.heap.size w w'))
    (h2 : Hid (∀ w, Calls Tryd.prog 51 #[.int .u64 a, .int .u64 b] w fun e w' => e = .returned (.tuple #[.agg #[.int .u32 x1, .int .i64 y1], .int .i64 (numV e1)]) ∧ Below w.heap.size w w'))
    (h3 : Hid (∀ w, Calls Tryd.prog 49 #[.agg #[.int .u32 m, .int .i64 s], .int .i64 n] w fun e w' => e = .returned (.tuple #[.int .i64 x3, errV e3]) ∧ Below w.heap.size w w'))
    (h4 : Hid (∀ w, Calls Tryd.prog 52 #[.agg #[.int .u32 m, .int .i64 s], .int .i64 n] w fun e w' => e = .returned (.tuple #[.int .i64 x3, .int .i64 (numV e3)]) ∧ Below w.heap.size w w'))
    (h5 : Hid (∀ w, Calls Tryd.prog 50 #[.agg #[.int .u32 m, .int .i64 s], .int .i64 n] w fun e w' => e = .returned (.tuple #[.int .i64 x5, errV e5]) ∧ Below w.heap.size w w'))
    (h6 : Hid (∀ w, Calls Tryd.prog 53 #[.agg #[.int .u32 m, .int .i64 s], .int .i64 n] w fun e w' => e = .returned (.tuple #[.int .i64 x5, .int .i64 (numV e5)]) ∧ Below w.heap.size w w'))
    (h7 : Hid (∀ w, Calls Tryd.prog 45 #[.agg #[.int .u32 m, .int .i64 s], .int .i64 p] w fun e w' => e = .returned (.tuple #[.agg #[.int .u32 x7, .int .i64 y7], errV e7]) ∧ Below w.heap.size w w'))
    (h8 : Hid (∀ w, Calls Tryd.prog 54 #[.agg #[.int .u32 m, .int .i64 s], .int .i64 p] w fun e w' => e = .returned (.tuple #[.agg #[.int .u32 x7, .int .i64 y7], .int .i64 (numV e7)]) ∧ Below w.heap.size w w'))
    (h9 : Hid (∀ w, Calls Tryd.prog 44 #[.agg #[.int .u32 m, .int .i64 s]] w fun e w' => e = .returned (.iface 122 (.int .i64 1)) ∧ Below w.heap.size w w'))
    (h10 : Hid (∀ w, Calls Tryd.prog 55 #[.agg #[.int .u32 m, .int .i64 s]] w fun e w' => e = .returned (.bool false) ∧ Below w.heap.size w w')) :
    Calls Tryd.prog 10 #[.int .u64 a, .int .u64 b, .agg #[.int .u32 m, .int .i64 s, .int .i64 n, .int .i64 p]] w fun e w' => e = .returned (.bool true) ∧ Below w.heap.size w w' := by
  have n1 := Lib.hid (fun w (h : LaidW w) => law03_num e1 w h)
  have n3 := Lib.hid (fun w (h : LaidW w) => law03_num e3 w h)
  have n5 := Lib.hid (fun w (h : LaidW w) => law03_num e5 w h)
  have n7 := Lib.hid (fun w (h : LaidW w) => law03_num e7 w h)
  have hs := Lib.hid (fun w (h : LaidW w) => sure03 w h)
  generalize errV e1 = E1 at *
  generalize numV e1 = N1 at *
  generalize errV e3 = E3 at *
  generalize numV e3 = N3 at *
  generalize errV e5 = E5 at *
  generalize numV e5 = N5 at *
  generalize errV e7 = E7 at *
  generalize numV e7 = N7 at *
  go_enter Tryd.func10, Tryd.ntmps10
  go_wp2_with fail
  refine (h1.out _).mono ?_
  rintro e1 w1 ⟨rfl, hb1⟩
  obtain ⟨hc1, hf1⟩ := bcell hb1
  have hz1 := hb1.size
  try simp at hz1
  have hz1_0 : w.heap.size < w1.heap.size := by omega
  have hz1_w : w.heap.size < w1.heap.size := by omega
  have hz1_wa : w.heap.size < w1.heap.size + 1 := by omega
  have hz1_wb : w.heap.size ≤ w1.heap.size := by omega
  go_wp2_with fail
  refine (h2.out _).mono ?_
  rintro e2 w2 ⟨rfl, hb2⟩
  obtain ⟨hc2, hf2⟩ := bcell hb2
  have hz2 := hb2.size
  try simp at hz2
  have hz2_0 : w.heap.size < w2.heap.size := by omega
  have hz2_w : w.heap.size < w2.heap.size := by omega
  have hz2_w1 : w1.heap.size < w2.heap.size := by omega
  have hz2_wa : w.heap.size < w2.heap.size + 1 := by omega
  have hz2_w1a : w1.heap.size < w2.heap.size + 1 := by omega
  have hz2_wb : w.heap.size ≤ w2.heap.size := by omega
  have hz2_w1b : w1.heap.size ≤ w2.heap.size := by omega
  have hp2 : w.heap.size < w2.heap.size + 1 + 1 := by omega
  have hp2a : w1.heap.size < w2.heap.size + 1 + 1 := by omega
  go_wp2_with fail
  refine (h3.out _).mono ?_
  rintro e3 w3 ⟨rfl, hb3⟩
  obtain ⟨hc3, hf3⟩ := bcell hb3
  have hz3 := hb3.size
  try simp at hz3
  have hz3_0 : w.heap.size < w3.heap.size := by omega
  have hz3_w : w.heap.size < w3.heap.size := by omega
  have hz3_w1 : w1.heap.size < w3.heap.size := by omega
  have hz3_w2 : w2.heap.size < w3.heap.size := by omega
  have hz3_wa : w.heap.size < w3.heap.size + 1 := by omega
  have hz3_w1a : w1.heap.size < w3.heap.size + 1 := by omega
  have hz3_w2a : w2.heap.size < w3.heap.size + 1 := by omega
  have hz3_wb : w.heap.size ≤ w3.heap.size := by omega
  have hz3_w1b : w1.heap.size ≤ w3.heap.size := by omega
  have hz3_w2b : w2.heap.size ≤ w3.heap.size := by omega
  have hq3 : w2.heap.size + 1 < w3.heap.size := by omega
  have hq3a : w2.heap.size < w3.heap.size := by omega
  go_wp2_with fail
  refine (h4.out _).mono ?_
  rintro e4 w4 ⟨rfl, hb4⟩
  obtain ⟨hc4, hf4⟩ := bcell hb4
  have hz4 := hb4.size
  try simp at hz4
  have hz4_0 : w.heap.size < w4.heap.size := by omega
  have hz4_w : w.heap.size < w4.heap.size := by omega
  have hz4_w1 : w1.heap.size < w4.heap.size := by omega
  have hz4_w2 : w2.heap.size < w4.heap.size := by omega
  have hz4_wa : w.heap.size < w4.heap.size + 1 := by omega
  have hz4_w1a : w1.heap.size < w4.heap.size + 1 := by omega
  have hz4_w2a : w2.heap.size < w4.heap.size + 1 := by omega
  have hz4_wb : w.heap.size ≤ w4.heap.size := by omega
  have hz4_w1b : w1.heap.size ≤ w4.heap.size := by omega
  have hz4_w2b : w2.heap.size ≤ w4.heap.size := by omega
  have hq4 : w2.heap.size + 1 < w4.heap.size := by omega
  have hq4a : w2.heap.size < w4.heap.size := by omega
  go_wp2_with fail
  refine (h5.out _).mono ?_
  rintro e5 w5 ⟨rfl, hb5⟩
  obtain ⟨hc5, hf5⟩ := bcell hb5
  have hz5 := hb5.size
  try simp at hz5
  have hz5_0 : w.heap.size < w5.heap.size := by omega
  have hz5_w : w.heap.size < w5.heap.size := by omega
  have hz5_w1 : w1.heap.size < w5.heap.size := by omega
  have hz5_w2 : w2.heap.size < w5.heap.size := by omega
  have hz5_wa : w.heap.size < w5.heap.size + 1 := by omega
  have hz5_w1a : w1.heap.size < w5.heap.size + 1 := by omega
  have hz5_w2a : w2.heap.size < w5.heap.size + 1 := by omega
  have hz5_wb : w.heap.size ≤ w5.heap.size := by omega
  have hz5_w1b : w1.heap.size ≤ w5.heap.size := by omega
  have hz5_w2b : w2.heap.size ≤ w5.heap.size := by omega
  have hq5 : w2.heap.size + 1 < w5.heap.size := by omega
  have hq5a : w2.heap.size < w5.heap.size := by omega
  go_wp2_with fail
  refine (h6.out _).mono ?_
  rintro e6 w6 ⟨rfl, hb6⟩
  obtain ⟨hc6, hf6⟩ := bcell hb6
  have hz6 := hb6.size
  try simp at hz6
  have hz6_0 : w.heap.size < w6.heap.size := by omega
  have hz6_w : w.heap.size < w6.heap.size := by omega
  have hz6_w1 : w1.heap.size < w6.heap.size := by omega
  have hz6_w2 : w2.heap.size < w6.heap.size := by omega
  have hz6_wa : w.heap.size < w6.heap.size + 1 := by omega
  have hz6_w1a : w1.heap.size < w6.heap.size + 1 := by omega
  have hz6_w2a : w2.heap.size < w6.heap.size + 1 := by omega
  have hz6_wb : w.heap.size ≤ w6.heap.size := by omega
  have hz6_w1b : w1.heap.size ≤ w6.heap.size := by omega
  have hz6_w2b : w2.heap.size ≤ w6.heap.size := by omega
  have hq6 : w2.heap.size + 1 < w6.heap.size := by omega
  have hq6a : w2.heap.size < w6.heap.size := by omega
  go_wp2_with fail
  refine (h7.out _).mono ?_
  rintro e7 w7 ⟨rfl, hb7⟩
  obtain ⟨hc7, hf7⟩ := bcell hb7
  have hz7 := hb7.size
  try simp at hz7
  have hz7_0 : w.heap.size < w7.heap.size := by omega
  have hz7_w : w.heap.size < w7.heap.size := by omega
  have hz7_w1 : w1.heap.size < w7.heap.size := by omega
  have hz7_w2 : w2.heap.size < w7.heap.size := by omega
  have hz7_wa : w.heap.size < w7.heap.size + 1 := by omega
  have hz7_w1a : w1.heap.size < w7.heap.size + 1 := by omega
  have hz7_w2a : w2.heap.size < w7.heap.size + 1 := by omega
  have hz7_wb : w.heap.size ≤ w7.heap.size := by omega
  have hz7_w1b : w1.heap.size ≤ w7.heap.size := by omega
  have hz7_w2b : w2.heap.size ≤ w7.heap.size := by omega
  have hq7 : w2.heap.size + 1 < w7.heap.size := by omega
  have hq7a : w2.heap.size < w7.heap.size := by omega
  go_wp2_with fail
  refine (h8.out _).mono ?_
  rintro e8 w8 ⟨rfl, hb8⟩
  obtain ⟨hc8, hf8⟩ := bcell hb8
  have hz8 := hb8.size
  try simp at hz8
  have hz8_0 : w.heap.size < w8.heap.size := by omega
  have hz8_w : w.heap.size < w8.heap.size := by omega
  have hz8_w1 : w1.heap.size < w8.heap.size := by omega
  have hz8_w2 : w2.heap.size < w8.heap.size := by omega
  have hz8_w7 : w7.heap.size < w8.heap.size := by omega
  have hz8_wa : w.heap.size < w8.heap.size + 1 := by omega
  have hz8_w1a : w1.heap.size < w8.heap.size + 1 := by omega
  have hz8_w2a : w2.heap.size < w8.heap.size + 1 := by omega
  have hz8_w7a : w7.heap.size < w8.heap.size + 1 := by omega
  have hz8_wb : w.heap.size ≤ w8.heap.size := by omega
  have hz8_w1b : w1.heap.size ≤ w8.heap.size := by omega
  have hz8_w2b : w2.heap.size ≤ w8.heap.size := by omega
  have hz8_w7b : w7.heap.size ≤ w8.heap.size := by omega
  have hq8 : w2.heap.size + 1 < w8.heap.size := by omega
  have hq8a : w2.heap.size < w8.heap.size := by omega
  go_wp2_with fail
  refine wp_gen (fun wd => wd.cell? ⟨w1.heap.size, 0, none⟩ = some (.int .u32 x1) ∧ wd.cell? ⟨w1.heap.size, 1, none⟩ = some (.int .i64 y1) ∧ wd.cell? ⟨w2.heap.size, 0, none⟩ = some (.int .u32 x1) ∧ wd.cell? ⟨w2.heap.size, 1, none⟩ = some (.int .i64 y1) ∧ wd.cell? ⟨w2.heap.size + 1, 0, none⟩ = some (.int .u32 m) ∧ wd.cell? ⟨w2.heap.size + 1, 1, none⟩ = some (.int .i64 s) ∧ wd.cell? ⟨w7.heap.size, 0, none⟩ = some (.int .u32 x7) ∧ wd.cell? ⟨w7.heap.size, 1, none⟩ = some (.int .i64 y7) ∧ wd.cell? ⟨w8.heap.size, 0, none⟩ = some (.int .u32 x7) ∧ wd.cell? ⟨w8.heap.size, 1, none⟩ = some (.int .i64 y7) ∧ wd.cell? ⟨w.heap.size, 0, none⟩ = some (.int .u32 m) ∧ wd.cell? ⟨w.heap.size, 1, none⟩ = some (.int .i64 s) ∧ Below w.heap.size w wd ∧ w8.heap.size + 1 ≤ wd.heap.size) ⟨by first | (go_simp; done) | (simp; done), by first | (go_simp; done) | (simp; done), by first | (go_simp; done) | (simp; done), by first | (go_simp; done) | (simp; done), by first | (go_simp; done) | (simp; done), by first | (go_simp; done) | (simp; done), by first | (go_simp; done) | (simp; done), by first | (go_simp; done) | (simp; done), by first | (go_simp; done) | (simp; done), by first | (go_simp; done) | (simp; done), by first | (go_simp; done) | (simp; done), by first | (go_simp; done) | (simp; done), by repeat (first | exact Below.refl _ _ | assumption | (refine Below.alloc ?_ (by first | omega | (simp; done) | (simp; omega) | (simp at *; omega)) _) | (refine Below.setCell ?_ (by first | omega | (simp; done) | (simp; omega) | (simp at *; omega)) _) | (refine Below.trans ?_ (below_drewN _ _ _)) | (refine Below.drew ?_) | (refine Below.trans ?_ (Below.mono (by assumption) (by first | omega | (simp; done) | (simp; omega) | (simp at *; omega))))), by simp⟩ ?_
  have hZ1 : w1.heap.size < w8.heap.size + 1 := by omega
  have hZ2 : w2.heap.size < w8.heap.size + 1 := by omega
  have hZ3 : w2.heap.size + 1 < w8.heap.size + 1 := by omega
  have hZ4 : w7.heap.size < w8.heap.size + 1 := by omega
  have hZ5 : w8.heap.size < w8.heap.size + 1 := by omega
  have hZ6 : w.heap.size < w8.heap.size + 1 := by omega
  clear hb1 hc1 hf1
  clear hb2 hc2 hf2
  clear hb3 hc3 hf3
  clear hb4 hc4 hf4
  clear hb5 hc5 hf5
  clear hb6 hc6 hf6
  clear hb7 hc7 hf7
  clear hb8 hc8 hf8
  rintro wd ⟨k0, k1, k2, k3, k4, k5, k6, k7, k8, k9, k10, k11, kb, kz⟩
  have d0 : wd.drew.cell? ⟨w1.heap.size, 0, none⟩ = some (.int .u32 x1) := k0
  have d1 : wd.drew.cell? ⟨w1.heap.size, 1, none⟩ = some (.int .i64 y1) := k1
  have d2 : wd.drew.cell? ⟨w2.heap.size, 0, none⟩ = some (.int .u32 x1) := k2
  have d3 : wd.drew.cell? ⟨w2.heap.size, 1, none⟩ = some (.int .i64 y1) := k3
  have d4 : wd.drew.cell? ⟨w2.heap.size + 1, 0, none⟩ = some (.int .u32 m) := k4
  have d5 : wd.drew.cell? ⟨w2.heap.size + 1, 1, none⟩ = some (.int .i64 s) := k5
  have d6 : wd.drew.cell? ⟨w7.heap.size, 0, none⟩ = some (.int .u32 x7) := k6
  have d7 : wd.drew.cell? ⟨w7.heap.size, 1, none⟩ = some (.int .i64 y7) := k7
  have d8 : wd.drew.cell? ⟨w8.heap.size, 0, none⟩ = some (.int .u32 x7) := k8
  have d9 : wd.drew.cell? ⟨w8.heap.size, 1, none⟩ = some (.int .i64 y7) := k9
  have d10 : wd.drew.cell? ⟨w.heap.size, 0, none⟩ = some (.int .u32 m) := k10
  have d11 : wd.drew.cell? ⟨w.heap.size, 1, none⟩ = some (.int .i64 s) := k11
  have db : Below w.heap.size w wd.drew := kb.drew
  have dz : w8.heap.size + 1 ≤ wd.drew.heap.size := kz
  clear k0 k1 k2 k3 k4 k5 k6 k7 k8 k9 k10 k11 kb kz
  go_region_held3 (fun w' => w'.cell? ⟨w1.heap.size, 0, none⟩ = some (.int .u32 x1) ∧ w'.cell? ⟨w1.heap.size, 1, none⟩ = some (.int .i64 y1) ∧ w'.cell? ⟨w2.heap.size, 0, none⟩ = some (.int .u32 x1) ∧ w'.cell? ⟨w2.heap.size, 1, none⟩ = some (.int .i64 y1) ∧ w'.cell? ⟨w2.heap.size + 1, 0, none⟩ = some (.int .u32 m) ∧ w'.cell? ⟨w2.heap.size + 1, 1, none⟩ = some (.int .i64 s) ∧ w'.cell? ⟨w7.heap.size, 0, none⟩ = some (.int .u32 x7) ∧ w'.cell? ⟨w7.heap.size, 1, none⟩ = some (.int .i64 y7) ∧ w'.cell? ⟨w8.heap.size, 0, none⟩ = some (.int .u32 x7) ∧ w'.cell? ⟨w8.heap.size, 1, none⟩ = some (.int .i64 y7) ∧ w'.cell? ⟨w.heap.size, 0, none⟩ = some (.int .u32 m) ∧ w'.cell? ⟨w.heap.size, 1, none⟩ = some (.int .i64 s) ∧ Below w.heap.size w w' ∧ w8.heap.size + 1 ≤ w'.heap.size)
    ((refine ⟨?_, ?_, ?_, ?_, ?_, ?_, ?_, ?_, ?_, ?_, ?_, ?_, ?_, ?_⟩ <;> (first | with_reducible assumption | go_keep)))
    (((try go_split_ands); (first | (go_at_call 46; with_reducible refine (n1.out _ (LaidW.below hLH.out (by with_reducible assumption))).mono ?_) | (go_at_call 46; with_reducible refine (n3.out _ (LaidW.below hLH.out (by with_reducible assumption))).mono ?_) | (go_at_call 46; with_reducible refine (n5.out _ (LaidW.below hLH.out (by with_reducible assumption))).mono ?_) | (go_at_call 46; with_reducible refine (n7.out _ (LaidW.below hLH.out (by with_reducible assumption))).mono ?_) | (go_at_call 44; with_reducible refine (h9.out _).mono ?_) | (go_at_call 55; with_reducible refine (h10.out _).mono ?_) | (go_at_call 47; with_reducible refine (hs.out _ (LaidW.below hLH.out (by with_reducible assumption))).mono ?_)); (rintro e wn ⟨rfl, hbn⟩); have f0 := (hbn.cell (p := ⟨w1.heap.size, 0, none⟩) (Nat.lt_of_lt_of_le hZ1 (by with_reducible assumption))).trans (by with_reducible assumption); have f1 := (hbn.cell (p := ⟨w1.heap.size, 1, none⟩) (Nat.lt_of_lt_of_le hZ1 (by with_reducible assumption))).trans (by with_reducible assumption); have f2 := (hbn.cell (p := ⟨w2.heap.size, 0, none⟩) (Nat.lt_of_lt_of_le hZ2 (by with_reducible assumption))).trans (by with_reducible assumption); have f3 := (hbn.cell (p := ⟨w2.heap.size, 1, none⟩) (Nat.lt_of_lt_of_le hZ2 (by with_reducible assumption))).trans (by with_reducible assumption); have f4 := (hbn.cell (p := ⟨w2.heap.size + 1, 0, none⟩) (Nat.lt_of_lt_of_le hZ3 (by with_reducible assumption))).trans (by with_reducible assumption); have f5 := (hbn.cell (p := ⟨w2.heap.size + 1, 1, none⟩) (Nat.lt_of_lt_of_le hZ3 (by with_reducible assumption))).trans (by with_reducible assumption); have f6 := (hbn.cell (p := ⟨w7.heap.size, 0, none⟩) (Nat.lt_of_lt_of_le hZ4 (by with_reducible assumption))).trans (by with_reducible assumption); have f7 := (hbn.cell (p := ⟨w7.heap.size, 1, none⟩) (Nat.lt_of_lt_of_le hZ4 (by with_reducible assumption))).trans (by with_reducible assumption); have f8 := (hbn.cell (p := ⟨w8.heap.size, 0, none⟩) (Nat.lt_of_lt_of_le hZ5 (by with_reducible assumption))).trans (by with_reducible assumption); have f9 := (hbn.cell (p := ⟨w8.heap.size, 1, none⟩) (Nat.lt_of_lt_of_le hZ5 (by with_reducible assumption))).trans (by with_reducible assumption); have f10 := (hbn.cell (p := ⟨w.heap.size, 0, none⟩) (Nat.lt_of_lt_of_le hZ6 (by with_reducible assumption))).trans (by with_reducible assumption); have f11 := (hbn.cell (p := ⟨w.heap.size, 1, none⟩) (Nat.lt_of_lt_of_le hZ6 (by with_reducible assumption))).trans (by with_reducible assumption); have fb := Below.trans (b := _) (by with_reducible assumption : Below w.heap.size w _) (hbn.mono (Nat.le_trans (Nat.le_of_lt hZ6) (by with_reducible assumption))); have fz := Nat.le_trans (by with_reducible assumption : w8.heap.size + 1 ≤ _) hbn.size))
  all_goals
    go_wp2_with fail
    refine bp_ret ?_ rfl
    refine ⟨.bool true, ?_, rfl, ?_⟩
    · simp [results, Tryd.results10, go_sem]
    · assumption
theorem law_RatioFits (a b m s n p : Int) (ha : 0 ≤ a) (hb : 0 ≤ b) (hm0 : 0 ≤ m) (hm1 : m < 4294967296) (hs : in64 s) (hn : in64 n) (hp : in64 p) (w : World) (hL : LaidW w) :
    Calls Tryd.prog 10 #[.int .u64 a, .int .u64 b, .agg #[.int .u32 m, .int .i64 s, .int .i64 n, .int .i64 p]] w fun e w' => e = .returned (.bool true) ∧ Below w.heap.size w w' := by
  have c1 := fun w => ratio_Fit a b ha hb w
  have c2 := fun w => ref_Fit a b ha hb w
  have c3 := fun w => ratio_Scale m s n hm0 hm1 hn w
  have c4 := fun w => ref_Scale m s n hm0 hm1 hs hn w
  have c5 := fun w => ratio_Off m s n hn w
  have c6 := fun w => ref_Off m s n hm0 hn w
  have c7 := fun w => ratio_Adjust m s p hm0 hm1 w
  have c8 := fun w => ref_Adjust m s p hm0 hm1 hs hp w
  rw [fitR_fi] at c1
  rw [scaleR_sc] at c3
  rw [offR_of m s n] at c5
  rw [adjR_ad] at c7
  unfold fv at c3 c5 c7
  unfold refF at c2 c8
  unfold refP at c4 c6
  by_cases h : mayF m s
  · exact fits_yes a b m s n p _ _ _ _ _ _ _ _ _ _ w (Lib.hid hL) (Lib.hid c1) (Lib.hid c2) (Lib.hid c3) (Lib.hid c4) (Lib.hid c5) (Lib.hid c6) (Lib.hid c7) (Lib.hid c8) (Lib.hid fun w => ratio_Check_yes m s h w) (Lib.hid fun w => ref_May_yes m s hm0 h w)
  · exact fits_no a b m s n p _ _ _ _ _ _ _ _ _ _ w (Lib.hid hL) (Lib.hid c1) (Lib.hid c2) (Lib.hid c3) (Lib.hid c4) (Lib.hid c5) (Lib.hid c6) (Lib.hid c7) (Lib.hid c8) (Lib.hid fun w => ratio_Check_no m s h w) (Lib.hid fun w => ref_May_no m s hm0 h w)
theorem law_RatioFits_row (a b m s n p : Int) (w : World) (hL : LaidW w) (ha : (Lit.int .u64 a).wf = true) (hb : (Lit.int .u64 b).wf = true) (hm : (Lit.int .u32 m).wf = true) (hs : (Lit.int .i64 s).wf = true) (hn : (Lit.int .i64 n).wf = true) (hp : (Lit.int .i64 p).wf = true) :
    Calls Tryd.prog 10 #[.int .u64 a, .int .u64 b, .agg #[.int .u32 m, .int .i64 s, .int .i64 n, .int .i64 p]] w fun e w' => e = .returned (.bool true) ∧ Below w.heap.size w w' :=
  law_RatioFits a b m s n p (wf_u64 ha).1 (wf_u64 hb).1 (wf_u32 hm).1 (wf_u32 hm).2 (wf_i64 hs) (wf_i64 hn) (wf_i64 hp) w hL
end Go.Proofs.YtkdjfakjnkemiaaDoor
