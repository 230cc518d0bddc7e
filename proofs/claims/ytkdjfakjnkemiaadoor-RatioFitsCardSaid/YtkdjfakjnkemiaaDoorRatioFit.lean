/- ratio.Fit: the nearest factor of a fraction, by the shift that goes down until the factor fits. -/
import Derived.Test.YtkdjfakjnkemiaaDoorRatio
import Derived.ScopeJumps
import Derived.WalkMore
namespace Go.Proofs.YtkdjfakjnkemiaaDoor
open Go.RowKit

def fitN (a b : Int) (s : Nat) : Int := a * 2 ^ s / b
def fitS (a b : Int) : Nat → Option (Int × Nat)
  | 0 => if fitN a b 0 < 4294967296 then (if fitN a b 0 = 0 then none else some (fitN a b 0, 0)) else none
  | s + 1 => if fitN a b (s + 1) < 4294967296 then (if fitN a b (s + 1) = 0 then none else some (fitN a b (s + 1), s + 1)) else fitS a b s
theorem fitS_small {a b : Int} {s : Nat} (h : fitN a b s < 4294967296) (h0 : fitN a b s = 0) : fitS a b s = none := by
  cases s <;> (unfold fitS; rw [if_pos h, if_pos h0])
theorem fitS_fits {a b : Int} {s : Nat} (h : fitN a b s < 4294967296) (h0 : ¬ fitN a b s = 0) : fitS a b s = some (fitN a b s, s) := by
  cases s <;> (unfold fitS; rw [if_pos h, if_neg h0])
theorem fitS_down {a b : Int} {s : Nat} (h : ¬ fitN a b (s + 1) < 4294967296) : fitS a b (s + 1) = fitS a b s := by
  rw [fitS, if_neg h]
theorem fitS_last {a b : Int} (h : ¬ fitN a b 0 < 4294967296) : fitS a b 0 = none := by
  unfold fitS; rw [if_neg h]
def fitR0 : Option (Int × Nat) → Value
  | none => .tuple #[.agg #[.int .u32 0, .int .i64 0], .iface 122 (.int .i64 2)]
  | some (n, s) => .tuple #[.agg #[.int .u32 n, .int .i64 s], .nilIface]
def mayFit (a b : Int) : Prop := a ≠ 0 ∧ b ≠ 0 ∧ a ≤ 1099511627776 ∧ b ≤ 1099511627776
instance (a b : Int) : Decidable (mayFit a b) := inferInstanceAs (Decidable (_ ∧ _))
def fitR (a b : Int) : Value := if mayFit a b then fitR0 (fitS a b 31) else pairV (fv 0 0) (some 1)
theorem fitN_nonneg {a b : Int} (ha : 0 ≤ a) (hb : 0 ≤ b) (s : Nat) : 0 ≤ fitN a b s := by
  unfold fitN
  refine Int.ediv_nonneg (Int.mul_nonneg ha ?_) hb
  exact Int.pow_nonneg (by omega)
/-- One call of at, by its answer. -/
theorem at_fits (a b : Int) (s : Nat) (ha : in64 a) (hb : in64 b) (hb1 : 1 ≤ b) (hs : s ≤ 31) (h : in64 (fitN a b s)) (w : World) :
    Calls Tryd.prog 86 #[.int .u64 a, .int .u64 b, .int .i64 s] w fun e w' => e = .returned (.tuple #[.int .i64 (fitN a b s), .nilIface]) ∧ Below w.heap.size w w' := by
  have c := ratio_at a b s ha hb hs w
  unfold mulDivR at c
  rw [if_neg (by omega)] at c
  change Calls _ _ _ _ (fun e w' => e = .returned (fitI (fitN a b s)) ∧ _) at c
  rw [fitI_pos h] at c
  exact c
theorem at_not (a b : Int) (s : Nat) (ha : in64 a) (hb : in64 b) (hb1 : 1 ≤ b) (hs : s ≤ 31) (h : ¬ in64 (fitN a b s)) (w : World) :
    Calls Tryd.prog 86 #[.int .u64 a, .int .u64 b, .int .i64 s] w fun e w' => e = .returned (.tuple #[.int .i64 0, .iface 122 (.int .i64 2)]) ∧ Below w.heap.size w w' := by
  have c := ratio_at a b s ha hb hs w
  unfold mulDivR at c
  rw [if_neg (by omega)] at c
  change Calls _ _ _ _ (fun e w' => e = .returned (fitI (fitN a b s)) ∧ _) at c
  rw [fitI_neg h] at c
  exact c
theorem ratio_Fit_no (a b : Int) (h : ¬ mayFit a b) (w : World) :
    Calls Tryd.prog 48 #[.int .u64 a, .int .u64 b] w fun e w' => e = .returned (.tuple #[.agg #[.int .u32 0, .int .i64 0], .iface 122 (.int .i64 1)]) ∧ Below w.heap.size w w' := by
  unfold mayFit at h
  by_cases h1 : a = 0
  · subst h1
    clear h
    go_enter Tryd.func48, Tryd.ntmps48
    go_wp2_with fail
    refine wp_scope_straight ?_
    go_wp2_with fail
    simp only [Exit.noGoto_ret]
    refine bp_ret ⟨?_, ?_, ?_, ?_⟩ rfl; rotate_left
    · (simp [results, Tryd.results48, go_sem, *]; rfl)
    rotate_left
    · repeat (first | exact Below.refl _ _ | assumption | (refine Below.alloc ?_ (by first | omega | (simp; done) | (simp; omega) | (simp at *; omega)) _) | (refine Below.setCell ?_ (by first | omega | (simp; done) | (simp; omega) | (simp at *; omega)) _) | (refine Below.trans ?_ (below_drewN _ _ _)) | (refine Below.drew ?_) | (refine Below.trans ?_ (Below.mono (by assumption) (by first | omega | (simp; done) | (simp; omega) | (simp at *; omega)))))
    · rfl
  · by_cases h2 : b = 0
    · subst h2
      clear h
      have h1' : (a == 0) = false := by simpa using h1
      go_enter Tryd.func48, Tryd.ntmps48
      go_wp2_with fail
      refine wp_scope_straight ?_
      go_wp2_with fail
      simp only [Exit.noGoto_ret]
      refine bp_ret ⟨?_, ?_, ?_, ?_⟩ rfl; rotate_left
      · (simp [results, Tryd.results48, go_sem, *]; rfl)
      rotate_left
      · repeat (first | exact Below.refl _ _ | assumption | (refine Below.alloc ?_ (by first | omega | (simp; done) | (simp; omega) | (simp at *; omega)) _) | (refine Below.setCell ?_ (by first | omega | (simp; done) | (simp; omega) | (simp at *; omega)) _) | (refine Below.trans ?_ (below_drewN _ _ _)) | (refine Below.drew ?_) | (refine Below.trans ?_ (Below.mono (by assumption) (by first | omega | (simp; done) | (simp; omega) | (simp at *; omega)))))
      · rfl
    · have h1' : (a == 0) = false := by simpa using h1
      have h2' : (b == 0) = false := by simpa using h2
      by_cases h3 : 1099511627776 < a
      · clear h
        go_enter Tryd.func48, Tryd.ntmps48
        go_wp2_with fail
        refine wp_scope_straight ?_
        go_wp2_with fail
        simp only [Exit.noGoto_ret]
        refine bp_ret ⟨?_, ?_, ?_, ?_⟩ rfl; rotate_left
        · (simp [results, Tryd.results48, go_sem, *]; rfl)
        rotate_left
        · repeat (first | exact Below.refl _ _ | assumption | (refine Below.alloc ?_ (by first | omega | (simp; done) | (simp; omega) | (simp at *; omega)) _) | (refine Below.setCell ?_ (by first | omega | (simp; done) | (simp; omega) | (simp at *; omega)) _) | (refine Below.trans ?_ (below_drewN _ _ _)) | (refine Below.drew ?_) | (refine Below.trans ?_ (Below.mono (by assumption) (by first | omega | (simp; done) | (simp; omega) | (simp at *; omega)))))
        · rfl
      · have h4 : 1099511627776 < b := by
          rcases Int.lt_or_le 1099511627776 b with hq | hq
          · exact hq
          · exact absurd ⟨h1, h2, by omega, hq⟩ h
        clear h
        go_enter Tryd.func48, Tryd.ntmps48
        go_wp2_with fail
        refine wp_scope_straight ?_
        go_wp2_with fail
        simp only [Exit.noGoto_ret]
        refine bp_ret ⟨?_, ?_, ?_, ?_⟩ rfl; rotate_left
        · (simp [results, Tryd.results48, go_sem, *]; rfl)
        rotate_left
        · repeat (first | exact Below.refl _ _ | assumption | (refine Below.alloc ?_ (by first | omega | (simp; done) | (simp; omega) | (simp at *; omega)) _) | (refine Below.setCell ?_ (by first | omega | (simp; done) | (simp; omega) | (simp at *; omega)) _) | (refine Below.trans ?_ (below_drewN _ _ _)) | (refine Below.drew ?_) | (refine Below.trans ?_ (Below.mono (by assumption) (by first | omega | (simp; done) | (simp; omega) | (simp at *; omega)))))
        · rfl
set_option maxHeartbeats 2000000 in
set_option maxRecDepth 1000000 in
theorem ratio_Fit_yes (a b : Int) (h : mayFit a b) (ha0 : 0 ≤ a) (hb0 : 0 ≤ b) (w : World) :
    Calls Tryd.prog 48 #[.int .u64 a, .int .u64 b] w fun e w' => e = .returned (fitR0 (fitS a b 31)) ∧ Below w.heap.size w w' := by
  obtain ⟨h1, h2, h3, h4⟩ := h
  have h1' : (a == 0) = false := by simpa using h1
  have h2' : (b == 0) = false := by simpa using h2
  have ia : in64 a := by unfold in64; omega
  have ib : in64 b := by unfold in64; omega
  have b1 : 1 ≤ b := by omega
  have cF := Lib.hid (fun s hs h w => at_fits a b s ia ib b1 hs h w)
  have cN := Lib.hid (fun s hs h w => at_not a b s ia ib b1 hs h w)
  have cP := Lib.hid (fun s => fitN_nonneg ha0 hb0 s)
  generalize hR : fitS a b 31 = R
  have hRH := Lib.hid hR
  clear ia ib b1 h1 h2 hR
  go_enter Tryd.func48, Tryd.ntmps48
  go_wp2_with fail
  refine wp_scope_jumps 0 (fun a' w' => ∃ (s : Nat) (u7 u8 u9 u10 u11 u12 u13 u14 u15 u16 u17 u18 u19 u20 u21 u22 u23 u24 u25 u26 u27 u28 u29 u30 u31 u32 u33 u34 u35 u36 u37 u38 u39 u40 u41 u42 u43 u44 u45 u46 u47 u48 u49 u50 u51 : Value), a' = { tmps := #[.int .u64 a, .int .u64 b, undef, undef, .pointer (some ⟨w.heap.size, 0, none⟩), .nilIface, .int .i64 (s : Int), u7, u8, u9, u10, u11, u12, u13, u14, u15, u16, u17, u18, u19, u20, u21, u22, u23, u24, u25, u26, u27, u28, u29, u30, u31, u32, u33, u34, u35, u36, u37, u38, u39, u40, u41, u42, u43, u44, u45, u46, u47, u48, u49, u50, u51], defers := [] } ∧ s ≤ 31 ∧ Hid (fitS a b s = R) ∧ w'.cell? ⟨w.heap.size, 0, none⟩ = some (.int .u32 0) ∧ w'.cell? ⟨w.heap.size, 1, none⟩ = some (.int .i64 0) ∧ w'.frozen? ⟨w.heap.size, 0, none⟩ = false ∧ w'.frozen? ⟨w.heap.size, 1, none⟩ = false ∧ w.heap.size < w'.heap.size ∧ Below w.heap.size w w')
    (fun a' _ => (intOf (a'.tmps.getD 6 undef)).toNat) rfl ?_ ?_
  · have hRs := hRH
    go_wp2_with fail
    go_step3
    go_wp2_with fail
    have P0 := cP.out 31
    by_cases i1 : in64 (fitN a b 31)
    · have cc := Lib.hid (fun w => cF.out 31 (by omega) i1 w)
      by_cases i2 : fitN a b 31 < 4294967296
      · by_cases i3 : fitN a b 31 = 0
        · have eR := Lib.hid ((fitS_small i2 i3).symm.trans hRs.out)
          rw [i3] at cc
          clear P0 i1 i2 i3
          go_wp2_with fail
          refine (cc.out _).mono ?_
          rintro e1 w1 ⟨rfl, hb1⟩
          obtain ⟨hc1, hf1⟩ := bcell hb1
          have hz1 := hb1.size
          try simp at hz1
          have hz1_0 : w.heap.size < w1.heap.size := by omega
          go_wp2_with fail
          simp only [Exit.jump]
          refine bp_ret ⟨?_, ?_, ?_, ?_⟩ rfl; rotate_left
          · (simp [results, Tryd.results48, go_sem, *]; rfl)
          rotate_left
          · repeat (first | exact Below.refl _ _ | assumption | (refine Below.alloc ?_ (by first | omega | (simp; done) | (simp; omega) | (simp at *; omega)) _) | (refine Below.setCell ?_ (by first | omega | (simp; done) | (simp; omega) | (simp at *; omega)) _) | (refine Below.trans ?_ (below_drewN _ _ _)) | (refine Below.drew ?_) | (refine Below.trans ?_ (Below.mono (by assumption) (by first | omega | (simp; done) | (simp; omega) | (simp at *; omega)))))
          · rw [← eR.out]; rfl
        · have eR := Lib.hid ((fitS_fits i2 i3).symm.trans hRs.out)
          have i3' : (fitN a b 31 == 0) = false := by simpa using i3
          have i1H := Lib.hid i1
          clear i1 i3
          generalize fitN a b 31 = N at *
          go_wp2_with fail
          refine (cc.out _).mono ?_
          rintro e1 w1 ⟨rfl, hb1⟩
          obtain ⟨hc1, hf1⟩ := bcell hb1
          have hz1 := hb1.size
          try simp at hz1
          have hz1_0 : w.heap.size < w1.heap.size := by omega
          go_wp2_with fail
          simp only [Exit.jump]
          refine bp_ret ⟨?_, ?_, ?_, ?_⟩ rfl; rotate_left
          · (simp [results, Tryd.results48, go_sem, *]; rfl)
          rotate_left
          · repeat (first | exact Below.refl _ _ | assumption | (refine Below.alloc ?_ (by first | omega | (simp; done) | (simp; omega) | (simp at *; omega)) _) | (refine Below.setCell ?_ (by first | omega | (simp; done) | (simp; omega) | (simp at *; omega)) _) | (refine Below.trans ?_ (below_drewN _ _ _)) | (refine Below.drew ?_) | (refine Below.trans ?_ (Below.mono (by assumption) (by first | omega | (simp; done) | (simp; omega) | (simp at *; omega)))))
          · rw [← eR.out]; rfl
      · have i2' : 4294967296 ≤ fitN a b 31 := by omega
        have i1H := Lib.hid i1
        clear i1
        have eD := Lib.hid ((fitS_down (s := 30) i2).symm.trans hRs.out)
        generalize fitN a b 31 = N at *
        go_wp2_with fail
        refine (cc.out _).mono ?_
        rintro e1 w1 ⟨rfl, hb1⟩
        obtain ⟨hc1, hf1⟩ := bcell hb1
        have hz1 := hb1.size
        try simp at hz1
        have hz1_0 : w.heap.size < w1.heap.size := by omega
        go_wp2_with fail
        go_step3
        exact ⟨rfl, 30, _, _, _, _, _, _, _, _, _, _, _, _, _, _, _, _, _, _, _, _, _, _, _, _, _, _, _, _, _, _, _, _, _, _, _, _, _, _, _, _, _, _, _, _, _, rfl, by omega, Lib.hid eD.out, by go_simp, by go_simp, by go_simp, by go_simp, by omega, by repeat (first | exact Below.refl _ _ | assumption | (refine Below.alloc ?_ (by first | omega | (simp; done) | (simp; omega) | (simp at *; omega)) _) | (refine Below.setCell ?_ (by first | omega | (simp; done) | (simp; omega) | (simp at *; omega)) _) | (refine Below.trans ?_ (below_drewN _ _ _)) | (refine Below.drew ?_) | (refine Below.trans ?_ (Below.mono (by assumption) (by first | omega | (simp; done) | (simp; omega) | (simp at *; omega)))))⟩
    · have cc := Lib.hid (fun w => cN.out 31 (by omega) i1 w)
      have i2 : ¬ fitN a b 31 < 4294967296 := by
        unfold in64 at i1; omega
      clear i1
      have eD := Lib.hid ((fitS_down (s := 30) i2).symm.trans hRs.out)
      generalize fitN a b 31 = N at *
      go_wp2_with fail
      refine (cc.out _).mono ?_
      rintro e1 w1 ⟨rfl, hb1⟩
      obtain ⟨hc1, hf1⟩ := bcell hb1
      have hz1 := hb1.size
      try simp at hz1
      have hz1_0 : w.heap.size < w1.heap.size := by omega
      go_wp2_with fail
      go_step3
      exact ⟨rfl, 30, _, _, _, _, _, _, _, _, _, _, _, _, _, _, _, _, _, _, _, _, _, _, _, _, _, _, _, _, _, _, _, _, _, _, _, _, _, _, _, _, _, _, _, _, _, rfl, by omega, Lib.hid eD.out, by go_simp, by go_simp, by go_simp, by go_simp, by omega, by repeat (first | exact Below.refl _ _ | assumption | (refine Below.alloc ?_ (by first | omega | (simp; done) | (simp; omega) | (simp at *; omega)) _) | (refine Below.setCell ?_ (by first | omega | (simp; done) | (simp; omega) | (simp at *; omega)) _) | (refine Below.trans ?_ (below_drewN _ _ _)) | (refine Below.drew ?_) | (refine Below.trans ?_ (Below.mono (by assumption) (by first | omega | (simp; done) | (simp; omega) | (simp at *; omega)))))⟩
  · rintro a' w0 ⟨s, u7, u8, u9, u10, u11, u12, u13, u14, u15, u16, u17, u18, u19, u20, u21, u22, u23, u24, u25, u26, u27, u28, u29, u30, u31, u32, u33, u34, u35, u36, u37, u38, u39, u40, u41, u42, u43, u44, u45, u46, u47, u48, u49, u50, u51, rfl, hs, hRs, k0, k1, k2, k3, k4, k5⟩
    have hs' : (s : Int) ≤ 31 := by omega
    have P0 := cP.out s
    by_cases i1 : in64 (fitN a b s)
    · have cc := Lib.hid (fun w => cF.out s hs i1 w)
      by_cases i2 : fitN a b s < 4294967296
      · by_cases i3 : fitN a b s = 0
        · have eR := Lib.hid ((fitS_small i2 i3).symm.trans hRs.out)
          rw [i3] at cc
          clear P0 i1 i2 i3
          go_wp2_with fail
          refine (cc.out _).mono ?_
          rintro e1 w1 ⟨rfl, hb1⟩
          obtain ⟨hc1, hf1⟩ := bcell hb1
          have hz1 := hb1.size
          try simp at hz1
          have hz1_0 : w.heap.size < w1.heap.size := by omega
          go_wp2_with fail
          simp only [Exit.jump]
          refine bp_ret ⟨?_, ?_, ?_, ?_⟩ rfl; rotate_left
          · (simp [results, Tryd.results48, go_sem, *]; rfl)
          rotate_left
          · repeat (first | exact Below.refl _ _ | assumption | (refine Below.alloc ?_ (by first | omega | (simp; done) | (simp; omega) | (simp at *; omega)) _) | (refine Below.setCell ?_ (by first | omega | (simp; done) | (simp; omega) | (simp at *; omega)) _) | (refine Below.trans ?_ (below_drewN _ _ _)) | (refine Below.drew ?_) | (refine Below.trans ?_ (Below.mono (by assumption) (by first | omega | (simp; done) | (simp; omega) | (simp at *; omega)))))
          · rw [← eR.out]; rfl
        · have eR := Lib.hid ((fitS_fits i2 i3).symm.trans hRs.out)
          have i3' : (fitN a b s == 0) = false := by simpa using i3
          have i1H := Lib.hid i1
          clear i1 i3
          generalize fitN a b s = N at *
          go_wp2_with fail
          refine (cc.out _).mono ?_
          rintro e1 w1 ⟨rfl, hb1⟩
          obtain ⟨hc1, hf1⟩ := bcell hb1
          have hz1 := hb1.size
          try simp at hz1
          have hz1_0 : w.heap.size < w1.heap.size := by omega
          go_wp2_with fail
          simp only [Exit.jump]
          refine bp_ret ⟨?_, ?_, ?_, ?_⟩ rfl; rotate_left
          · (simp [results, Tryd.results48, go_sem, *]; rfl)
          rotate_left
          · repeat (first | exact Below.refl _ _ | assumption | (refine Below.alloc ?_ (by first | omega | (simp; done) | (simp; omega) | (simp at *; omega)) _) | (refine Below.setCell ?_ (by first | omega | (simp; done) | (simp; omega) | (simp at *; omega)) _) | (refine Below.trans ?_ (below_drewN _ _ _)) | (refine Below.drew ?_) | (refine Below.trans ?_ (Below.mono (by assumption) (by first | omega | (simp; done) | (simp; omega) | (simp at *; omega)))))
          · rw [← eR.out]; rfl
      · have i2' : 4294967296 ≤ fitN a b s := by omega
        have i1H := Lib.hid i1
        clear i1
        cases s with
        | zero =>
          have eR := Lib.hid ((fitS_last i2).symm.trans hRs.out)
          generalize fitN a b 0 = N at *
          go_wp2_with fail
          refine (cc.out _).mono ?_
          rintro e1 w1 ⟨rfl, hb1⟩
          obtain ⟨hc1, hf1⟩ := bcell hb1
          have hz1 := hb1.size
          try simp at hz1
          have hz1_0 : w.heap.size < w1.heap.size := by omega
          go_wp2_with fail
          simp only [Exit.jump]
          refine bp_ret ⟨?_, ?_, ?_, ?_⟩ rfl; rotate_left
          · (simp [results, Tryd.results48, go_sem, *]; rfl)
          rotate_left
          · repeat (first | exact Below.refl _ _ | assumption | (refine Below.alloc ?_ (by first | omega | (simp; done) | (simp; omega) | (simp at *; omega)) _) | (refine Below.setCell ?_ (by first | omega | (simp; done) | (simp; omega) | (simp at *; omega)) _) | (refine Below.trans ?_ (below_drewN _ _ _)) | (refine Below.drew ?_) | (refine Below.trans ?_ (Below.mono (by assumption) (by first | omega | (simp; done) | (simp; omega) | (simp at *; omega)))))
          · rw [← eR.out]; rfl
        | succ s =>
          have eD := Lib.hid ((fitS_down i2).symm.trans hRs.out)
          generalize fitN a b (s + 1) = N at *
          go_wp2_with fail
          refine (cc.out _).mono ?_
          rintro e1 w1 ⟨rfl, hb1⟩
          obtain ⟨hc1, hf1⟩ := bcell hb1
          have hz1 := hb1.size
          try simp at hz1
          have hz1_0 : w.heap.size < w1.heap.size := by omega
          go_wp2_with fail
          go_step3
          exact ⟨rfl, ⟨s, _, _, _, _, _, _, _, _, _, _, _, _, _, _, _, _, _, _, _, _, _, _, _, _, _, _, _, _, _, _, _, _, _, _, _, _, _, _, _, _, _, _, _, _, _, rfl, by omega, Lib.hid eD.out, by go_simp, by go_simp, by go_simp, by go_simp, by omega, by repeat (first | exact Below.refl _ _ | assumption | (refine Below.alloc ?_ (by first | omega | (simp; done) | (simp; omega) | (simp at *; omega)) _) | (refine Below.setCell ?_ (by first | omega | (simp; done) | (simp; omega) | (simp at *; omega)) _) | (refine Below.trans ?_ (below_drewN _ _ _)) | (refine Below.drew ?_) | (refine Below.trans ?_ (Below.mono (by assumption) (by first | omega | (simp; done) | (simp; omega) | (simp at *; omega)))))⟩, by simp [intOf]⟩
    · have cc := Lib.hid (fun w => cN.out s hs i1 w)
      have i2 : ¬ fitN a b s < 4294967296 := by
        unfold in64 at i1; omega
      clear i1
      cases s with
      | zero =>
        have eR := Lib.hid ((fitS_last i2).symm.trans hRs.out)
        generalize fitN a b 0 = N at *
        go_wp2_with fail
        refine (cc.out _).mono ?_
        rintro e1 w1 ⟨rfl, hb1⟩
        obtain ⟨hc1, hf1⟩ := bcell hb1
        have hz1 := hb1.size
        try simp at hz1
        have hz1_0 : w.heap.size < w1.heap.size := by omega
        go_wp2_with fail
        simp only [Exit.jump]
        refine bp_ret ⟨?_, ?_, ?_, ?_⟩ rfl; rotate_left
        · (simp [results, Tryd.results48, go_sem, *]; rfl)
        rotate_left
        · repeat (first | exact Below.refl _ _ | assumption | (refine Below.alloc ?_ (by first | omega | (simp; done) | (simp; omega) | (simp at *; omega)) _) | (refine Below.setCell ?_ (by first | omega | (simp; done) | (simp; omega) | (simp at *; omega)) _) | (refine Below.trans ?_ (below_drewN _ _ _)) | (refine Below.drew ?_) | (refine Below.trans ?_ (Below.mono (by assumption) (by first | omega | (simp; done) | (simp; omega) | (simp at *; omega)))))
        · rw [← eR.out]; rfl
      | succ s =>
        have eD := Lib.hid ((fitS_down i2).symm.trans hRs.out)
        generalize fitN a b (s + 1) = N at *
        go_wp2_with fail
        refine (cc.out _).mono ?_
        rintro e1 w1 ⟨rfl, hb1⟩
        obtain ⟨hc1, hf1⟩ := bcell hb1
        have hz1 := hb1.size
        try simp at hz1
        have hz1_0 : w.heap.size < w1.heap.size := by omega
        go_wp2_with fail
        go_step3
        exact ⟨rfl, ⟨s, _, _, _, _, _, _, _, _, _, _, _, _, _, _, _, _, _, _, _, _, _, _, _, _, _, _, _, _, _, _, _, _, _, _, _, _, _, _, _, _, _, _, _, _, _, rfl, by omega, Lib.hid eD.out, by go_simp, by go_simp, by go_simp, by go_simp, by omega, by repeat (first | exact Below.refl _ _ | assumption | (refine Below.alloc ?_ (by first | omega | (simp; done) | (simp; omega) | (simp at *; omega)) _) | (refine Below.setCell ?_ (by first | omega | (simp; done) | (simp; omega) | (simp at *; omega)) _) | (refine Below.trans ?_ (below_drewN _ _ _)) | (refine Below.drew ?_) | (refine Below.trans ?_ (Below.mono (by assumption) (by first | omega | (simp; done) | (simp; omega) | (simp at *; omega)))))⟩, by simp [intOf]⟩
end Go.Proofs.YtkdjfakjnkemiaaDoor
