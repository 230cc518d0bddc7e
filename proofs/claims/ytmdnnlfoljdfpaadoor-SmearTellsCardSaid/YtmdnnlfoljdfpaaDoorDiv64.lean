/- math/bits.Div64, whole: the quotient and what is left of 128 bits by 64. -/
import Derived.Test.YtmdnnlfoljdfpaaDoorBits
import Derived.Test.YtmdnnlfoljdfpaaDoorDivM
import Derived.Deep.DeepCutAuto
import Derived.Deep.CutBlock
import Derived.Lib.Hide
import Derived.Deep.QuietTactic
import Derived.BigQuiet
namespace Go.Proofs.YtmdnnlfoljdfpaaDoor
open Go.RowKit
theorem div64_low (lo y : Int) (h0 : 0 < y) (h2 : y < 18446744073709551616) (l0 : 0 ≤ lo) (l1 : lo < 18446744073709551616) (w : World) :
    Calls Tryd.prog 116 #[.int .u64 0, .int .u64 lo, .int .u64 y] w fun e w' => e = .returned (.tuple #[.int .u64 (lo / y), .int .u64 (lo % y)]) ∧ Below w.heap.size w w' := by
  have e1 : (y == 0) = false := by simp; omega
  have e2 : decide (y ≤ 0) = false := by simp; omega
  have e4 : ¬ y = 0 := by omega
  go_enter Tryd.func116, Tryd.ntmps116
  go_wp2
  go_quiet (fail)
  go_wp2
  go_ret2
  exact ⟨rfl, below_drewN _ _ _⟩
set_option maxHeartbeats 1000000 in
set_option maxRecDepth 100000 in
theorem div64_high0 (hi lo y q0 r0 : Int) (hq0 : q0 = (hi * 18446744073709551616 + lo) / y) (hr0 : r0 = (hi * 18446744073709551616 + lo) % y) (h0 : 0 < hi) (h1 : hi < y) (h2 : y < 18446744073709551616) (l0 : 0 ≤ lo) (l1 : lo < 18446744073709551616) (w : World) :
    Calls Tryd.prog 116 #[.int .u64 hi, .int .u64 lo, .int .u64 y] w fun e w' => e = .returned (.tuple #[.int .u64 q0, .int .u64 r0]) ∧ Below w.heap.size w w' := by
  have hqH := Lib.hid hq0
  have hrH := Lib.hid hr0
  clear hq0 hr0
  have e1 : (y == 0) = false := by simp; omega
  have e2 : decide (y ≤ hi) = false := by simp; omega
  have e3 : (hi == 0) = false := by simp; omega
  obtain ⟨s, hs, hbl, n1, n2⟩ := norm_bits y (by omega) h2
  have hblH := Lib.hid hbl
  clear hbl
  have hP : (0 : Int) < 2 ^ s := by rw [natPow]; have := Nat.two_pow_pos s; omega
  have hU := or_join hi lo s (by omega) (Int.lt_trans (by exact Int.mul_lt_mul_of_pos_right h1 hP) n2) l0 l1 (by omega)
  have hUH := Lib.hid hU
  clear hU
  have hHi : hi * 2 ^ s < 18446744073709551616 := Int.lt_trans (by exact Int.mul_lt_mul_of_pos_right h1 hP) n2
  have hHi0 : 0 ≤ hi * 2 ^ s := Int.mul_nonneg (by omega) (by omega)
  go_enter Tryd.func116, Tryd.ntmps116
  go_upto_region 14 with (go_at_call 136; refine (lz64 y (by omega) (by omega) _).mono ?_; rintro e w' ⟨rfl, rfl⟩)
  go_cut [2, 8, 9, 10, 11, 13, 14] (fun v2 v8 v9 v10 v11 v13 v14 wc => v2 = .int .u64 (y * 2 ^ s) ∧ v8 = .int .u64 (s : Int) ∧ v9 = .int .u64 (y * 2 ^ s / 4294967296) ∧ v10 = .int .u64 (y * 2 ^ s % 4294967296) ∧ v11 = .int .u64 ((hi * 18446744073709551616 + lo) * 2 ^ s / 18446744073709551616) ∧ v13 = .int .u64 (lo * 2 ^ s % 18446744073709551616 / 4294967296) ∧ v14 = .int .u64 (lo * 2 ^ s % 18446744073709551616 % 4294967296) ∧ w = wc)
  case first =>
    go_wp2
    go_meet
    case rel =>
      have hbl := hblH.out
      have hU := hUH.out
      have m1 : IntKind.u64.wrap (64 - ↑(Lib.bitLen y.toNat)) = (s : Int) := by rw [hbl, IntKind.wrap_u64]; omega
      have m2 : IntKind.u64.wrap (64 - (s : Int)) = ((64 - s : Nat) : Int) := by rw [IntKind.wrap_u64]; omega
      have m3 : IntKind.u64.wrap (y * 2 ^ s) = y * 2 ^ s := by rw [IntKind.wrap_u64]; exact Int.emod_eq_of_lt (by omega) n2
      have m4 : IntKind.u64.wrap (hi * 2 ^ s) = hi * 2 ^ s := by rw [IntKind.wrap_u64]; exact Int.emod_eq_of_lt hHi0 hHi
      have m5 : min s 64 = s := Nat.min_eq_left (by omega)
      have m6 : min (64 - s) 64 = 64 - s := Nat.min_eq_left (by omega)
      have m7 := Int.emod_nonneg (lo * 2 ^ s) (b := 18446744073709551616) (by omega)
      have m8 := Int.emod_lt_of_pos (lo * 2 ^ s) (b := 18446744073709551616) (by omega)
      rw [m1, m2, Int.toNat_natCast, Int.toNat_natCast, m5, m6, m3, m4, hU, IntKind.wrap_u64, and_low32 _ (by omega) n2, and_low32 _ m7 m8]
      exact ⟨rfl, rfl, rfl, rfl, rfl, rfl, rfl, rfl⟩
  case rest =>
    obtain ⟨rfl, rfl, rfl, rfl, rfl, rfl, rfl, rfl⟩ := hcut
    clear hblH hUH hHi hHi0 e1 e2 e3
    have k1 : (hi * 18446744073709551616 + lo) / y = (hi * 18446744073709551616 + lo) * 2 ^ s / (y * 2 ^ s) := by rw [Int.mul_ediv_mul_of_pos_left _ _ hP]
    have k2 : (hi * 18446744073709551616 + lo) % y = (hi * 18446744073709551616 + lo) * 2 ^ s % (y * 2 ^ s) / 2 ^ s := by rw [Int.mul_comm _ (2 ^ s), Int.mul_comm y, Int.mul_emod_mul_of_pos _ _ hP, Int.mul_ediv_cancel_left _ (by omega)]
    have k3 : (hi * 18446744073709551616 + lo) * 2 ^ s = (hi * 18446744073709551616 + lo) * 2 ^ s / 18446744073709551616 * 18446744073709551616 + lo * 2 ^ s % 18446744073709551616 := by
      have : (hi * 18446744073709551616 + lo) * 2 ^ s = hi * 2 ^ s * 18446744073709551616 + lo * 2 ^ s := by grind
      omega
    have k4 : (hi * 18446744073709551616 + lo) * 2 ^ s / 18446744073709551616 < y * 2 ^ s := by
      refine Int.ediv_lt_of_lt_mul (by omega) ?_
      have : (hi * 18446744073709551616 + lo) * 2 ^ s < y * 18446744073709551616 * 2 ^ s := Int.mul_lt_mul_of_pos_right (by omega) hP
      have e : y * 2 ^ s * 18446744073709551616 = y * 18446744073709551616 * 2 ^ s := by grind
      omega
    have k5 : 0 ≤ (hi * 18446744073709551616 + lo) * 2 ^ s / 18446744073709551616 := Int.ediv_nonneg (Int.mul_nonneg (by omega) (by omega)) (by omega)
    have k6 := Int.emod_nonneg (lo * 2 ^ s) (b := 18446744073709551616) (by omega)
    have k7 := Int.emod_lt_of_pos (lo * 2 ^ s) (b := 18446744073709551616) (by omega)
    have hq0 := hqH.out
    have hr0 := hrH.out
    clear hqH hrH
    rw [k1, k3] at hq0
    rw [k2, k3] at hr0
    clear k1 k2 k3
    generalize y * 2 ^ s = Y at *
    generalize (hi * 18446744073709551616 + lo) * 2 ^ s / 18446744073709551616 = U at *
    generalize lo * 2 ^ s % 18446744073709551616 = L at *
    obtain ⟨t1, t2⟩ := kn_two (Y := Y) (U := U) (L := L) (by omega)
    rw [t1] at hq0
    rw [t2] at hr0
    clear t1 t2
    have d0 : 0 ≤ L / 4294967296 := by omega
    have d1 : L / 4294967296 < 4294967296 := by omega
    have d2 : 0 ≤ L % 4294967296 := by omega
    have d3 : L % 4294967296 < 4294967296 := by omega
    have hqH := Lib.hid hq0
    have hrH := Lib.hid hr0
    clear hq0 hr0 k6 k7
    have hF := Lib.hid (kn_first n1 n2 k5 k4 d0 d1)
    have y1 : 2147483648 ≤ Y / 4294967296 := by omega
    have y2 : Y / 4294967296 < 4294967296 := by omega
    have y3 : 0 ≤ Y % 4294967296 := by omega
    have y4 : Y % 4294967296 < 4294967296 := by omega
    have y5 : (Y / 4294967296 == 0) = false := by simp; omega
    have y6 : ¬ Y / 4294967296 = 0 := by omega
    generalize L / 4294967296 = D1 at *
    generalize L % 4294967296 = D0 at *
    go_upto_block 0 with (fail)
    go_cut [15] (fun v wc => v = .int .u64 ((U * 4294967296 + D1) / Y) ∧ w = wc)
    case first =>
      obtain ⟨g1, g2, g3, g4, g5, g6⟩ := hF.out
      clear hF
      generalize U / (Y / 4294967296) = qi at *
      generalize U - qi * (Y / 4294967296) = ri at *
      have hgH := Lib.hid g1
      clear g1
      go_wp2
      go_loop [15, 16] (fun a b => ∃ q r : Int, a = .int .u64 q ∧ b = .int .u64 r ∧ Hid (q * (Y / 4294967296) + r = U) ∧ 0 ≤ r ∧ r < 4294967296 ∧ (U * 4294967296 + D1) / Y ≤ q ∧ q ≤ 4294967297 ∧ 0 ≤ q) (fun _ b => (4294967296 - intOf b).toNat)
      case atStart =>
        refine ⟨qi, ri, rfl, congrArg (Value.int IntKind.u64) ?_, hgH, g2, g3, g4, g5, g6⟩
        have := hgH.out
        have p0 : 0 ≤ qi * (Y / 4294967296) := Int.mul_nonneg g6 (by omega)
        generalize qi * (Y / 4294967296) = P at *
        rw [IntKind.wrap_u64, IntKind.wrap_u64]
        omega
      case round =>
        clear g2 g3 g4 g5 g6 hgH
        obtain ⟨q, r, rfl, rfl, i1, i2, i3, i4, i5, i6⟩ := hrel
        by_cases c1 : 4294967296 ≤ q
        · have st := kn_step n1 k4 d1 i1.out (.inl c1)
          have sQ := Lib.hid st
          have q1 : 0 ≤ q - 1 := by omega
          clear st
          have sE : Hid ((q - 1) * (Y / 4294967296) + (r + Y / 4294967296) = U) := by
            have := i1.out
            refine Lib.hid ?_
            generalize Y / 4294967296 = Y1 at *
            grind
          by_cases c2 : 4294967296 ≤ r + Y / 4294967296
          · go_wp2
            go_meet
            case rel => exact ⟨congrArg (Value.int IntKind.u64) (kn_break n1 d0 sE.out c2 sQ.out (by omega)), rfl⟩
          · go_wp2
            go_round
            case rel => exact ⟨q - 1, r + Y / 4294967296, rfl, rfl, sE, by omega, by omega, sQ.out, by omega, by omega⟩
            case measure => simp [intOf]; omega
        · have c1' : q < 4294967296 := by omega
          obtain ⟨b1, b2⟩ := kn_small c1' i6 y3 y4
          by_cases c3 : 4294967296 * r + D1 < q * (Y % 4294967296)
          · have st := kn_step n1 k4 d1 i1.out (.inr c3)
            have sQ := Lib.hid st
            have q1 : 0 ≤ q - 1 := by
              have : 0 < q := by
                rcases Int.lt_or_le 0 q with h | h
                · exact h
                · have : q = 0 := by omega
                  rw [this] at c3; omega
              omega
            clear st
            have sE : Hid ((q - 1) * (Y / 4294967296) + (r + Y / 4294967296) = U) := by
              have := i1.out
              refine Lib.hid ?_
              generalize Y / 4294967296 = Y1 at *
              grind
            by_cases c2 : 4294967296 ≤ r + Y / 4294967296
            · go_wp2
              go_meet
              case rel => exact ⟨congrArg (Value.int IntKind.u64) (kn_break n1 d0 sE.out c2 sQ.out (by omega)), rfl⟩
            · go_wp2
              go_round
              case rel => exact ⟨q - 1, r + Y / 4294967296, rfl, rfl, sE, by omega, by omega, sQ.out, by omega, by omega⟩
              case measure => simp [intOf]; omega
          · go_wp2
            go_meet
            case rel => exact ⟨congrArg (Value.int IntKind.u64) (kn_exit (by omega) i1.out i4 (by omega)), rfl⟩
    case rest =>
      obtain ⟨rfl, rfl⟩ := hcut
      clear hF
      go_upto_region 21 with (fail)
      go_cut [17] (fun v wc => v = .int .u64 ((U * 4294967296 + D1) % Y) ∧ w = wc)
      case first =>
        have ee := Lib.hid (Int.mul_ediv_add_emod (U * 4294967296 + D1) Y)
        have el := Lib.hid (Int.emod_lt_of_pos (U * 4294967296 + D1) (b := Y) (by omega))
        have eg := Lib.hid (Int.emod_nonneg (U * 4294967296 + D1) (b := Y) (by omega))
        go_wp2
        go_meet
        case rel =>
          refine ⟨congrArg (Value.int IntKind.u64) ?_, rfl⟩
          have e1 := ee.out
          have e2 := el.out
          have e3 := eg.out
          have e4 : (U * 4294967296 + D1) / Y * Y = Y * ((U * 4294967296 + D1) / Y) := Int.mul_comm _ _
          generalize (U * 4294967296 + D1) % Y = M at *
          simp only [IntKind.wrap_u64, e4]
          generalize Y * ((U * 4294967296 + D1) / Y) = P at *
          omega
      case rest =>
        obtain ⟨rfl, rfl⟩ := hcut
        have v0 := Int.emod_nonneg (U * 4294967296 + D1) (b := Y) (by omega)
        have v1 := Int.emod_lt_of_pos (U * 4294967296 + D1) (b := Y) (by omega)
        have hqq := hqH.out
        have hrr := hrH.out
        clear hqH hrH
        have w0 : 0 ≤ (U * 4294967296 + D1) / Y := Int.ediv_nonneg (by omega) (by omega)
        have w1 : (U * 4294967296 + D1) / Y < 4294967296 := Int.ediv_lt_of_lt_mul (by omega) (by omega)
        generalize (U * 4294967296 + D1) % Y = V at *
        generalize (U * 4294967296 + D1) / Y = Q1 at *
        have hqH := Lib.hid hqq
        have hrH := Lib.hid hrr
        clear hqq hrr
        have hG := Lib.hid (kn_first n1 n2 v0 v1 d2 d3)
        go_upto_block 2 with (fail)
        go_cut [18] (fun v wc => v = .int .u64 ((V * 4294967296 + D0) / Y) ∧ w = wc)
        case first =>
          obtain ⟨g1, g2, g3, g4, g5, g6⟩ := hG.out
          clear hG
          generalize V / (Y / 4294967296) = qi at *
          generalize V - qi * (Y / 4294967296) = ri at *
          have hgH := Lib.hid g1
          clear g1
          go_wp2
          go_loop [18, 16] (fun a b => ∃ q r : Int, a = .int .u64 q ∧ b = .int .u64 r ∧ Hid (q * (Y / 4294967296) + r = V) ∧ 0 ≤ r ∧ r < 4294967296 ∧ (V * 4294967296 + D0) / Y ≤ q ∧ q ≤ 4294967297 ∧ 0 ≤ q) (fun _ b => (4294967296 - intOf b).toNat)
          case atStart =>
            refine ⟨qi, ri, rfl, congrArg (Value.int IntKind.u64) ?_, hgH, g2, g3, g4, g5, g6⟩
            have := hgH.out
            have p0 : 0 ≤ qi * (Y / 4294967296) := Int.mul_nonneg g6 (by omega)
            generalize qi * (Y / 4294967296) = P at *
            rw [IntKind.wrap_u64, IntKind.wrap_u64]
            omega
          case round =>
            clear g2 g3 g4 g5 g6 hgH
            obtain ⟨q, r, rfl, rfl, i1, i2, i3, i4, i5, i6⟩ := hrel
            by_cases c1 : 4294967296 ≤ q
            · have st := kn_step n1 v1 d3 i1.out (.inl c1)
              have sQ := Lib.hid st
              have q1 : 0 ≤ q - 1 := by omega
              clear st
              have sE : Hid ((q - 1) * (Y / 4294967296) + (r + Y / 4294967296) = V) := by
                have := i1.out
                refine Lib.hid ?_
                generalize Y / 4294967296 = Y1 at *
                grind
              by_cases c2 : 4294967296 ≤ r + Y / 4294967296
              · go_wp2
                go_meet
                case rel => exact ⟨congrArg (Value.int IntKind.u64) (kn_break n1 d2 sE.out c2 sQ.out (by omega)), rfl⟩
              · go_wp2
                go_round
                case rel => exact ⟨q - 1, r + Y / 4294967296, rfl, rfl, sE, by omega, by omega, sQ.out, by omega, by omega⟩
                case measure => simp [intOf]; omega
            · have c1' : q < 4294967296 := by omega
              obtain ⟨b1, b2⟩ := kn_small c1' i6 y3 y4
              by_cases c3 : 4294967296 * r + D0 < q * (Y % 4294967296)
              · have st := kn_step n1 v1 d3 i1.out (.inr c3)
                have sQ := Lib.hid st
                have q1 : 0 ≤ q - 1 := by
                  have : 0 < q := by
                    rcases Int.lt_or_le 0 q with h | h
                    · exact h
                    · have : q = 0 := by omega
                      rw [this] at c3; omega
                  omega
                clear st
                have sE : Hid ((q - 1) * (Y / 4294967296) + (r + Y / 4294967296) = V) := by
                  have := i1.out
                  refine Lib.hid ?_
                  generalize Y / 4294967296 = Y1 at *
                  grind
                by_cases c2 : 4294967296 ≤ r + Y / 4294967296
                · go_wp2
                  go_meet
                  case rel => exact ⟨congrArg (Value.int IntKind.u64) (kn_break n1 d2 sE.out c2 sQ.out (by omega)), rfl⟩
                · go_wp2
                  go_round
                  case rel => exact ⟨q - 1, r + Y / 4294967296, rfl, rfl, sE, by omega, by omega, sQ.out, by omega, by omega⟩
                  case measure => simp [intOf]; omega
              · go_wp2
                go_meet
                case rel => exact ⟨congrArg (Value.int IntKind.u64) (kn_exit (by omega) i1.out i4 (by omega)), rfl⟩
        case rest =>
          obtain ⟨rfl, rfl⟩ := hcut
          clear hG
          have ee := Lib.hid (Int.mul_ediv_add_emod (V * 4294967296 + D0) Y)
          have el := Lib.hid (Int.emod_lt_of_pos (V * 4294967296 + D0) (b := Y) (by omega))
          have eg := Lib.hid (Int.emod_nonneg (V * 4294967296 + D0) (b := Y) (by omega))
          have w2 : 0 ≤ (V * 4294967296 + D0) / Y := Int.ediv_nonneg (by omega) (by omega)
          have w3 : (V * 4294967296 + D0) / Y < 4294967296 := Int.ediv_lt_of_lt_mul (by omega) (by omega)
          have m5 : min s 64 = s := Nat.min_eq_left (by omega)
          have m5H := Lib.hid m5
          clear m5
          go_wp2
          refine bp_ret ⟨?_, ?_, ?_, ?_⟩ rfl; rotate_left
          · simp [results, Tryd.results116, go_sem]; rfl
          rotate_left
          · exact Below.refl _ _
          · have e1 := ee.out
            have e2 := el.out
            have e3 := eg.out
            have e4 : (V * 4294967296 + D0) / Y * Y = Y * ((V * 4294967296 + D0) / Y) := Int.mul_comm _ _
            have hq0 := hqH.out
            have hr0 := hrH.out
            rw [e4, hq0, hr0]
            generalize (V * 4294967296 + D0) % Y = M at *
            generalize Y * ((V * 4294967296 + D0) / Y) = P at *
            have e5 : IntKind.u64.wrap (IntKind.u64.wrap (IntKind.u64.wrap (V * 4294967296) + D0) - IntKind.u64.wrap P) = M := by
              simp only [IntKind.wrap_u64]; omega
            rw [e5]
theorem div64 (hi lo y : Int) (h0 : 0 ≤ hi) (h1 : hi < y) (h2 : y < 18446744073709551616) (l0 : 0 ≤ lo) (l1 : lo < 18446744073709551616) (w : World) :
    Calls Tryd.prog 116 #[.int .u64 hi, .int .u64 lo, .int .u64 y] w fun e w' => e = .returned (.tuple #[.int .u64 ((hi * 18446744073709551616 + lo) / y), .int .u64 ((hi * 18446744073709551616 + lo) % y)]) ∧ Below w.heap.size w w' := by
  rcases Int.lt_or_le 0 hi with h | h
  · exact div64_high0 hi lo y _ _ rfl rfl h h1 h2 l0 l1 w
  · obtain rfl : hi = 0 := by omega
    have := div64_low lo y (by omega) h2 l0 l1 w
    rw [Int.zero_mul, Int.zero_add]
    exact this
end Go.Proofs.YtmdnnlfoljdfpaaDoor
