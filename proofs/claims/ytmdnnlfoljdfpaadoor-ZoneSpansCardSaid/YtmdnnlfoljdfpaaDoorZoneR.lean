/- The laws ZoneTells and ZoneSpans, in plain data. -/
import Derived.Test.YtmdnnlfoljdfpaaDoorZoneQ
namespace Go.Proofs.YtmdnnlfoljdfpaaDoor.Mir
open Go Go.RowKit
set_option maxRecDepth 100000

theorem zsure_at (n : Nat) : f_11 (n + 3000) = some true := by kernel_rfl
theorem rnext_loop (N : Nat) {n : ByteArray} {f : Int} {L : List Rul} {s : Int} (hL : L.length ≤ 1000000) {c : Nat} (hc : Cut L s c) : ∀ (k M i : Nat), i + k = L.length → i ≤ c → k < M → iter (b_20_0 N) M (s, (), (i : Int), (n, f, L)) = some (if c < L.length then .inl ((gR L c).1, 0) else .inr ()) := by
  intro k
  induction k with
  | zero =>
    intro M i hi h2 hM
    obtain ⟨M, rfl⟩ : ∃ m, M = m + 1 := ⟨M - 1, by omega⟩
    show b_20_0 N (iter (b_20_0 N) M) _ = _
    unfold b_20_0
    simp only
    rw [decide_eq_false (show ¬ (i : Int) < (L.length : Int) by omega), if_neg (by omega)]; rfl
  | succ k ih =>
    intro M i hi h2 hM
    obtain ⟨M, rfl⟩ : ∃ m, M = m + 1 := ⟨M - 1, by omega⟩
    have ih' := fun h => ih M (i + 1) (by omega) h (by omega)
    show b_20_0 N (iter (b_20_0 N) M) _ = _
    generalize iter (b_20_0 N) M = I at ih' ⊢
    unfold b_20_0
    simp only
    rw [decide_eq_true (show (i : Int) < (L.length : Int) by omega), decide_eq_true (show 0 ≤ (i : Int) ∧ (i : Int) < (L.length : Int) by omega), wi64 (n := (i : Int) + 1) (by omega) (by omega), show (i : Int) + 1 = ((i + 1 : Nat) : Int) by omega]
    simp only [cond_true, Int.toNat_natCast]
    show (bif decide ((gR L i).1 > s) then some (.inl ((gR L i).1, 0)) else I (s, (), ((i + 1 : Nat) : Int), (n, f, L))) = _
    by_cases hi2 : i = c
    · subst hi2
      rw [decide_eq_true (hc.hi i (Nat.le_refl _) (by omega)), if_pos (by omega)]; rfl
    · rw [decide_eq_false (by have := hc.lo i (by omega); omega), cond_false, ih' (by omega)]
theorem rnext_at {N : Nat} {n : ByteArray} {f : Int} {L : List Rul} {s : Int} (hL : L.length ≤ 1000000) (hN : L.length < N) {c : Nat} (hc : Cut L s c) : f_20 N n f L s = some (if c < L.length then ((gR L c).1, 0) else (0, 6)) := by
  have h := rnext_loop N (n := n) (f := f) hL hc L.length N 0 (by omega) (Nat.zero_le _) hN
  have h' : l_20_0 N (s, (), 0, (n, f, L)) = some (if c < L.length then .inl ((gR L c).1, 0) else .inr ()) := h
  unfold f_20
  rw [h']
  by_cases h : c < L.length
  · rw [if_pos h, if_pos h]; rfl
  · rw [if_neg h, if_neg h]; rfl
/-! ### the law's own functions -/
theorem give_loop (N : Nat) {n : ByteArray} {f : Int} {L : List Rul} (hL : L.length ≤ 4398046511104) (z : ByteArray × Int × List Rul) : ∀ (k M i : Nat) (acc : List Rul), i + k = L.length → k < M → acc.length = i →
    iter (b_12_0 N) M ((), (), (), (i : Int), (n, f, L), z, (n, f, acc)) = some ((), (), z, (n, f, acc ++ L.drop i)) := by
  intro k
  induction k with
  | zero =>
    intro M i acc hi hM ha
    obtain ⟨M, rfl⟩ : ∃ m, M = m + 1 := ⟨M - 1, by omega⟩
    show b_12_0 N (iter (b_12_0 N) M) _ = _
    unfold b_12_0
    simp only
    rw [decide_eq_false (show ¬ (i : Int) < (L.length : Int) by omega), List.drop_eq_nil_of_le (by omega), List.append_nil]; rfl
  | succ k ih =>
    intro M i acc hi hM ha
    obtain ⟨M, rfl⟩ : ∃ m, M = m + 1 := ⟨M - 1, by omega⟩
    have ih' := ih M (i + 1) (acc ++ [gR L i]) (by omega) (by omega) (by rw [List.length_append, ha]; rfl)
    show b_12_0 N (iter (b_12_0 N) M) _ = _
    generalize iter (b_12_0 N) M = I at ih' ⊢
    unfold b_12_0
    simp only
    rw [decide_eq_true (show (i : Int) < (L.length : Int) by omega), decide_eq_true (show 0 ≤ (i : Int) ∧ (i : Int) < (L.length : Int) by omega), wi64 (n := (i : Int) + 1) (by omega) (by omega), show (i : Int) + 1 = ((i + 1 : Nat) : Int) by omega]
    simp only [cond_true, Int.toNat_natCast]
    show (bif decide ((acc.length + [gR L i].length) * 32 ≤ 140737488355328) then I ((), (), (), ((i + 1 : Nat) : Int), (n, f, L), z, (n, f, acc ++ [gR L i])) else none) = _
    rw [decide_eq_true (by rw [List.length_singleton]; omega), cond_true, ih', List.append_assoc]
    have hi' : i < L.length := by omega
    have e : gR L i = L[i] := by unfold gR; rw [List.getD_eq_getElem?_getD, List.getElem?_eq_getElem hi']; rfl
    rw [List.drop_eq_getElem_cons hi', e]; rfl
theorem give_at {N : Nat} (n : ByteArray) (f : Int) {L : List Rul} (hL : L.length ≤ 4398046511104) (hN : L.length < N) : f_12 N n f L = some (n, f, L) := by
  have h := give_loop N (n := n) (f := f) hL (ByteArray.empty, 0, []) L.length N 0 [] (by omega) hN rfl
  have h' : l_12_0 N ((), (), (), 0, (n, f, L), (ByteArray.empty, 0, []), (n, f, [])) = some ((), (), (ByteArray.empty, 0, []), (n, f, L)) := h
  unfold f_12
  rw [h']; rfl
theorem isz_loop (N : Nat) {n : ByteArray} {f : Int} {L : List Rul} (hL : L.length ≤ 1000000) : ∀ (k M i : Nat), i + k = L.length → k < M → iter (b_17_0 N) M ((), (), (i : Int), (n, f, L), (n, f, L)) = some (.inr ()) := by
  intro k
  induction k with
  | zero =>
    intro M i hi hM
    obtain ⟨M, rfl⟩ : ∃ m, M = m + 1 := ⟨M - 1, by omega⟩
    show b_17_0 N (iter (b_17_0 N) M) _ = _
    unfold b_17_0
    simp only
    rw [decide_eq_false (show ¬ (i : Int) < (L.length : Int) by omega)]; rfl
  | succ k ih =>
    intro M i hi hM
    obtain ⟨M, rfl⟩ : ∃ m, M = m + 1 := ⟨M - 1, by omega⟩
    have ih' := ih M (i + 1) (by omega) (by omega)
    show b_17_0 N (iter (b_17_0 N) M) _ = _
    generalize iter (b_17_0 N) M = I at ih' ⊢
    unfold b_17_0
    simp only [beq_self_eq_true, Bool.and_self, Bool.not_true, cond_false]
    rw [decide_eq_true (show (i : Int) < (L.length : Int) by omega), decide_eq_true (show 0 ≤ (i : Int) ∧ (i : Int) < (L.length : Int) by omega), wi64 (n := (i : Int) + 1) (by omega) (by omega), show (i : Int) + 1 = ((i + 1 : Nat) : Int) by omega]
    simp only [cond_true]
    exact ih'
theorem isz_self {N : Nat} (n : ByteArray) (f : Int) {L : List Rul} (hL : L.length ≤ 1000000) (hN : L.length < N) : f_17 N n f L n f L = some true := by
  have h := isz_loop N (n := n) (f := f) hL L.length N 0 (by omega) hN
  have h' : l_17_0 N ((), (), 0, (n, f, L), (n, f, L)) = some (.inr ()) := h
  unfold f_17
  simp only [beq_self_eq_true, bne_self_eq_false, Bool.not_true, cond_false]
  rw [h']; rfl
theorem big_loop (N : Nat) {n : ByteArray} {f : Int} {L : List Rul} : ∀ (k M i : Nat), i + k = 60 → k < M → ∃ r, iter (b_10_0 N) M ((), (i : Int), (n, f, L)) = some r ∧ (r = .inl true ∨ (r = .inr ((), (n, f, L)) ∧ ∀ j, i ≤ j → j < L.length → j < 60 → (gR L j).2.2.size ≤ 200)) := by
  intro k
  induction k with
  | zero =>
    intro M i hi hM
    obtain ⟨M, rfl⟩ : ∃ m, M = m + 1 := ⟨M - 1, by omega⟩
    refine ⟨.inr ((), (n, f, L)), ?_, .inr ⟨rfl, fun j h1 h2 h3 => by omega⟩⟩
    show b_10_0 N (iter (b_10_0 N) M) _ = _
    unfold b_10_0
    simp only
    rw [decide_eq_false (show ¬ (i : Int) < 60 by omega)]
    cases decide ((i : Int) < (L.length : Int)) <;> rfl
  | succ k ih =>
    intro M i hi hM
    obtain ⟨M, rfl⟩ : ∃ m, M = m + 1 := ⟨M - 1, by omega⟩
    obtain ⟨r, h1, h2⟩ := ih M (i + 1) (by omega) (by omega)
    by_cases hl : i < L.length
    · by_cases hs : (gR L i).2.2.size > 200
      · refine ⟨.inl true, ?_, .inl rfl⟩
        show b_10_0 N (iter (b_10_0 N) M) _ = _
        unfold b_10_0
        simp only
        rw [decide_eq_true (show (i : Int) < 60 by omega), decide_eq_true (show (i : Int) < (L.length : Int) by omega), decide_eq_true (show 0 ≤ (i : Int) ∧ (i : Int) < (L.length : Int) by omega), Int.toNat_natCast]
        show (bif decide (((gR L i).2.2.size : Int) > 200) then _ else _) = _
        rw [decide_eq_true (by omega)]; rfl
      · refine ⟨r, ?_, ?_⟩
        · rw [← h1]
          show b_10_0 N (iter (b_10_0 N) M) _ = _
          generalize iter (b_10_0 N) M = I
          unfold b_10_0
          simp only
          rw [decide_eq_true (show (i : Int) < 60 by omega), decide_eq_true (show (i : Int) < (L.length : Int) by omega), decide_eq_true (show 0 ≤ (i : Int) ∧ (i : Int) < (L.length : Int) by omega), Int.toNat_natCast, wi64 (n := (i : Int) + 1) (by omega) (by omega)]
          show (bif decide (((gR L i).2.2.size : Int) > 200) then _ else _) = _
          rw [decide_eq_false (by omega)]; rfl
        · rcases h2 with h2 | ⟨h2, h3⟩
          · exact .inl h2
          · refine .inr ⟨h2, fun j a b c => ?_⟩
            by_cases hj : j = i
            · subst hj; omega
            · exact h3 j (by omega) b c
    · refine ⟨.inr ((), (n, f, L)), ?_, .inr ⟨rfl, fun j h1 h2 h3 => by omega⟩⟩
      show b_10_0 N (iter (b_10_0 N) M) _ = _
      unfold b_10_0
      simp only
      rw [decide_eq_false (show ¬ (i : Int) < (L.length : Int) by omega)]; rfl
theorem big_at {N : Nat} (n : ByteArray) (f : Int) (L : List Rul) (hN : 61 ≤ N) : ∃ b, f_10 N n f L = some b ∧ (b = false → L.length ≤ 60 ∧ n.size ≤ 200 ∧ ∀ i, i < L.length → (gR L i).2.2.size ≤ 200) := by
  obtain ⟨r, h1, h2⟩ := big_loop N (n := n) (f := f) (L := L) 60 N 0 rfl (by omega)
  have h' : l_10_0 N ((), 0, (n, f, L)) = some r := h1
  unfold f_10
  rw [h']
  rcases h2 with rfl | ⟨rfl, h3⟩
  · exact ⟨true, rfl, fun h => by cases h⟩
  · show ∃ b, (bif decide ((L.length : Int) > 60) then some true else some (decide ((n.size : Int) > 200))) = some b ∧ _
    by_cases hl : L.length > 60
    · rw [decide_eq_true (show (L.length : Int) > 60 by omega)]
      exact ⟨true, rfl, fun h => by cases h⟩
    · rw [decide_eq_false (show ¬ (L.length : Int) > 60 by omega)]
      refine ⟨_, rfl, fun h => ?_⟩
      have := of_decide_eq_false h
      exact ⟨by omega, by omega, fun i hi => h3 i (Nat.zero_le _) hi (by omega)⟩
/-! ### ZoneTells -/
theorem znum_none (N : Nat) : f_18 N none = some 0 := rfl
theorem znum_some (N : Nat) (e : Int) : f_18 N (some e) = some e := rfl
theorem tells_holds (n : ByteArray) (f : Int) (L : List Rul) (s : Int) : f_3 3000 n f L s = some true := by
  have hsure : f_11 3000 = some true := zsure_at 0
  unfold f_3
  obtain ⟨b, h1, h2⟩ := big_at (N := 3000) n f L (by decide)
  rw [h1]
  cases b with
  | true => rw [Option.bind_some, cond_true, hsure]; rfl
  | false =>
    obtain ⟨hl, hn, hr⟩ := h2 rfl
    have hmay := may_at (N := 3000) (n := n) (f := f) (L := L) (by omega) (by omega) (by omega) (fun i hi => by have := hr i hi; omega)
    rw [give_at n f (by omega) (by omega)]
    simp only [Option.bind_some, cond_false]
    rw [check_at (by omega) (by omega), hmay, isz_self n f (by omega) (by omega), hsure]
    cases hm : mayZ n f L with
    | false =>
      rw [zat_bad s (by omega) (by omega) hm, znext_bad s (by omega) (by omega) hm]
      simp only [Option.bind_some, Option.isNone_some, cond_false, beq_self_eq_true, Bool.not_true, Bool.not_false, cond_true, znum_some]
    | true =>
      obtain ⟨c, hc⟩ := cut_ex s (by omega) (srt_of (may_parts hm).2.1)
      rw [zat_at (by decide) hm hc, znext_at (by decide) hm hc, rat_at (by omega) (by omega) hc, rnext_at (by omega) (by omega) hc]
      by_cases hcl : c < L.length
      · rw [if_pos hcl, if_pos hcl]
        simp only [Option.bind_some, Option.isNone_none, beq_self_eq_true, cond_true, Bool.not_true, cond_false, znum_none]
      · rw [if_neg hcl, if_neg hcl]
        simp only [Option.bind_some, Option.isNone_none, beq_self_eq_true, cond_true, Bool.not_true, cond_false, znum_some]
/-! ### ZoneSpans -/
theorem spans_loop (N : Nat) {n : ByteArray} {f : Int} {L : List Rul} (hL : L.length ≤ 60) (hs : Srt L) {c : Nat} (hc : c < L.length) (a : Int) (s : ByteArray) (e : Option Int) (tz : Int) (g : Option Int) : ∀ (k M i : Nat), i + k = L.length → k < M →
    iter (b_4_0 N) M ((), a, s, e, (gR L c).1, tz, (gR L c).2.1, g, decide (c < i), (i : Int), (n, f, L)) = some ((), a, s, e, tz, g, true, (n, f, L)) := by
  intro k
  induction k with
  | zero =>
    intro M i hi hM
    obtain ⟨M, rfl⟩ : ∃ m, M = m + 1 := ⟨M - 1, by omega⟩
    show b_4_0 N (iter (b_4_0 N) M) _ = _
    unfold b_4_0
    simp only
    rw [decide_eq_false (show ¬ (i : Int) < (L.length : Int) by omega), decide_eq_true (show c < i by omega)]; rfl
  | succ k ih =>
    intro M i hi hM
    obtain ⟨M, rfl⟩ : ∃ m, M = m + 1 := ⟨M - 1, by omega⟩
    have ih' := ih M (i + 1) (by omega) (by omega)
    show b_4_0 N (iter (b_4_0 N) M) _ = _
    generalize iter (b_4_0 N) M = I at ih' ⊢
    unfold b_4_0
    simp only
    rw [decide_eq_true (show (i : Int) < (L.length : Int) by omega), decide_eq_true (show 0 ≤ (i : Int) ∧ (i : Int) < (L.length : Int) by omega), wi64 (n := (i : Int) + 1) (by omega) (by omega), show (i : Int) + 1 = ((i + 1 : Nat) : Int) by omega]
    simp only [cond_true, Int.toNat_natCast]
    by_cases h1 : c < i
    · rw [decide_eq_true h1, cond_true]
      rw [decide_eq_true (show c < i + 1 by omega)] at ih'
      exact ih'
    · rw [decide_eq_false h1, cond_false]
      show (bif ((gR L i).1 == (gR L c).1) then I ((), a, s, e, (gR L c).1, tz, (gR L c).2.1, g, ((gR L i).2.1 == (gR L c).2.1), ((i + 1 : Nat) : Int), (n, f, L)) else I ((), a, s, e, (gR L c).1, tz, (gR L c).2.1, g, false, ((i + 1 : Nat) : Int), (n, f, L))) = _
      by_cases h2 : i = c
      · subst h2
        rw [beq_self_eq_true, beq_self_eq_true, cond_true]
        rw [decide_eq_true (show i < i + 1 by omega)] at ih'
        exact ih'
      · rw [beq_false_of_ne (by have := hs i c (by omega) hc; omega), cond_false]
        rw [decide_eq_false (show ¬ c < i + 1 by omega)] at ih'
        exact ih'
theorem okAt_bounds {L : List Rul} {i : Nat} (h : okAt L i = true) : -1099511627776 ≤ (gR L i).1 ∧ (gR L i).1 ≤ 1099511627776 := by
  unfold okAt at h
  simp only [Bool.and_eq_true, Bool.not_eq_true', decide_eq_false_iff_not] at h
  omega
theorem spans_holds (n : ByteArray) (f : Int) (L : List Rul) (s d : Int) (hL : L.length ≤ 4398046511104) (h0 : 0 ≤ d) (h1 : d < 4294967296) : f_4 (L.length + 3000) n f L s d = some true := by
  unfold f_4
  obtain ⟨b, hb1, hb2⟩ := big_at (N := L.length + 3000) n f L (by omega)
  rw [give_at n f hL (by omega), zsure_at]
  simp only [Option.bind_some]
  rw [hb1]
  cases b with
  | true => rfl
  | false =>
    obtain ⟨hl, hn, hr⟩ := hb2 rfl
    simp only [Option.bind_some, cond_false]
    rw [check_at (by omega) (by omega)]
    cases hm : mayZ n f L with
    | false => rfl
    | true =>
      simp only [Option.bind_some, cond_true, Option.isNone_none, Bool.not_true, cond_false]
      by_cases hs1 : s < -1125899906842624
      · rw [decide_eq_true hs1]; rfl
      rw [decide_eq_false hs1, cond_false]
      by_cases hs2 : s > 1125899906842624
      · rw [decide_eq_true hs2]; rfl
      rw [decide_eq_false hs2, cond_false]
      have hall := (may_parts hm).2.1
      have hsrt := srt_of hall
      obtain ⟨c, hc⟩ := cut_ex s (by omega) hsrt
      have hle := hc.le
      rw [zat_at (by omega) hm hc, znext_at (by omega) hm hc]
      simp only [Option.bind_some]
      have ed : IntKind.i64.wrap d = d := wi64 (by omega) (by omega)
      have et : IntKind.i64.wrap (s + d) = s + d := wi64 (by omega) (by omega)
      rw [ed, et]
      by_cases hcl : c < L.length
      · have hgt := hc.hi c (Nat.le_refl _) hcl
        have hbd := okAt_bounds (allFrom_at hall c (Nat.zero_le _) (by omega))
        have hc1 : Cut L (gR L c).1 (c + 1) := ⟨by omega, fun i hi => by
          by_cases h : i = c
          · subst h; omega
          · have := hsrt i c (by omega) hcl; omega, fun i h5 h6 => hsrt c i (by omega) h6⟩
        have en : IntKind.i64.wrap ((gR L c).1 - 1) = (gR L c).1 - 1 := wi64 (by omega) (by omega)
        rw [if_pos hcl]
        simp only [Option.isNone_none, cond_true]
        rw [decide_eq_false (show ¬ (gR L c).1 ≤ s by omega), cond_false, zat_at (by omega) hm hc1, en]
        simp only [Option.bind_some]
        have ev : valZ n f L (c + 1) = ((gR L c).2.1, (gR L c).2.2) := by unfold valZ; rw [if_neg (by omega), Nat.add_sub_cancel]
        rw [ev]
        generalize hto : (if (gR L c).1 - 1 < s + d then (gR L c).1 - 1 else s + d) = tz
        have hto1 : s ≤ tz ∧ tz < (gR L c).1 := by rw [← hto]; split <;> omega
        have hct : Cut L tz c := ⟨hle, fun i hi => by have := hc.lo i hi; omega, fun i h5 h6 => by
          by_cases h : i = c
          · subst h; omega
          · have := hsrt c i (by omega) h6; omega⟩
        have hlp := spans_loop (L.length + 3000) (n := n) (f := f) hl hsrt hcl (valZ n f L c).1 (valZ n f L c).2 none tz none L.length (L.length + 3000) 0 (by omega) (by omega)
        rw [decide_eq_false (show ¬ c < 0 by omega)] at hlp
        have hlp' : l_4_0 (L.length + 3000) ((), (valZ n f L c).1, (valZ n f L c).2, none, (gR L c).1, tz, (gR L c).2.1, none, false, 0, (n, f, L)) = some ((), (valZ n f L c).1, (valZ n f L c).2, none, tz, none, true, (n, f, L)) := hlp
        rw [hlp']
        simp only [Option.bind_some, Option.isNone_none, Bool.not_true, cond_false]
        rw [zat_at (by omega) hm hct]
        simp only [Option.bind_some, Option.isNone_none, cond_true, beq_self_eq_true]
      · have hct : Cut L (s + d) c := ⟨hle, fun i hi => by have := hc.lo i hi; omega, fun i h5 h6 => by omega⟩
        rw [if_neg hcl]
        simp only [Option.isNone_some, cond_false]
        rw [zat_at (by omega) hm hct]
        simp only [Option.bind_some, Option.isNone_none, cond_true, beq_self_eq_true]
end Go.Proofs.YtmdnnlfoljdfpaaDoor.Mir
