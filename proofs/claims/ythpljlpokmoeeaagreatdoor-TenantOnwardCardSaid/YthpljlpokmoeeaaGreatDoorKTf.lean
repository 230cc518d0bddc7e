/- The statement TenantOnward of the given program: for every input the law answers true, and its arguments read as before. Its one listed variable (errors.errorType) is tied to the program's text by the given tie. -/
import Derived.Test.YthpljlpokmoeeaaGreatDoorKTe
import Derived.Test.YthpljlpokmoeeaaGreatDoorKxfa55a7
import Derived.Test.YthpljlpokmoeeaaGreatDoorKx62d828
import Derived.Test.YthpljlpokmoeeaaGreatDoorTie
import Derived.Test.YthpljlpokmoeeaaGreatDoorCards
import Derived.SevenTiedAt
namespace Go.Proofs.YthpljlpokmoeeaaGreatDoor.Mir
open Go Go.RowKit
set_option maxRecDepth 100000
theorem softQ_half {Ln h : Int} (h0 : 0 ≤ h) (h1 : 2 * h ≤ Ln) (hL : 0 < Ln) : 0 ≤ softQ Ln h / Ln ∧ softQ Ln h / Ln ≤ 500000000 := by
 obtain ⟨r0, _⟩ := part_le (a := 2000000000) (g := h) (Ln := Ln) (by decide) h0 (by omega) hL
 have r1 : 2000000000 * h / Ln ≤ 1000000000 := by
  have e := Int.ediv_le_ediv hL (show 2000000000 * h ≤ 1000000000 * Ln by omega)
  rwa [Int.mul_ediv_cancel _ (by omega)] at e
 have q0 : 0 ≤ softQ Ln h := Int.mul_nonneg h0 r0
 have q1 : softQ Ln h ≤ h * 1000000000 := Int.mul_le_mul_of_nonneg_left r1 h0
 refine ⟨Int.ediv_nonneg q0 (by omega), ?_⟩
 have e := Int.ediv_le_ediv hL (show softQ Ln h ≤ 500000000 * Ln by omega)
 rwa [Int.mul_ediv_cancel _ (by omega)] at e
theorem lagV_01 {k Ln g : Int} (l0 : 1000000000 ≤ Ln) (l2 : Ln % 2 = 0) (g0 : 0 ≤ g) (g1 : g ≤ Ln) : 0 ≤ lagV k Ln g ∧ lagV k Ln g ≤ 1000000000 := by
 obtain ⟨p0, p1⟩ := part_le (a := 1000000000) (g := Ln - g) (Ln := Ln) (by decide) (by omega) (by omega) (by omega)
 rw [Int.mul_comm] at p0 p1
 unfold lagV
 split
 ·omega
 ·split
  ·obtain ⟨s0, s1⟩ := softQ_half (Ln := Ln) (h := Ln - g) (by omega) (by omega) (by omega)
   omega
  ·obtain ⟨s0, s1⟩ := softQ_half (Ln := Ln) (h := g) (by omega) (by omega) (by omega)
   split <;> omega
theorem lenS_even (bf af : Int) : lenS bf af % 2 = 0 := by unfold lenS; omega
theorem cnt_in {b l : Int} {L : List Int} (T : Tab b l L) {bf af tai : Int} (f0 : 0 ≤ bf) (f1 : bf ≤ 43200) (a0 : 0 ≤ af) (a1 : af ≤ 43200) {i : Nat} (hi : i < L.length) (h : fromN bf b L i ≤ tai ∧ tai < untilN af b L i) : cntD (dayS b L (tai / 1000000000)) L = i ∨ cntD (dayS b L (tai / 1000000000)) L = i + 1 := by
 unfold fromN untilN at h
 obtain ⟨s1, s2⟩ := dayS_spec T (tai / 1000000000)
 have hs : endW b L i - 1 - bf ≤ tai / 1000000000 ∧ tai / 1000000000 < endW b L i + af := by omega
 have e0 : secD b L (gI L i) = endW b L i - 86401 := by unfold secD endW; rw [cnt_here T hi]; omega
 have e1 : secD b L (gI L i + 1) = endW b L i := by unfold secD endW; rw [cnt_next T hi]; omega
 have e2 := secD_step b L (gI L i + 1)
 have d0 := secD_lt (show secD b L (gI L i) < secD b L (dayS b L (tai / 1000000000) + 1) by omega)
 have d1 := secD_lt (show secD b L (dayS b L (tai / 1000000000)) < secD b L (gI L i + 1 + 1) by omega)
 by_cases hd : dayS b L (tai / 1000000000) = gI L i
 ·rw [hd]; exact .inl (cnt_here T hi)
 ·rw [show dayS b L (tai / 1000000000) = gI L i + 1 by omega]; exact .inr (cnt_next T hi)
theorem off_in {b l : Int} {L : List Int} (T : Tab b l L) {k bf af tai : Int} (hs : SmOk k bf af) (hk : k ≠ 0) {i : Nat} (hi : i < L.length) (h : fromN bf b L i ≤ tai ∧ tai < untilN af b L i) : -1000000000 ≤ atI k bf af b L tai i - outV b L tai ∧ atI k bf af b L tai i - outV b L tai ≤ 1000000000 := by
 obtain ⟨f0, f1, a0, a1, l0, l1, _⟩ := smOk_lim hs
 have hok := lagOk_in hs hk h
 obtain ⟨g0, g1⟩ := lagV_01 (k := k) l0 (lenS_even bf af) hok.2.2.1 hok.2.2.2
 unfold atI outV
 rcases cnt_in T f0 f1 a0 a1 hi h with e | e <;> rw [e] <;> omega
theorem winF_some {bf af b : Int} {L : List Int} {tai : Int} : ∀ {n i j : Nat}, winF bf af b L tai i n = some j → i ≤ j ∧ j < i + n ∧ fromN bf b L j ≤ tai ∧ tai < untilN af b L j
 | 0, _, _, h => by cases h
 | n + 1, i, j, h => by
  rw [winF_succ] at h
  by_cases hc : fromN bf b L i ≤ tai ∧ tai < untilN af b L i
  ·rw [if_pos hc] at h
   obtain rfl := Option.some.inj h
   exact ⟨by omega, by omega, hc.1, hc.2⟩
  ·rw [if_neg hc] at h
   obtain ⟨h1, h2, h3⟩ := winF_some h
   exact ⟨by omega, by omega, h3⟩
end Go.Proofs.YthpljlpokmoeeaaGreatDoor.Mir
namespace Go.Proofs.YthpljlpokmoeeaaGreatDoor.Mir
open Go Go.RowKit
set_option maxRecDepth 100000
end Go.Proofs.YthpljlpokmoeeaaGreatDoor.Mir
namespace Go.Proofs.YthpljlpokmoeeaaGreatDoor.Mir
open Go Go.RowKit
set_option maxRecDepth 100000
theorem bif_t {A : Type} {c : Bool} {x y : A} (h : c = true) : (bif c then x else y) = x := by rw [h]; rfl
theorem bif_f {A : Type} {c : Bool} {x y : A} (h : c = false) : (bif c then x else y) = y := by rw [h]; rfl
theorem tchkT_at {N : Nat} (hN : 3000 ≤ N) {t : TenT} (h : TFit t) : f_22 N t.1 t.2.1 t.2.2.1 t.2.2.2.1 t.2.2.2.2.1 t.2.2.2.2.2.1 t.2.2.2.2.2.2.1 t.2.2.2.2.2.2.2.1 t.2.2.2.2.2.2.2.2.1 t.2.2.2.2.2.2.2.2.2.1 t.2.2.2.2.2.2.2.2.2.2.1 t.2.2.2.2.2.2.2.2.2.2.2.1 t.2.2.2.2.2.2.2.2.2.2.2.2.1 t.2.2.2.2.2.2.2.2.2.2.2.2.2.1 t.2.2.2.2.2.2.2.2.2.2.2.2.2.2.1 t.2.2.2.2.2.2.2.2.2.2.2.2.2.2.2.1 t.2.2.2.2.2.2.2.2.2.2.2.2.2.2.2.2.1 t.2.2.2.2.2.2.2.2.2.2.2.2.2.2.2.2.2 = some (bif mayTT t then none else some 1) := tchk_at hN _ _ _ _ _ _ _ _ _ _ _ _ _ _ _ _ h.zL h.ta
theorem tcop_at (N : Nat) (t : TenT) (h : (t.2.2.2.2.2.2.2.2.2.2.2.1).length ≤ 1000) : f_75 N t.1 t.2.1 t.2.2.1 t.2.2.2.1 t.2.2.2.2.1 t.2.2.2.2.2.1 t.2.2.2.2.2.2.1 t.2.2.2.2.2.2.2.1 t.2.2.2.2.2.2.2.2.1 t.2.2.2.2.2.2.2.2.2.1 t.2.2.2.2.2.2.2.2.2.2.1 t.2.2.2.2.2.2.2.2.2.2.2.1 t.2.2.2.2.2.2.2.2.2.2.2.2.1 t.2.2.2.2.2.2.2.2.2.2.2.2.2.1 t.2.2.2.2.2.2.2.2.2.2.2.2.2.2.1 t.2.2.2.2.2.2.2.2.2.2.2.2.2.2.2.1 t.2.2.2.2.2.2.2.2.2.2.2.2.2.2.2.2.1 t.2.2.2.2.2.2.2.2.2.2.2.2.2.2.2.2.2 = some t := by
 unfold f_75
 rw [decide_eq_true (show 0 ≤ (0 : Int) ∧ (0 : Int) ≤ ((t.2.2.2.2.2.2.2.2.2.2.2.1).length : Int) by omega), decide_eq_true (show (0 : Int) = (0 : Int) from rfl), decide_eq_true (show 0 ≤ (0 : Int) ∧ (0 : Int) ≤ (0 : Int) by omega), decide_eq_true (show ((List.drop (Int.toNat (0 : Int)) (List.take (Int.toNat (0 : Int)) (t.2.2.2.2.2.2.2.2.2.2.2.1))).length + (t.2.2.2.2.2.2.2.2.2.2.2.1).length) * 32 ≤ 140737488355328 by simp; omega)]
 simp only [cond_true]
 rw [show List.drop (Int.toNat (0 : Int)) (List.take (Int.toNat (0 : Int)) (t.2.2.2.2.2.2.2.2.2.2.2.1)) ++ (t.2.2.2.2.2.2.2.2.2.2.2.1) = (t.2.2.2.2.2.2.2.2.2.2.2.1) by simp]
structure TMay (t : TenT) : Prop where
 q : qmayB (t.2.2.2.2.2.1) = true
 u : umayB (t.2.2.2.2.2.2.1) (t.2.2.2.2.2.2.2.1) = true
 z : mayZ (t.2.2.2.2.2.2.2.2.2.1) (t.2.2.2.2.2.2.2.2.2.2.1) (t.2.2.2.2.2.2.2.2.2.2.2.1) = true
 p : pauseB (t.2.2.2.2.2.2.2.2.2.2.2.2.1) (t.2.2.2.2.2.2.2.2.2.2.2.2.2.1) (t.2.2.2.2.2.2.2.2.2.2.2.2.2.2.1) = true
 f : floorB (t.2.2.2.2.2.2.2.2.2.2.2.2.2.2.2.1) (t.2.2.2.2.2.2.2.2.2.2.2.2.2.2.2.2.1) (t.2.2.2.2.2.1) = true
 s : smayB (t.2.2.1) (t.2.2.2.1) (t.2.2.2.2.1) = true
theorem mayTT_ok {t : TenT} (h : mayTT t = true) : TMay t := by
 simp only [mayTT, mayT, mayP, Bool.and_eq_true] at h
 exact ⟨h.2.1.2.1, h.2.1.2.2.1, h.2.1.2.2.2, h.2.2.1, h.2.2.2.1, h.2.1.1⟩
def satD (k bf af b l : Int) (L : List Int) (v : Int) : Int × Option Int := if fitsE k bf af b l L = 0 then (if utcE b l L v = 0 then (atV k bf af b L v, none) else (0, some (utcE b l L v))) else (0, some (fitsE k bf af b l L))
def viewT (t : TenT) (tai : Int) : Int × Option Int := viewD (t.2.2.2.2.2.2.2.2.2.2.2.2.1) (t.2.2.2.2.2.2.2.2.2.2.2.2.2.1) (t.2.2.2.2.2.2.2.2.2.2.2.2.2.2.1) tai
def trueD (t : TenT) (b l : Int) (L : List Int) (tai : Int) : Int × Option Int :=
 if mayTT t = true then (match (viewT t tai).2 with | some e => (0, some e) | none => satD (t.2.2.1) (t.2.2.2.1) (t.2.2.2.2.1) b l L (viewT t tai).1) else (0, some 1)
theorem viewD_rng {on : Bool} {a lost t : Int} (h : (viewD on a lost t).2 = none) : -4611686018427387904 < (viewD on a lost t).1 ∧ (viewD on a lost t).1 < 4611686018427387904 := by
 unfold viewD at h ⊢
 split at h
 ·cases h
 ·split at h
  ·rename_i h1 h2
   rw [if_neg h1, if_pos h2]
   exact timeB_rng h2
  ·cases h
theorem ttrue_at {N : Nat} (hN : 3000 ≤ N) {t : TenT} (h : TFit t) {b l : Int} {L : List Int} (hL : L.length ≤ 40) {tai : Int} (ht : R64 tai) : f_25 N t.1 t.2.1 t.2.2.1 t.2.2.2.1 t.2.2.2.2.1 t.2.2.2.2.2.1 t.2.2.2.2.2.2.1 t.2.2.2.2.2.2.2.1 t.2.2.2.2.2.2.2.2.1 t.2.2.2.2.2.2.2.2.2.1 t.2.2.2.2.2.2.2.2.2.2.1 t.2.2.2.2.2.2.2.2.2.2.2.1 t.2.2.2.2.2.2.2.2.2.2.2.2.1 t.2.2.2.2.2.2.2.2.2.2.2.2.2.1 t.2.2.2.2.2.2.2.2.2.2.2.2.2.2.1 t.2.2.2.2.2.2.2.2.2.2.2.2.2.2.2.1 t.2.2.2.2.2.2.2.2.2.2.2.2.2.2.2.2.1 t.2.2.2.2.2.2.2.2.2.2.2.2.2.2.2.2.2 b l L tai = some (trueD t b l L tai) := by
 unfold f_25 trueD
 rw [tchkT_at hN h]
 simp only [Option.bind_some]
 cases hm : mayTT t with
 | false => rfl
 | true =>
  have hp := pauseB_rng (mayTT_ok hm).p
  simp only [cond_true, Option.isNone_none, Bool.not_true, cond_false, if_true]
  refine (bindP _ _ _ (pauview_at N (t.2.2.2.2.2.2.2.2.2.2.2.2.1) h.ta ht ⟨by omega, by omega⟩)).trans ?_
  have hr := fun h => viewD_rng (on := t.2.2.2.2.2.2.2.2.2.2.2.2.1) (a := t.2.2.2.2.2.2.2.2.2.2.2.2.2.1) (lost := t.2.2.2.2.2.2.2.2.2.2.2.2.2.2.1) (t := tai) h
  unfold viewT
  generalize viewD (t.2.2.2.2.2.2.2.2.2.2.2.2.1) (t.2.2.2.2.2.2.2.2.2.2.2.2.2.1) (t.2.2.2.2.2.2.2.2.2.2.2.2.2.2.1) tai = V at hr ⊢
  obtain ⟨v, e⟩ := V
  cases e with
  | some e => rfl
  | none =>
   have hr := hr rfl
   simp only [Option.isNone_none, Bool.not_true, cond_false] at hr ⊢
   refine (bindP _ _ _ (sat_at (N := N) (by omega) hL _ _ _ (tai := v) (by omega) (by omega))).trans ?_
   rfl
def coarseD (t : TenT) (v : Int) : Int × Option Int :=
 match (fuzzD (t.2.2.2.2.2.2.1) (t.2.2.2.2.2.2.2.1) (t.2.1) v).2 with
 | some e => (0, some e)
 | none => if qmayB (t.2.2.2.2.2.1) = true then fit64 ((fuzzD (t.2.2.2.2.2.2.1) (t.2.2.2.2.2.2.2.1) (t.2.1) v).1 / (t.2.2.2.2.2.1) * (t.2.2.2.2.2.1)) else (0, some 1)
theorem fit64_rng {s : Int} (h : (fit64 s).2 = none) : (fit64 s).1 = s ∧ R64 s := by
 unfold fit64 at h ⊢
 cases hb : rB s with
 | true => exact ⟨rfl, rB_iff.1 hb⟩
 | false => rw [hb] at h; cases h
theorem fuzzD_rng {w c : Int} {k : List Int} {v : Int} (h : (fuzzD w c k v).2 = none) : R64 (fuzzD w c k v).1 ∧ v - w ≤ (fuzzD w c k v).1 ∧ (fuzzD w c k v).1 ≤ v := by
 unfold fuzzD at h ⊢
 split at h
 ·rename_i hu
  rw [if_pos hu]
  have hn := numS_rng k (v / c) (umayB_rng hu).1.1
  obtain ⟨h1, h2⟩ := fit64_rng h
  rw [h1]
  exact ⟨h2, by omega, by omega⟩
 ·cases h
theorem coarse_at {N : Nat} (hN : 3000 ≤ N) {t : TenT} (hk : TKey t) {v : Int} (hv : R64 v) : f_74 N t.1 t.2.1 t.2.2.1 t.2.2.2.1 t.2.2.2.2.1 t.2.2.2.2.2.1 t.2.2.2.2.2.2.1 t.2.2.2.2.2.2.2.1 t.2.2.2.2.2.2.2.2.1 t.2.2.2.2.2.2.2.2.2.1 t.2.2.2.2.2.2.2.2.2.2.1 t.2.2.2.2.2.2.2.2.2.2.2.1 t.2.2.2.2.2.2.2.2.2.2.2.2.1 t.2.2.2.2.2.2.2.2.2.2.2.2.2.1 t.2.2.2.2.2.2.2.2.2.2.2.2.2.2.1 t.2.2.2.2.2.2.2.2.2.2.2.2.2.2.2.1 t.2.2.2.2.2.2.2.2.2.2.2.2.2.2.2.2.1 t.2.2.2.2.2.2.2.2.2.2.2.2.2.2.2.2.2 v = some (coarseD t v) := by
 unfold f_74 coarseD
 refine (bindP _ _ _ (uat_at (N := N) (by omega) (t.2.2.2.2.2.2.1) (t.2.2.2.2.2.2.2.1) hk.by_ hk.len hv)).trans ?_
 have hr := fun h => fuzzD_rng (w := t.2.2.2.2.2.2.1) (c := t.2.2.2.2.2.2.2.1) (k := t.2.1) (v := v) h
 generalize fuzzD (t.2.2.2.2.2.2.1) (t.2.2.2.2.2.2.2.1) (t.2.1) v = V at hr ⊢
 obtain ⟨n, e⟩ := V
 cases e with
 | some e => rfl
 | none =>
  simp only [Option.isNone_none, Bool.not_true, cond_false]
  refine (bindP _ _ _ (qdown_at N (q := t.2.2.2.2.2.1) (hr rfl).1)).trans ?_
  rfl
def boundD (k w q host raised : Int) : Int := satI ((if k = 0 then satI (satI (host + (w + q - 1)) + 1000000000) else satI (host + (w + q - 1))) + raised)
theorem off_at' (N : Nat) {t : TenT} (hm : TMay t) {host raised : Int} (hh : R64 host) (hr : R64 raised) : f_77 N t.1 t.2.1 t.2.2.1 t.2.2.2.1 t.2.2.2.2.1 t.2.2.2.2.2.1 t.2.2.2.2.2.2.1 t.2.2.2.2.2.2.2.1 t.2.2.2.2.2.2.2.2.1 t.2.2.2.2.2.2.2.2.2.1 t.2.2.2.2.2.2.2.2.2.2.1 t.2.2.2.2.2.2.2.2.2.2.2.1 t.2.2.2.2.2.2.2.2.2.2.2.2.1 t.2.2.2.2.2.2.2.2.2.2.2.2.2.1 t.2.2.2.2.2.2.2.2.2.2.2.2.2.2.1 t.2.2.2.2.2.2.2.2.2.2.2.2.2.2.2.1 t.2.2.2.2.2.2.2.2.2.2.2.2.2.2.2.2.1 t.2.2.2.2.2.2.2.2.2.2.2.2.2.2.2.2.2 host raised = some (boundD (t.2.2.1) (t.2.2.2.2.2.2.1) (t.2.2.2.2.2.1) host raised) := by
 have hq := qmayB_rng hm.q
 have hu := umayB_rng hm.u
 unfold f_77 boundD
 rw [wi64 (n := (t.2.2.2.2.2.2.1) + (t.2.2.2.2.2.1)) (by omega) (by omega), wi64 (n := (t.2.2.2.2.2.2.1) + (t.2.2.2.2.2.1) - 1) (by omega) (by omega), naddsat_at N hh ⟨by omega, by omega⟩]
 simp only [Option.bind_some]
 by_cases h0 : (t.2.2.1) = 0
 ·rw [if_pos h0, show ((t.2.2.1) == 0) = true by simpa using h0]
  simp only [cond_true]
  rw [naddsat_at N (satI_rng _) ⟨by omega, by omega⟩]
  simp only [Option.bind_some]
  rw [naddsat_at N (satI_rng _) hr]; rfl
 ·rw [if_neg h0, show ((t.2.2.1) == 0) = false by simpa using h0]
  simp only [cond_false]
  rw [naddsat_at N (satI_rng _) hr]; rfl
abbrev ReadT := Int × Int × Int × Int
def withFloor (t : TenT) (s : Bool) (v : Int) : TenT := (t.1, t.2.1, t.2.2.1, t.2.2.2.1, t.2.2.2.2.1, t.2.2.2.2.2.1, t.2.2.2.2.2.2.1, t.2.2.2.2.2.2.2.1, t.2.2.2.2.2.2.2.2.1, t.2.2.2.2.2.2.2.2.2.1, t.2.2.2.2.2.2.2.2.2.2.1, t.2.2.2.2.2.2.2.2.2.2.2.1, t.2.2.2.2.2.2.2.2.2.2.2.2.1, t.2.2.2.2.2.2.2.2.2.2.2.2.2.1, t.2.2.2.2.2.2.2.2.2.2.2.2.2.2.1, s, v, t.2.2.2.2.2.2.2.2.2.2.2.2.2.2.2.2.2)
def toldD (t : TenT) (n off : Int) : ReadT × TenT × Option Int :=
 if (t.2.2.1) = 0 then ((n, boundD (t.2.2.1) (t.2.2.2.2.2.2.1) (t.2.2.2.2.2.1) off 0, 0, off), t, none)
 else ((raiseD (t.2.2.2.2.2.2.2.2.2.2.2.2.2.2.2.1) (t.2.2.2.2.2.2.2.2.2.2.2.2.2.2.2.2.1) n, boundD (t.2.2.1) (t.2.2.2.2.2.2.1) (t.2.2.2.2.2.1) off (satI (raiseD (t.2.2.2.2.2.2.2.2.2.2.2.2.2.2.2.1) (t.2.2.2.2.2.2.2.2.2.2.2.2.2.2.2.2.1) n - n)), satI (raiseD (t.2.2.2.2.2.2.2.2.2.2.2.2.2.2.2.1) (t.2.2.2.2.2.2.2.2.2.2.2.2.2.2.2.2.1) n - n), off), withFloor t true (raiseD (t.2.2.2.2.2.2.2.2.2.2.2.2.2.2.2.1) (t.2.2.2.2.2.2.2.2.2.2.2.2.2.2.2.2.1) n), none)
def readD (t : TenT) (b l : Int) (L : List Int) (tai off : Int) : ReadT × TenT × Option Int :=
 if mayTT t = true then (if off < 0 then ((0, 0, 0, 0), ten0, some 1) else bif (t.2.2.2.2.2.2.2.2.2.2.2.2.1) then ((0, 0, 0, 0), ten0, some 16) else
  match (trueD t b l L tai).2 with
  | some e => ((0, 0, 0, 0), ten0, some e)
  | none => (match (coarseD t (trueD t b l L tai).1).2 with
   | some e => ((0, 0, 0, 0), ten0, some e)
   | none => toldD t (coarseD t (trueD t b l L tai).1).1 off))
 else ((0, 0, 0, 0), ten0, some 1)
theorem atV_rng {k bf af b l : Int} {L : List Int} {v : Int} (hE : fitsE k bf af b l L = 0) (hU : utcE b l L v = 0) : R64 (atV k bf af b L v) := by
 obtain ⟨hs, ht⟩ := fitsE_zero hE
 have T := tab_of ht
 obtain ⟨⟨u0, u1⟩, _⟩ := utcE_zero hU
 have hlim := cntD_le (dayS b L (v / 1000000000)) L
 have hb := T.b0
 have hb1 := T.b1
 have hl := T.len
 have ho : -4611686218427387904 < outV b L v ∧ outV b L v < 4611686218427387904 := by unfold outV; omega
 unfold atV
 split
 ·exact ⟨by omega, by omega⟩
 ·rename_i hk
  split
  ·rename_i j hj
   obtain ⟨_, w2, w3⟩ := winF_some hj
   have := off_in T hs hk (i := j) (by omega) w3
   exact ⟨by omega, by omega⟩
  ·exact ⟨by omega, by omega⟩
theorem trueD_rng {t : TenT} {b l : Int} {L : List Int} {tai : Int} (h : (trueD t b l L tai).2 = none) : R64 (trueD t b l L tai).1 := by
 unfold trueD satD at h ⊢
 split at h
 ·rename_i hm
  rw [if_pos hm]
  split at h
  ·cases h
  ·rename_i hv
   split at h
   ·rename_i hE
    rw [if_pos hE]
    split at h
    ·rename_i hU
     rw [if_pos hU]
     exact atV_rng hE hU
    ·cases h
   ·cases h
 ·cases h
theorem coarseD_rng {t : TenT} {v : Int} (h : (coarseD t v).2 = none) : R64 (coarseD t v).1 := by
 unfold coarseD at h ⊢
 split at h
 ·cases h
 ·rename_i hf
  split at h
  ·rename_i hq
   rw [if_pos hq]
   obtain ⟨h1, h2⟩ := fit64_rng h
   rw [h1]; exact h2
  ·cases h
theorem tread_at {N : Nat} (hN : 3000 ≤ N) {t : TenT} (h : TFit t) (hk : TKey t) {b l : Int} {L : List Int} (hL : L.length ≤ 40) {tai off : Int} (ht : R64 tai) (ho : R64 off) : f_24 N t.1 t.2.1 t.2.2.1 t.2.2.2.1 t.2.2.2.2.1 t.2.2.2.2.2.1 t.2.2.2.2.2.2.1 t.2.2.2.2.2.2.2.1 t.2.2.2.2.2.2.2.2.1 t.2.2.2.2.2.2.2.2.2.1 t.2.2.2.2.2.2.2.2.2.2.1 t.2.2.2.2.2.2.2.2.2.2.2.1 t.2.2.2.2.2.2.2.2.2.2.2.2.1 t.2.2.2.2.2.2.2.2.2.2.2.2.2.1 t.2.2.2.2.2.2.2.2.2.2.2.2.2.2.1 t.2.2.2.2.2.2.2.2.2.2.2.2.2.2.2.1 t.2.2.2.2.2.2.2.2.2.2.2.2.2.2.2.2.1 t.2.2.2.2.2.2.2.2.2.2.2.2.2.2.2.2.2 b l L tai off = some (readD t b l L tai off) := by
 unfold f_24 readD
 rw [tchkT_at hN h]
 simp only [Option.bind_some]
 cases hm : mayTT t with
 | false => rfl
 | true =>
  have hM := mayTT_ok hm
  simp only [cond_true, Option.isNone_none, Bool.not_true, cond_false, if_true]
  by_cases h0 : off < 0
  ·rw [decide_eq_true h0, if_pos h0]; rfl
  ·rw [decide_eq_false h0, if_neg h0]
   simp only [cond_false]
   rcases Bool.eq_false_or_eq_true (t.2.2.2.2.2.2.2.2.2.2.2.2.1) with hon | hon
   ·rw [bif_t hon, bif_t hon]; rfl
   ·rw [bif_f hon, bif_f hon]
    refine (bindP _ _ _ (ttrue_at hN h hL ht)).trans ?_
    have hr := fun h => trueD_rng (t := t) (b := b) (l := l) (L := L) (tai := tai) h
    generalize trueD t b l L tai = V at hr ⊢
    obtain ⟨v, e⟩ := V
    cases e with
    | some e => rfl
    | none =>
     have hv := hr rfl
     simp only [Option.isNone_none, Bool.not_true, cond_false] at hv ⊢
     refine (bindP _ _ _ (coarse_at hN hk hv)).trans ?_
     have hr := fun h => coarseD_rng (t := t) (v := v) h
     generalize coarseD t v = C at hr ⊢
     obtain ⟨n, e⟩ := C
     cases e with
     | some e => rfl
     | none =>
      have hn := hr rfl
      simp only [Option.isNone_none, Bool.not_true, cond_false] at hn ⊢
      refine (bindP _ _ _ (tcop_at N t h.zL)).trans ?_
      unfold toldD
      by_cases hk0 : (t.2.2.1) = 0
      ·rw [if_pos hk0, show ((t.2.2.1) != 0) = false by simpa using hk0]
       simp only [cond_false]
       refine (bindP _ _ _ (off_at' N hM ho (raised := 0) ⟨by decide, by decide⟩)).trans ?_
       rfl
      ·rw [if_neg hk0, show ((t.2.2.1) != 0) = true by simpa using hk0]
       simp only [cond_true]
       refine (bindP _ _ _ (ftake_at N (t.2.2.2.2.2.2.2.2.2.2.2.2.2.2.2.1) h.tl hn)).trans ?_
       refine (bindP _ _ _ (off_at' N hM ho (satI_rng _))).trans ?_
       rfl
end Go.Proofs.YthpljlpokmoeeaaGreatDoor.Mir
namespace Go.Proofs.YthpljlpokmoeeaaGreatDoor.Mir
open Go Go.RowKit
set_option maxRecDepth 100000
def setT (t : TenT) (p : PolT) (f : Bool × Int) : TenT := (t.1, t.2.1, p.1, p.2.1, p.2.2.1, p.2.2.2.1, p.2.2.2.2.1, p.2.2.2.2.2.1, p.2.2.2.2.2.2.1, p.2.2.2.2.2.2.2.1, p.2.2.2.2.2.2.2.2.1, p.2.2.2.2.2.2.2.2.2, t.2.2.2.2.2.2.2.2.2.2.2.2.1, t.2.2.2.2.2.2.2.2.2.2.2.2.2.1, t.2.2.2.2.2.2.2.2.2.2.2.2.2.2.1, f.1, f.2, t.2.2.2.2.2.2.2.2.2.2.2.2.2.2.2.2.2)
def withPause (t : TenT) (p : PauT) : TenT := (t.1, t.2.1, t.2.2.1, t.2.2.2.1, t.2.2.2.2.1, t.2.2.2.2.2.1, t.2.2.2.2.2.2.1, t.2.2.2.2.2.2.2.1, t.2.2.2.2.2.2.2.2.1, t.2.2.2.2.2.2.2.2.2.1, t.2.2.2.2.2.2.2.2.2.2.1, t.2.2.2.2.2.2.2.2.2.2.2.1, p.1, p.2.1, p.2.2, t.2.2.2.2.2.2.2.2.2.2.2.2.2.2.2.1, t.2.2.2.2.2.2.2.2.2.2.2.2.2.2.2.2.1, t.2.2.2.2.2.2.2.2.2.2.2.2.2.2.2.2.2)
structure PFit (p : PolT) : Prop where
 zn : p.2.2.2.2.2.2.2.1.size ≤ 1000
 zL : p.2.2.2.2.2.2.2.2.2.length ≤ 1000
 rn : ∀ i, i < p.2.2.2.2.2.2.2.2.2.length → (gR p.2.2.2.2.2.2.2.2.2 i).2.2.size ≤ 1000
def margT (t : TenT) (p : PolT) : (Bool × Int) × Option Int := margD (t.2.2.2.2.2.2.2.2.2.2.2.2.2.2.2.1) (t.2.2.2.2.2.2.2.2.2.2.2.2.2.2.2.2.1) 0 p.2.2.2.1
def setD (t : TenT) (p : PolT) : TenT × Option Int :=
 if mayTT t = true then (if mayPT p = true then (match (margT t p).2 with | some e => (ten0, some e) | none => (setT t p (margT t p).1, none)) else (ten0, some 1)) else (ten0, some 1)
theorem tset_at {N : Nat} (hN : 3000 ≤ N) {t : TenT} (h : TFit t) {p : PolT} (hp : PFit p) : f_29 N t.1 t.2.1 t.2.2.1 t.2.2.2.1 t.2.2.2.2.1 t.2.2.2.2.2.1 t.2.2.2.2.2.2.1 t.2.2.2.2.2.2.2.1 t.2.2.2.2.2.2.2.2.1 t.2.2.2.2.2.2.2.2.2.1 t.2.2.2.2.2.2.2.2.2.2.1 t.2.2.2.2.2.2.2.2.2.2.2.1 t.2.2.2.2.2.2.2.2.2.2.2.2.1 t.2.2.2.2.2.2.2.2.2.2.2.2.2.1 t.2.2.2.2.2.2.2.2.2.2.2.2.2.2.1 t.2.2.2.2.2.2.2.2.2.2.2.2.2.2.2.1 t.2.2.2.2.2.2.2.2.2.2.2.2.2.2.2.2.1 t.2.2.2.2.2.2.2.2.2.2.2.2.2.2.2.2.2 p.1 p.2.1 p.2.2.1 p.2.2.2.1 p.2.2.2.2.1 p.2.2.2.2.2.1 p.2.2.2.2.2.2.1 p.2.2.2.2.2.2.2.1 p.2.2.2.2.2.2.2.2.1 p.2.2.2.2.2.2.2.2.2 = some (setD t p) := by
 unfold f_29 setD
 rw [tchkT_at hN h]
 simp only [Option.bind_some]
 cases hm : mayTT t with
 | false => rfl
 | true =>
  simp only [cond_true, Option.isNone_none, Bool.not_true, cond_false, if_true]
  refine (bindP _ _ _ (pchk_at hN p.1 p.2.1 p.2.2.1 p.2.2.2.1 p.2.2.2.2.1 p.2.2.2.2.2.1 p.2.2.2.2.2.2.1 hp.zL)).trans ?_
  rw [show mayP p.1 p.2.1 p.2.2.1 p.2.2.2.1 p.2.2.2.2.1 p.2.2.2.2.2.1 p.2.2.2.2.2.2.2.1 p.2.2.2.2.2.2.2.2.1 p.2.2.2.2.2.2.2.2.2 = mayPT p from rfl]
  cases hq : mayPT p with
  | false => rfl
  | true =>
   simp only [cond_true, Option.isNone_none, Bool.not_true, cond_false, if_true]
   refine (bindP _ _ _ (fmarg_at N (t.2.2.2.2.2.2.2.2.2.2.2.2.2.2.2.1) (by_ := 0) p.2.2.2.1 h.tl ⟨by decide, by decide⟩)).trans ?_
   rw [show margD (t.2.2.2.2.2.2.2.2.2.2.2.2.2.2.2.1) (t.2.2.2.2.2.2.2.2.2.2.2.2.2.2.2.2.1) 0 p.2.2.2.1 = margT t p from rfl]
   generalize margT t p = V
   obtain ⟨f, e⟩ := V
   cases e with
   | some e => rfl
   | none =>
    simp only [Option.isNone_none, Bool.not_true, cond_false]
    exact (bindP _ _ _ (tcop_at N (setT t p f) hp.zL)).trans rfl
def stopT (t : TenT) (tai : Int) : PauT × Option Int := stopD (t.2.2.2.2.2.2.2.2.2.2.2.2.1) (t.2.2.2.2.2.2.2.2.2.2.2.2.2.1) (t.2.2.2.2.2.2.2.2.2.2.2.2.2.2.1) tai
def goT (t : TenT) (tai : Int) : PauT × Option Int := goD (t.2.2.2.2.2.2.2.2.2.2.2.2.1) (t.2.2.2.2.2.2.2.2.2.2.2.2.2.1) (t.2.2.2.2.2.2.2.2.2.2.2.2.2.2.1) tai (t.2.2.2.2.2.2.2.2.1)
def pausedD (t : TenT) (v : PauT × Option Int) : TenT × Option Int :=
 if mayTT t = true then (match v.2 with | some e => (ten0, some e) | none => (withPause t v.1, none)) else (ten0, some 1)
theorem tstop_at {N : Nat} (hN : 3000 ≤ N) {t : TenT} (h : TFit t) {tai : Int} (ht : R64 tai) : f_34 N t.1 t.2.1 t.2.2.1 t.2.2.2.1 t.2.2.2.2.1 t.2.2.2.2.2.1 t.2.2.2.2.2.2.1 t.2.2.2.2.2.2.2.1 t.2.2.2.2.2.2.2.2.1 t.2.2.2.2.2.2.2.2.2.1 t.2.2.2.2.2.2.2.2.2.2.1 t.2.2.2.2.2.2.2.2.2.2.2.1 t.2.2.2.2.2.2.2.2.2.2.2.2.1 t.2.2.2.2.2.2.2.2.2.2.2.2.2.1 t.2.2.2.2.2.2.2.2.2.2.2.2.2.2.1 t.2.2.2.2.2.2.2.2.2.2.2.2.2.2.2.1 t.2.2.2.2.2.2.2.2.2.2.2.2.2.2.2.2.1 t.2.2.2.2.2.2.2.2.2.2.2.2.2.2.2.2.2 tai = some (pausedD t (stopT t tai)) := by
 unfold f_34 pausedD
 rw [tchkT_at hN h]
 simp only [Option.bind_some]
 cases hm : mayTT t with
 | false => rfl
 | true =>
  simp only [cond_true, Option.isNone_none, Bool.not_true, cond_false, if_true]
  refine (bindP _ _ _ (paustop_at N (t.2.2.2.2.2.2.2.2.2.2.2.2.1) (t.2.2.2.2.2.2.2.2.2.2.2.2.2.2.1) h.ta ht)).trans ?_
  rw [show stopD (t.2.2.2.2.2.2.2.2.2.2.2.2.1) (t.2.2.2.2.2.2.2.2.2.2.2.2.2.1) (t.2.2.2.2.2.2.2.2.2.2.2.2.2.2.1) tai = stopT t tai from rfl]
  generalize stopT t tai = V
  obtain ⟨f, e⟩ := V
  cases e with
  | some e => rfl
  | none =>
   simp only [Option.isNone_none, Bool.not_true, cond_false]
   exact (bindP _ _ _ (tcop_at N (withPause t f) h.zL)).trans rfl
theorem tgo_at {N : Nat} (hN : 3000 ≤ N) {t : TenT} (h : TFit t) {tai : Int} (ht : R64 tai) : f_36 N t.1 t.2.1 t.2.2.1 t.2.2.2.1 t.2.2.2.2.1 t.2.2.2.2.2.1 t.2.2.2.2.2.2.1 t.2.2.2.2.2.2.2.1 t.2.2.2.2.2.2.2.2.1 t.2.2.2.2.2.2.2.2.2.1 t.2.2.2.2.2.2.2.2.2.2.1 t.2.2.2.2.2.2.2.2.2.2.2.1 t.2.2.2.2.2.2.2.2.2.2.2.2.1 t.2.2.2.2.2.2.2.2.2.2.2.2.2.1 t.2.2.2.2.2.2.2.2.2.2.2.2.2.2.1 t.2.2.2.2.2.2.2.2.2.2.2.2.2.2.2.1 t.2.2.2.2.2.2.2.2.2.2.2.2.2.2.2.2.1 t.2.2.2.2.2.2.2.2.2.2.2.2.2.2.2.2.2 tai = some (pausedD t (goT t tai)) := by
 unfold f_36 pausedD
 rw [tchkT_at hN h]
 simp only [Option.bind_some]
 cases hm : mayTT t with
 | false => rfl
 | true =>
  have hp := pauseB_rng (mayTT_ok hm).p
  simp only [cond_true, Option.isNone_none, Bool.not_true, cond_false, if_true]
  refine (bindP _ _ _ (paugo_at N (t.2.2.2.2.2.2.2.2.2.2.2.2.1) (t.2.2.2.2.2.2.2.2.1) h.ta ht ⟨by omega, by omega⟩)).trans ?_
  rw [show goD (t.2.2.2.2.2.2.2.2.2.2.2.2.1) (t.2.2.2.2.2.2.2.2.2.2.2.2.2.1) (t.2.2.2.2.2.2.2.2.2.2.2.2.2.2.1) tai (t.2.2.2.2.2.2.2.2.1) = goT t tai from rfl]
  generalize goT t tai = V
  obtain ⟨f, e⟩ := V
  cases e with
  | some e => rfl
  | none =>
   simp only [Option.isNone_none, Bool.not_true, cond_false]
   exact (bindP _ _ _ (tcop_at N (withPause t f) h.zL)).trans rfl
theorem r64_0 : R64 0 := ⟨by decide, by decide⟩
end Go.Proofs.YthpljlpokmoeeaaGreatDoor.Mir
namespace Go.Proofs.YthpljlpokmoeeaaGreatDoor.Mir
open Go Go.RowKit
set_option maxRecDepth 100000
theorem give_loop29 (N : Nat) {n : ByteArray} {f : Int} {L : List Rul} (hL : L.length ≤ 4398046511104) (z : ByteArray × Int × List Rul) : ∀ (k M i : Nat) (acc : List Rul), i + k = L.length → k < M → acc.length = i →
  iter (b_87_0 N) M ((), (), (), (i : Int), (n, f, L), z, (n, f, acc)) = some ((), (), z, (n, f, acc ++ L.drop i)) := by
 intro k
 induction k with
 | zero =>
  intro M i acc hi hM ha
  obtain ⟨M, rfl⟩ : ∃ m, M = m + 1 := ⟨M - 1, by omega⟩
  show b_87_0 N (iter (b_87_0 N) M) _ = _
  unfold b_87_0
  simp only
  rw [decide_eq_false (show ¬ (i : Int) < (L.length : Int) by omega), List.drop_eq_nil_of_le (by omega), List.append_nil]; rfl
 | succ k ih =>
  intro M i acc hi hM ha
  obtain ⟨M, rfl⟩ : ∃ m, M = m + 1 := ⟨M - 1, by omega⟩
  have ih' := ih M (i + 1) (acc ++ [gR L i]) (by omega) (by omega) (by rw [List.length_append, ha]; rfl)
  show b_87_0 N (iter (b_87_0 N) M) _ = _
  generalize iter (b_87_0 N) M = I at ih' ⊢
  unfold b_87_0
  simp only
  rw [decide_eq_true (show (i : Int) < (L.length : Int) by omega), decide_eq_true (show 0 ≤ (i : Int) ∧ (i : Int) < (L.length : Int) by omega), wi64 (n := (i : Int) + 1) (by omega) (by omega), show (i : Int) + 1 = ((i + 1 : Nat) : Int) by omega]
  simp only [cond_true, Int.toNat_natCast]
  show (bif decide ((acc.length + [gR L i].length) * 32 ≤ 140737488355328) then I ((), (), (), ((i + 1 : Nat) : Int), (n, f, L), z, (n, f, acc ++ [gR L i])) else none) = _
  rw [decide_eq_true (by rw [List.length_singleton]; omega), cond_true, ih', List.append_assoc]
  have hi' : i < L.length := by omega
  have e : gR L i = L[i] := by unfold gR; rw [List.getD_eq_getElem?_getD, List.getElem?_eq_getElem hi']; rfl
  rw [List.drop_eq_getElem_cons hi', e]; rfl
theorem give_at29 {N : Nat} (n : ByteArray) (f : Int) {L : List Rul} (hL : L.length ≤ 4398046511104) (hN : L.length < N) : f_87 N n f L = some (n, f, L) := by
 have h := give_loop29 N (n := n) (f := f) hL (ByteArray.empty, 0, []) L.length N 0 [] (by omega) hN rfl
 have h' : l_87_0 N ((), (), (), 0, (n, f, L), (ByteArray.empty, 0, []), (n, f, [])) = some ((), (), (ByteArray.empty, 0, []), (n, f, L)) := h
 unfold f_87
 rw [h']; rfl
theorem big_loop29 (N : Nat) {n : ByteArray} {f : Int} {L : List Rul} : ∀ (k M i : Nat), i + k = 60 → k < M → ∃ r, iter (b_26_0 N) M ((), (i : Int), (n, f, L)) = some r ∧ (r = .inl true ∨ (r = .inr ((), (n, f, L)) ∧ ∀ j, i ≤ j → j < L.length → j < 60 → (gR L j).2.2.size ≤ 200)) := by
 intro k
 induction k with
 | zero =>
  intro M i hi hM
  obtain ⟨M, rfl⟩ : ∃ m, M = m + 1 := ⟨M - 1, by omega⟩
  refine ⟨.inr ((), (n, f, L)), ?_, .inr ⟨rfl, fun j h1 h2 h3 => by omega⟩⟩
  show b_26_0 N (iter (b_26_0 N) M) _ = _
  unfold b_26_0
  simp only
  rw [decide_eq_false (show ¬ (i : Int) < 60 by omega)]
  cases decide ((i : Int) < (L.length : Int)) <;> rfl
 | succ k ih =>
  intro M i hi hM
  obtain ⟨M, rfl⟩ : ∃ m, M = m + 1 := ⟨M - 1, by omega⟩
  obtain ⟨r, h1, h2⟩ := ih M (i + 1) (by omega) (by omega)
  by_cases hl : i < L.length
  ·by_cases hs : (gR L i).2.2.size > 200
   ·refine ⟨.inl true, ?_, .inl rfl⟩
    show b_26_0 N (iter (b_26_0 N) M) _ = _
    unfold b_26_0
    simp only
    rw [decide_eq_true (show (i : Int) < 60 by omega), decide_eq_true (show (i : Int) < (L.length : Int) by omega), decide_eq_true (show 0 ≤ (i : Int) ∧ (i : Int) < (L.length : Int) by omega), Int.toNat_natCast]
    show (bif decide (((gR L i).2.2.size : Int) > 200) then _ else _) = _
    rw [decide_eq_true (by omega)]; rfl
   ·refine ⟨r, ?_, ?_⟩
    ·rw [← h1]
     show b_26_0 N (iter (b_26_0 N) M) _ = _
     generalize iter (b_26_0 N) M = I
     unfold b_26_0
     simp only
     rw [decide_eq_true (show (i : Int) < 60 by omega), decide_eq_true (show (i : Int) < (L.length : Int) by omega), decide_eq_true (show 0 ≤ (i : Int) ∧ (i : Int) < (L.length : Int) by omega), Int.toNat_natCast, wi64 (n := (i : Int) + 1) (by omega) (by omega)]
     show (bif decide (((gR L i).2.2.size : Int) > 200) then _ else _) = _
     rw [decide_eq_false (by omega)]; rfl
    ·rcases h2 with h2 | ⟨h2, h3⟩
     ·exact .inl h2
     ·refine .inr ⟨h2, fun j a b c => ?_⟩
      by_cases hj : j = i
      ·subst hj; omega
      ·exact h3 j (by omega) b c
  ·refine ⟨.inr ((), (n, f, L)), ?_, .inr ⟨rfl, fun j h1 h2 h3 => by omega⟩⟩
   show b_26_0 N (iter (b_26_0 N) M) _ = _
   unfold b_26_0
   simp only
   rw [decide_eq_false (show ¬ (i : Int) < (L.length : Int) by omega)]; rfl
theorem big_at29 {N : Nat} (n : ByteArray) (f : Int) (L : List Rul) (hN : 61 ≤ N) : ∃ b, f_26 N n f L = some b ∧ (b = false → L.length ≤ 60 ∧ n.size ≤ 200 ∧ ∀ i, i < L.length → (gR L i).2.2.size ≤ 200) := by
 obtain ⟨r, h1, h2⟩ := big_loop29 N (n := n) (f := f) (L := L) 60 N 0 rfl (by omega)
 have h' : l_26_0 N ((), 0, (n, f, L)) = some r := h1
 unfold f_26
 rw [h']
 rcases h2 with rfl | ⟨rfl, h3⟩
 ·exact ⟨true, rfl, fun h => by cases h⟩
 ·show ∃ b, (bif decide ((L.length : Int) > 60) then some true else some (decide ((n.size : Int) > 200))) = some b ∧ _
  by_cases hl : L.length > 60
  ·rw [decide_eq_true (show (L.length : Int) > 60 by omega)]
   exact ⟨true, rfl, fun h => by cases h⟩
  ·rw [decide_eq_false (show ¬ (L.length : Int) > 60 by omega)]
   refine ⟨_, rfl, fun h => ?_⟩
   have := of_decide_eq_false h
   exact ⟨by omega, by omega, fun i hi => h3 i (Nat.zero_le _) hi (by omega)⟩
end Go.Proofs.YthpljlpokmoeeaaGreatDoor.Mir
namespace Go.Proofs.YthpljlpokmoeeaaGreatDoor.Mir
open Go Go.RowKit
set_option maxRecDepth 100000
theorem pgive_at29 {N : Nat} (k b a q w c : Int) (j : Bool) (n : ByteArray) (f : Int) {L : List Rul} (hL : L.length ≤ 4398046511104) (hN : L.length < N) : f_30 N k b a q w c j n f L = some (k, b, a, q, w, c, j, n, f, L) := by
 unfold f_30
 rw [give_at29 n f hL hN]; rfl
theorem tgive_at29 {N : Nat} (t : TenT) (hL : (t.2.2.2.2.2.2.2.2.2.2.2.1).length ≤ 4398046511104) (hN : (t.2.2.2.2.2.2.2.2.2.2.2.1).length < N) : f_20 N t.1 t.2.1 t.2.2.1 t.2.2.2.1 t.2.2.2.2.1 t.2.2.2.2.2.1 t.2.2.2.2.2.2.1 t.2.2.2.2.2.2.2.1 t.2.2.2.2.2.2.2.2.1 t.2.2.2.2.2.2.2.2.2.1 t.2.2.2.2.2.2.2.2.2.2.1 t.2.2.2.2.2.2.2.2.2.2.2.1 t.2.2.2.2.2.2.2.2.2.2.2.2.1 t.2.2.2.2.2.2.2.2.2.2.2.2.2.1 t.2.2.2.2.2.2.2.2.2.2.2.2.2.2.1 t.2.2.2.2.2.2.2.2.2.2.2.2.2.2.2.1 t.2.2.2.2.2.2.2.2.2.2.2.2.2.2.2.2.1 t.2.2.2.2.2.2.2.2.2.2.2.2.2.2.2.2.2 = some t := by
 unfold f_20
 rw [pgive_at29 _ _ _ _ _ _ _ _ _ hL hN]; rfl
structure TBig29 (t : TenT) : Prop where
 zL : (t.2.2.2.2.2.2.2.2.2.2.2.1).length ≤ 60
 zn : (t.2.2.2.2.2.2.2.2.2.1).size ≤ 200
 rn : ∀ i, i < (t.2.2.2.2.2.2.2.2.2.2.2.1).length → (gR (t.2.2.2.2.2.2.2.2.2.2.2.1) i).2.2.size ≤ 200
 n : (t.1).size ≤ 100
theorem tbig_at29 {N : Nat} (t : TenT) (hN : 60 < N) : ∃ g, f_21 N t.1 t.2.1 t.2.2.1 t.2.2.2.1 t.2.2.2.2.1 t.2.2.2.2.2.1 t.2.2.2.2.2.2.1 t.2.2.2.2.2.2.2.1 t.2.2.2.2.2.2.2.2.1 t.2.2.2.2.2.2.2.2.2.1 t.2.2.2.2.2.2.2.2.2.2.1 t.2.2.2.2.2.2.2.2.2.2.2.1 t.2.2.2.2.2.2.2.2.2.2.2.2.1 t.2.2.2.2.2.2.2.2.2.2.2.2.2.1 t.2.2.2.2.2.2.2.2.2.2.2.2.2.2.1 t.2.2.2.2.2.2.2.2.2.2.2.2.2.2.2.1 t.2.2.2.2.2.2.2.2.2.2.2.2.2.2.2.2.1 t.2.2.2.2.2.2.2.2.2.2.2.2.2.2.2.2.2 = some g ∧ (g = false → TBig29 t) := by
 obtain ⟨g, h1, h2⟩ := big_at29 (N := N) (t.2.2.2.2.2.2.2.2.2.1) (t.2.2.2.2.2.2.2.2.2.2.1) (t.2.2.2.2.2.2.2.2.2.2.2.1) hN
 unfold f_21
 rw [h1]
 cases g with
 | true => exact ⟨true, rfl, fun h => by cases h⟩
 | false =>
  obtain ⟨b1, b2, b3⟩ := h2 rfl
  refine ⟨_, rfl, fun h => ⟨b1, b2, b3, ?_⟩⟩
  have := of_decide_eq_false h
  omega
theorem TBig29.fit {t : TenT} (h : TBig29 t) (ha : R64 (t.2.2.2.2.2.2.2.2.2.2.2.2.2.1)) (hl : R64 (t.2.2.2.2.2.2.2.2.2.2.2.2.2.2.2.2.1)) : TFit t :=
 ⟨by have := h.n; omega, by have := h.zn; omega, by have := h.zL; omega, fun i hi => by have := h.rn i hi; omega, ha, hl⟩
end Go.Proofs.YthpljlpokmoeeaaGreatDoor.Mir
namespace Go.Proofs.YthpljlpokmoeeaaGreatDoor.Mir
open Go Go.RowKit
set_option maxRecDepth 100000
theorem tlsure_at (n : Nat) : f_23 (n + 3000) = some true := by kernel_rfl
theorem tlsure_at' {m : Nat} (h : 3000 ≤ m) : f_23 m = some true := by
 obtain ⟨n, rfl⟩ : ∃ n, m = n + 3000 := ⟨m - 3000, by omega⟩
 exact tlsure_at n
theorem coarseD_val {t : TenT} {v : Int} (hm : TMay t) (h : (coarseD t v).2 = none) : v - t.2.2.2.2.2.2.1 - (t.2.2.2.2.2.1 - 1) ≤ (coarseD t v).1 ∧ (coarseD t v).1 ≤ v ∧ (coarseD t v).1 % t.2.2.2.2.2.1 = 0 := by
 have hq := qmayB_rng hm.q
 unfold coarseD at h ⊢
 have hr := fun h => fuzzD_rng (w := t.2.2.2.2.2.2.1) (c := t.2.2.2.2.2.2.2.1) (k := t.2.1) (v := v) h
 generalize fuzzD (t.2.2.2.2.2.2.1) (t.2.2.2.2.2.2.2.1) (t.2.1) v = V at hr h ⊢
 obtain ⟨n, e⟩ := V
 cases e with
 | some e => cases h
 | none =>
  obtain ⟨_, h1, h2⟩ := hr rfl
  simp only at h h1 h2 ⊢
  rw [if_pos hm.q] at h ⊢
  obtain ⟨e1, e2⟩ := fit64_rng h
  rw [e1]
  have d1 := Int.mul_ediv_add_emod n (t.2.2.2.2.2.1)
  have d2 := Int.emod_nonneg n (show t.2.2.2.2.2.1 ≠ 0 by omega)
  have d3 := Int.emod_lt_of_pos n (show 0 < t.2.2.2.2.2.1 by omega)
  rw [Int.mul_comm] at d1
  refine ⟨by omega, by omega, ?_⟩
  exact Int.mul_emod_left _ _
theorem readD_none {t : TenT} {b l : Int} {L : List Int} {tai off : Int} (h : (readD t b l L tai off).2.2 = none) :
  mayTT t = true ∧ 0 ≤ off ∧ t.2.2.2.2.2.2.2.2.2.2.2.2.1 = false ∧ (trueD t b l L tai).2 = none ∧ (coarseD t (trueD t b l L tai).1).2 = none ∧ readD t b l L tai off = toldD t (coarseD t (trueD t b l L tai).1).1 off := by
 unfold readD at h ⊢
 by_cases hm : mayTT t = true
 ·rw [if_pos hm] at h ⊢
  by_cases h0 : off < 0
  ·rw [if_pos h0] at h; cases h
  ·rw [if_neg h0] at h ⊢
   rcases Bool.eq_false_or_eq_true (t.2.2.2.2.2.2.2.2.2.2.2.2.1) with hon | hon
   ·rw [bif_t hon] at h; cases h
   ·rw [bif_f hon] at h ⊢
    generalize trueD t b l L tai = V at h ⊢
    obtain ⟨v, e'⟩ := V
    cases e' with
    | some e' => cases h
    | none =>
     simp only at h ⊢
     generalize coarseD t v = C at h ⊢
     obtain ⟨n, e'⟩ := C
     cases e' with
     | some e' => cases h
     | none => exact ⟨hm, by omega, hon, trivial, rfl, rfl⟩
 ·rw [if_neg hm] at h; cases h
end Go.Proofs.YthpljlpokmoeeaaGreatDoor.Mir
namespace Go.Proofs.YthpljlpokmoeeaaGreatDoor.Mir
open Go Go.RowKit
set_option maxRecDepth 100000
theorem may_pause {t : TenT} {p : PauT} (h : mayTT t = true) (hp : pauseB p.1 p.2.1 p.2.2 = true) : mayTT (withPause t p) = true := by
 simp only [mayTT, mayT, withPause, Bool.and_eq_true] at h ⊢
 exact ⟨h.1, h.2.1, hp, h.2.2.2⟩
theorem may_floor {t : TenT} {v : Int} (h : mayTT t = true) (hv : floorB true v t.2.2.2.2.2.1 = true) : mayTT (withFloor t true v) = true := by
 simp only [mayTT, mayT, withFloor, Bool.and_eq_true] at h ⊢
 exact ⟨h.1, h.2.1, h.2.2.1, hv, h.2.2.2.2⟩
theorem may_set {t : TenT} {p : PolT} {f : Bool × Int} (h : mayTT t = true) (hp : mayPT p = true) (hf : floorB f.1 f.2 p.2.2.2.1 = true) : mayTT (setT t p f) = true := by
 simp only [mayTT, mayT, setT, mayPT, Bool.and_eq_true] at h hp ⊢
 exact ⟨h.1, hp, h.2.2.1, hf, h.2.2.2.2⟩
theorem tmod_zero {v q : Int} (h : v % q = 0) : Int.tmod v q = 0 := Int.tmod_eq_zero_of_dvd (Int.dvd_of_emod_eq_zero h)
theorem mod_of_tmod {v q : Int} (h : Int.tmod v q = 0) : v % q = 0 := Int.emod_eq_zero_of_dvd (Int.dvd_of_tmod_eq_zero h)
theorem floorB_on {v q : Int} (h : v % q = 0) : floorB true v q = true := by
 unfold floorB
 rw [cond_true, tmod_zero h]; rfl
theorem upQ_mod (t q : Int) : upQ t q % q = 0 := by
 unfold upQ
 split <;> exact Int.mul_emod_left _ _
theorem upQ_ge {t q : Int} (hq : 1 ≤ q) : t ≤ upQ t q := by
 have h1 := Int.emod_nonneg t (show q ≠ 0 by omega)
 have h2 := Int.emod_lt_of_pos t (show 0 < q by omega)
 have e := Int.mul_ediv_add_emod t q
 rw [Int.mul_comm] at e
 unfold upQ
 split
 ·rw [Int.add_mul, Int.one_mul]; omega
 ·omega
structure On (x : TenT) (last : Int) (any : Bool) : Prop where
 may : mayTT x = true
 fit : TFit x
 key : TKey x
 low : any = true → x.2.2.2.2.2.2.2.2.2.2.2.2.2.2.2.1 = true ∧ last ≤ x.2.2.2.2.2.2.2.2.2.2.2.2.2.2.2.2.1
theorem margT_ok {x : TenT} {p : PolT} (hl : R64 (x.2.2.2.2.2.2.2.2.2.2.2.2.2.2.2.2.1)) (hm : TMay x) (h : (margT x p).2 = none) : floorB (margT x p).1.1 (margT x p).1.2 p.2.2.2.1 = true ∧ R64 (margT x p).1.2 ∧ (margT x p).1.1 = x.2.2.2.2.2.2.2.2.2.2.2.2.2.2.2.1 ∧ (x.2.2.2.2.2.2.2.2.2.2.2.2.2.2.2.1 = true → x.2.2.2.2.2.2.2.2.2.2.2.2.2.2.2.2.1 ≤ (margT x p).1.2) := by
 unfold margT margD at h ⊢
 by_cases h0 : (0 : Int) < 0 ∨ qmayB p.2.2.2.1 = false
 ·rw [if_pos h0] at h; cases h
 ·rw [if_neg h0] at h ⊢
  have hq : qmayB p.2.2.2.1 = true := by
   cases hb : qmayB p.2.2.2.1 with
   | true => rfl
   | false => exact absurd (Or.inr hb) h0
  have hq' := qmayB_rng hq
  have hf := hm.f
  generalize x.2.2.2.2.2.2.2.2.2.2.2.2.2.2.2.1 = s at h hf ⊢
  cases s with
  | false =>
   simp only [cond_false] at h ⊢
   refine ⟨?_, hl, trivial, fun h => by cases h⟩
   simpa [floorB] using hf
  | true =>
   simp only [cond_true] at h ⊢
   rw [Int.add_zero, satI_in hl] at h ⊢
   have hr := fun h => fit64_rng (s := upQ (x.2.2.2.2.2.2.2.2.2.2.2.2.2.2.2.2.1) p.2.2.2.1) h
   have hg := upQ_ge (t := x.2.2.2.2.2.2.2.2.2.2.2.2.2.2.2.2.1) hq'.1
   have hz := upQ_mod (x.2.2.2.2.2.2.2.2.2.2.2.2.2.2.2.2.1) p.2.2.2.1
   generalize fit64 (upQ (x.2.2.2.2.2.2.2.2.2.2.2.2.2.2.2.2.1) p.2.2.2.1) = V at h hr ⊢
   obtain ⟨n, e⟩ := V
   cases e with
   | some e => cases h
   | none =>
    obtain ⟨h1, h2⟩ := hr rfl
    simp only at h1 ⊢
    subst h1
    exact ⟨floorB_on hz, h2, trivial, fun _ => hg⟩
theorem setD_none {x : TenT} {p : PolT} (h : (setD x p).2 = none) : mayTT x = true ∧ mayPT p = true ∧ (margT x p).2 = none ∧ setD x p = (setT x p (margT x p).1, none) := by
 unfold setD at h ⊢
 by_cases h1 : mayTT x = true
 ·rw [if_pos h1] at h ⊢
  by_cases h2 : mayPT p = true
  ·rw [if_pos h2] at h ⊢
   generalize margT x p = V at h ⊢
   obtain ⟨f, e⟩ := V
   cases e with
   | some e => cases h
   | none => exact ⟨h1, h2, rfl, rfl⟩
  ·rw [if_neg h2] at h; cases h
 ·rw [if_neg h1] at h; cases h
theorem on_set {x : TenT} {last : Int} {any : Bool} (I : On x last any) {p : PolT} (hp : PFit p) (h : (setD x p).2 = none) : On (setD x p).1 last any := by
 obtain ⟨_, h2, h3, h4⟩ := setD_none h
 obtain ⟨m1, m2, m3, m4⟩ := margT_ok I.fit.tl (mayTT_ok I.may) h3
 rw [h4]
 refine ⟨may_set I.may h2 m1, ⟨I.fit.n, hp.zn, hp.zL, hp.rn, I.fit.ta, m2⟩, ⟨I.key.len, I.key.by_⟩, fun ha => ?_⟩
 obtain ⟨l1, l2⟩ := I.low ha
 have := m4 l1
 exact ⟨m3.trans l1, show last ≤ (margT x p).1.2 by omega⟩
theorem pausedD_none {x : TenT} {v : PauT × Option Int} (h : (pausedD x v).2 = none) : mayTT x = true ∧ v.2 = none ∧ pausedD x v = (withPause x v.1, none) := by
 unfold pausedD at h ⊢
 by_cases h1 : mayTT x = true
 ·rw [if_pos h1] at h ⊢
  obtain ⟨f, e⟩ := v
  cases e with
  | some e => cases h
  | none => exact ⟨h1, rfl, rfl⟩
 ·rw [if_neg h1] at h; cases h
theorem r64_time {t : Int} (h : timeB t = true) : R64 t := by have := timeB_rng h; exact ⟨by omega, by omega⟩
theorem stopD_ok {on : Bool} {a lost t : Int} (h : (stopD on a lost t).2 = none) : pauseB (stopD on a lost t).1.1 (stopD on a lost t).1.2.1 (stopD on a lost t).1.2.2 = true ∧ R64 (stopD on a lost t).1.2.1 := by
 unfold stopD at h ⊢
 by_cases h1 : (timeB t && pauseB on a lost) = false
 ·rw [if_pos h1] at h; cases h
 ·rw [if_neg h1] at h ⊢
  cases on with
  | true => cases h
  | false =>
   simp only [Bool.not_eq_false, Bool.and_eq_true, pauseB] at h1
   refine ⟨?_, r64_time h1.1⟩
   simp only [cond_false, pauseB, Bool.true_or, Bool.true_and, Bool.and_eq_true]
   exact ⟨h1.1, h1.2.2.2⟩
theorem goD_ok {on : Bool} {a lost t : Int} {j : Bool} (h : (goD on a lost t j).2 = none) : pauseB (goD on a lost t j).1.1 (goD on a lost t j).1.2.1 (goD on a lost t j).1.2.2 = true ∧ R64 (goD on a lost t j).1.2.1 := by
 unfold goD at h ⊢
 by_cases h1 : (timeB t && pauseB on a lost) = false
 ·rw [if_pos h1] at h; cases h
 ·rw [if_neg h1] at h ⊢
  simp only [Bool.not_eq_false, Bool.and_eq_true] at h1
  have hp := pauseB_rng h1.2
  by_cases h2 : on = false
  ·rw [if_pos h2] at h; cases h
  ·rw [if_neg h2] at h ⊢
   by_cases h3 : t < a
   ·rw [if_pos h3] at h; cases h
   ·rw [if_neg h3] at h ⊢
    have key : ∀ n : Int, 0 ≤ n → n ≤ 2305843009213693952 → pauseB false 0 n = true := fun n n0 n1 => by
     unfold pauseB
     rw [decide_eq_false (show ¬ n < 0 by omega), decide_eq_false (show ¬ n > 2305843009213693952 by omega)]; rfl
    by_cases h4 : j = true
    ·rw [if_pos h4]
     exact ⟨key lost hp.2.1 hp.2.2, r64_0⟩
    ·rw [if_neg h4] at h ⊢
     by_cases h5 : lost + (t - a) > 2305843009213693952
     ·rw [if_pos h5] at h; cases h
     ·rw [if_neg h5]
      exact ⟨key (lost + (t - a)) (by omega) (by omega), r64_0⟩
theorem on_pause {x : TenT} {last : Int} {any : Bool} (I : On x last any) {v : PauT × Option Int} (h : (pausedD x v).2 = none) (hv : v.2 = none → pauseB v.1.1 v.1.2.1 v.1.2.2 = true ∧ R64 v.1.2.1) : On (pausedD x v).1 last any := by
 obtain ⟨_, h2, h3⟩ := pausedD_none h
 obtain ⟨p1, p2⟩ := hv h2
 rw [h3]
 exact ⟨may_pause I.may p1, ⟨I.fit.n, I.fit.zn, I.fit.zL, I.fit.rn, p2, I.fit.tl⟩, ⟨I.key.len, I.key.by_⟩, I.low⟩
theorem on_stop {x : TenT} {last : Int} {any : Bool} (I : On x last any) {tai : Int} (h : (pausedD x (stopT x tai)).2 = none) : On (pausedD x (stopT x tai)).1 last any :=
 on_pause I h (fun hv => stopD_ok hv)
theorem on_go {x : TenT} {last : Int} {any : Bool} (I : On x last any) {tai : Int} (h : (pausedD x (goT x tai)).2 = none) : On (pausedD x (goT x tai)).1 last any :=
 on_pause I h (fun hv => goD_ok hv)
theorem raiseD_mod {s : Bool} {a n q : Int} (hf : floorB s a q = true) (hn : n % q = 0) : raiseD s a n % q = 0 := by
 unfold raiseD
 cases s with
 | false => exact hn
 | true =>
  have : a % q = 0 := mod_of_tmod (by simpa [floorB] using hf)
  show max n a % q = 0
  rw [Int.max_def]; split <;> assumption
theorem satI_mono0 {s : Int} (h : 0 ≤ s) : 0 ≤ satI s := by
 unfold satI
 rw [if_neg (by omega)]
 split <;> omega
theorem satI_ge {a s : Int} (ha : a < 9223372036854775808) (h : a ≤ s) (h0 : -9223372036854775808 ≤ a) : a ≤ satI s := by
 unfold satI
 rw [if_neg (by omega)]
 split <;> omega
theorem bound_ge {k w q off r : Int} (h0 : 0 ≤ off) (ho : off < 9223372036854775808) (hw : 0 ≤ w) (hq : 1 ≤ q) (hr : 0 ≤ r) : off ≤ boundD k w q off r := by
 unfold boundD
 have h1 : off ≤ satI (off + (w + q - 1)) := satI_ge ho (by omega) (by omega)
 have h2 : off ≤ satI (satI (off + (w + q - 1)) + 1000000000) := satI_ge ho (by omega) (by omega)
 refine satI_ge ho ?_ (by omega)
 split <;> omega
theorem on_read {x : TenT} {last : Int} {any : Bool} (I : On x last any) {b l : Int} {L : List Int} {tai off : Int} (ho : R64 off) (hk : x.2.2.1 ≠ 0) (h : (readD x b l L tai off).2.2 = none) :
  (any = true → last ≤ (readD x b l L tai off).1.1) ∧ Int.tmod (readD x b l L tai off).1.1 x.2.2.2.2.2.1 = 0 ∧ (readD x b l L tai off).1.2.2.2 ≤ (readD x b l L tai off).1.2.1 ∧ 0 ≤ (readD x b l L tai off).1.2.2.1 ∧ R64 (readD x b l L tai off).1.1 ∧ On (readD x b l L tai off).2.1 (readD x b l L tai off).1.1 true := by
 obtain ⟨_, h0, hon, hT, hC, hD⟩ := readD_none h
 have hM := mayTT_ok I.may
 obtain ⟨c1, c2, c3⟩ := coarseD_val hM hC
 have cr := coarseD_rng hC
 have hq := qmayB_rng hM.q
 have hu := umayB_rng hM.u
 rw [hD]
 generalize (coarseD x (trueD x b l L tai).1).1 = n at c3 cr
 unfold toldD
 rw [if_neg hk]
 have hmod := raiseD_mod hM.f c3
 have hrr := raiseD_rng (set := x.2.2.2.2.2.2.2.2.2.2.2.2.2.2.2.1) I.fit.tl cr
 have hge := raiseD_ge (x.2.2.2.2.2.2.2.2.2.2.2.2.2.2.2.1) (x.2.2.2.2.2.2.2.2.2.2.2.2.2.2.2.2.1) n
 have hs0 : 0 ≤ satI (raiseD (x.2.2.2.2.2.2.2.2.2.2.2.2.2.2.2.1) (x.2.2.2.2.2.2.2.2.2.2.2.2.2.2.2.2.1) n - n) := satI_mono0 (by omega)
 refine ⟨fun ha => ?_, tmod_zero hmod, bound_ge h0 ho.2 hu.1.1 hq.1 hs0, hs0, hrr, ⟨may_floor I.may (floorB_on hmod), ⟨I.fit.n, I.fit.zn, I.fit.zL, I.fit.rn, I.fit.ta, hrr⟩, ⟨I.key.len, I.key.by_⟩, fun _ => ⟨rfl, Int.le_refl _⟩⟩⟩
 obtain ⟨l1, l2⟩ := I.low ha
 show last ≤ raiseD _ _ _
 unfold raiseD
 rw [l1, cond_true]
 have := Int.le_max_right n (x.2.2.2.2.2.2.2.2.2.2.2.2.2.2.2.2.1)
 omega
theorem on_read0 {x : TenT} {b l : Int} {L : List Int} {tai off : Int} (hk : x.2.2.1 = 0) (h : (readD x b l L tai off).2.2 = none) : (readD x b l L tai off).2.1 = x := by
 obtain ⟨_, _, _, _, _, hD⟩ := readD_none h
 rw [hD]
 unfold toldD
 rw [if_pos hk]
end Go.Proofs.YthpljlpokmoeeaaGreatDoor.Mir
namespace Go.Proofs.YthpljlpokmoeeaaGreatDoor.Mir
open Go Go.RowKit
set_option maxRecDepth 100000
theorem sureO {q : Option Bool} (h : q = some true) : (q.bind fun r => some r) = some true := by rw [h]; rfl
abbrev AskT := Int × Int × Int × Int × Int × Int × Int × Int × Bool × ByteArray × Int × List Rul × Int
abbrev ask0 : AskT := (0, 0, 0, 0, 0, 0, 0, 0, false, ByteArray.empty, 0, [], 0)
structure AskOk (N : Nat) (a : AskT) : Prop where
 tai : R64 a.1
 off : R64 a.2.1
 zL : (a.2.2.2.2.2.2.2.2.2.2.2.1).length ≤ 4398046511104
 zN : (a.2.2.2.2.2.2.2.2.2.2.2.1).length < N
theorem chk_on {N : Nat} (hN : 3000 ≤ N) {x : TenT} {last : Int} {any : Bool} (I : On x last any) : f_22 N x.1 x.2.1 x.2.2.1 x.2.2.2.1 x.2.2.2.2.1 x.2.2.2.2.2.1 x.2.2.2.2.2.2.1 x.2.2.2.2.2.2.2.1 x.2.2.2.2.2.2.2.2.1 x.2.2.2.2.2.2.2.2.2.1 x.2.2.2.2.2.2.2.2.2.2.1 x.2.2.2.2.2.2.2.2.2.2.2.1 x.2.2.2.2.2.2.2.2.2.2.2.2.1 x.2.2.2.2.2.2.2.2.2.2.2.2.2.1 x.2.2.2.2.2.2.2.2.2.2.2.2.2.2.1 x.2.2.2.2.2.2.2.2.2.2.2.2.2.2.2.1 x.2.2.2.2.2.2.2.2.2.2.2.2.2.2.2.2.1 x.2.2.2.2.2.2.2.2.2.2.2.2.2.2.2.2.2 = some none :=
 (tchkT_at hN I.fit).trans (by rw [I.may]; rfl)
theorem onw_loop {N : Nat} (hN : 3000 ≤ N) {b l : Int} {L : List Int} (hL : L.length ≤ 40) {A : List AskT} (hA : ∀ a ∈ A, AskOk N a) (hAl : A.length ≤ 30) : ∀ (k M i : Nat) (last : Int) (any : Bool) (x : TenT), i + k = A.length → k < M → On x last any →
  iter (b_6_0 N) M (A, (), (), last, any, (i : Int), x, (b, l, L)) = some (.inr ()) := by
 intro k
 induction k with
 | zero =>
  intro M i last any x hi hM I
  obtain ⟨M, rfl⟩ : ∃ m, M = m + 1 := ⟨M - 1, by omega⟩
  obtain ⟨x1, x2, x3, x4, x5, x6, x7, x8, x9, x10, x11, x12, x13, x14, x15, x16, x17, x18⟩ := x
  show b_6_0 N (iter (b_6_0 N) M) _ = _
  generalize iter (b_6_0 N) M = ih
  unfold b_6_0
  simp only
  rw [decide_eq_false (show ¬ (i : Int) < (A.length : Int) by omega)]
  rfl
 | succ k IH =>
  intro M i last any x hi hM I
  obtain ⟨M, rfl⟩ : ∃ m, M = m + 1 := ⟨M - 1, by omega⟩
  have ih := fun last any x I => IH M (i + 1) last any x (by omega) (by omega) I
  show b_6_0 N (iter (b_6_0 N) M) _ = _
  generalize iter (b_6_0 N) M = F at ih ⊢
  have ha : AskOk N (A.getD (Int.toNat (i : Int)) ask0) := by
   rw [Int.toNat_natCast, List.getD_eq_getElem?_getD, List.getElem?_eq_getElem (show i < A.length by omega)]
   exact hA _ (List.getElem_mem _)
  have hw : IntKind.i64.wrap ((i : Int) + 1) = ((i + 1 : Nat) : Int) := by rw [wi64 (by omega) (by omega)]; omega
  obtain ⟨x1, x2, x3, x4, x5, x6, x7, x8, x9, x10, x11, x12, x13, x14, x15, x16, x17, x18⟩ := x
  unfold b_6_0
  simp only
  rw [decide_eq_true (show (i : Int) < (A.length : Int) by omega), decide_eq_true (show 0 ≤ (i : Int) ∧ (i : Int) < (A.length : Int) by omega), hw]
  simp only [cond_true]
  generalize A.getD (Int.toNat (i : Int)) ask0 = a at ha ⊢
  obtain ⟨a1, a2, p1, p2, p3, p4, p5, p6, p7, p8, p9, p10, kd⟩ := a
  obtain ⟨h1, h2, h3, h4⟩ := ha
  simp only at h1 h2 h3 h4
  obtain ⟨z, hz, hZ⟩ := big_at29 (N := N) p8 p9 p10 (by omega)
  refine (bindP _ _ _ hz).trans ?_
  cases z with
  | true => exact ih _ _ _ I
  | false =>
  simp only [cond_false]
  obtain ⟨z1, z2, z3⟩ := hZ rfl
  have hc := chk_on hN I
  have back : (Option.bind (f_22 N x1 x2 x3 x4 x5 x6 x7 x8 x9 x10 x11 x12 x13 x14 x15 x16 x17 x18) fun r => bif !(Option.isNone r) then some (.inl false) else F (A, (), (), last, any, ((i + 1 : Nat) : Int), (x1, x2, x3, x4, x5, x6, x7, x8, x9, x10, x11, x12, x13, x14, x15, x16, x17, x18), (b, l, L))) = some (.inr ()) :=
   (bindP _ _ _ hc).trans (ih _ _ _ I)
  have on : ∀ {y : TenT} {la : Int} {an : Bool}, On y la an → (Option.bind (f_22 N y.1 y.2.1 y.2.2.1 y.2.2.2.1 y.2.2.2.2.1 y.2.2.2.2.2.1 y.2.2.2.2.2.2.1 y.2.2.2.2.2.2.2.1 y.2.2.2.2.2.2.2.2.1 y.2.2.2.2.2.2.2.2.2.1 y.2.2.2.2.2.2.2.2.2.2.1 y.2.2.2.2.2.2.2.2.2.2.2.1 y.2.2.2.2.2.2.2.2.2.2.2.2.1 y.2.2.2.2.2.2.2.2.2.2.2.2.2.1 y.2.2.2.2.2.2.2.2.2.2.2.2.2.2.1 y.2.2.2.2.2.2.2.2.2.2.2.2.2.2.2.1 y.2.2.2.2.2.2.2.2.2.2.2.2.2.2.2.2.1 y.2.2.2.2.2.2.2.2.2.2.2.2.2.2.2.2.2) fun r => bif !(Option.isNone r) then some (.inl false) else F (A, (), (), la, an, ((i + 1 : Nat) : Int), y, (b, l, L))) = some (.inr ()) :=
   fun I' => (bindP _ _ _ (chk_on hN I')).trans (ih _ _ _ I')
  by_cases k1 : Int.tmod kd 6 = 1
  ·rw [show (Int.tmod kd 6 == 1) = true by simpa using k1]
   simp only [cond_true]
   have hp : PFit (p1, p2, p3, p4, p5, p6, p7, p8, p9, p10) := ⟨by simp only; omega, by simp only; omega, fun j hj => by have := z3 j hj; simp only at *; omega⟩
   refine (bindP _ _ _ (pgive_at29 _ _ _ _ _ _ _ _ _ h3 h4)).trans ?_
   refine (bindP _ _ _ (tset_at hN I.fit hp)).trans ?_
   have hq := fun h => on_set I hp h
   generalize setD _ _ = Q at hq ⊢
   obtain ⟨q, e⟩ := Q
   cases e with
   | some e => exact back
   | none => exact on (hq rfl)
  rw [show (Int.tmod kd 6 == 1) = false by simpa using k1]
  simp only [cond_false]
  by_cases k2 : Int.tmod kd 6 = 2
  ·rw [show (Int.tmod kd 6 == 2) = true by simpa using k2]
   simp only [cond_true]
   refine (bindP _ _ _ (tstop_at hN I.fit h1)).trans ?_
   have hq := fun h => on_stop I (tai := a1) h
   generalize pausedD _ _ = Q at hq ⊢
   obtain ⟨q, e⟩ := Q
   cases e with
   | some e => exact back
   | none => exact on (hq rfl)
  rw [show (Int.tmod kd 6 == 2) = false by simpa using k2]
  simp only [cond_false]
  by_cases k3 : Int.tmod kd 6 = 3
  ·rw [show (Int.tmod kd 6 == 3) = true by simpa using k3]
   simp only [cond_true]
   refine (bindP _ _ _ (tgo_at hN I.fit h1)).trans ?_
   have hq := fun h => on_go I (tai := a1) h
   generalize pausedD _ _ = Q at hq ⊢
   obtain ⟨q, e⟩ := Q
   cases e with
   | some e => exact back
   | none => exact on (hq rfl)
  rw [show (Int.tmod kd 6 == 3) = false by simpa using k3]
  simp only [cond_false]
  refine (bindP _ _ _ (tread_at hN I.fit I.key hL h1 h2)).trans ?_
  have hq := fun hk h => on_read I (b := b) (l := l) (L := L) (tai := a1) (off := a2) h2 hk h
  have hq0 := fun hk h => on_read0 (x := (x1, x2, x3, x4, x5, x6, x7, x8, x9, x10, x11, x12, x13, x14, x15, x16, x17, x18)) (b := b) (l := l) (L := L) (tai := a1) (off := a2) hk h
  have hqm := qmayB_rng (mayTT_ok I.may).q
  generalize readD _ b l L a1 a2 = R at hq hq0 ⊢
  obtain ⟨⟨r1, r2, r3, r4⟩, u, e⟩ := R
  cases e with
  | some e => exact back
  | none =>
   simp only at hq hq0 hqm
   simp only [Option.isNone_none, cond_true]
   by_cases k0 : x3 = 0
   ·rw [show (x3 != 0) = false by simpa using k0]
    simp only [cond_false]
    have hu := hq0 k0 trivial
    subst hu
    exact back
   ·rw [show (x3 != 0) = true by simpa using k0]
    obtain ⟨q1, q2, q3, q4, _, q5⟩ := hq k0 trivial
    simp only [cond_true]
    rw [decide_eq_false (show ¬ x6 = 0 by omega), show (Int.tmod r1 x6 != 0) = false by simpa using q2, decide_eq_false (show ¬ r2 < r4 by omega), decide_eq_false (show ¬ r3 < 0 by omega)]
    simp only [cond_false]
    cases any with
    | true =>
     have := q1 rfl
     rw [decide_eq_false (show ¬ r1 < last by omega)]
     exact on q5
    | false => exact on q5
theorem tonward_holds (F : Nat) {t : TenT} (hk : TKey t) (ha : R64 (t.2.2.2.2.2.2.2.2.2.2.2.2.2.1)) (hl : R64 (t.2.2.2.2.2.2.2.2.2.2.2.2.2.2.2.2.1)) (b l : Int) (L : List Int) {A : List AskT} (hA : ∀ a ∈ A, AskOk F a)
  (hzL : (t.2.2.2.2.2.2.2.2.2.2.2.1).length ≤ 4398046511104) (hF : (t.2.2.2.2.2.2.2.2.2.2.2.1).length < F) (h3 : 3000 ≤ F) (hs : f_23 F = some true) :
  f_6 F t.1 t.2.1 t.2.2.1 t.2.2.2.1 t.2.2.2.2.1 t.2.2.2.2.2.1 t.2.2.2.2.2.2.1 t.2.2.2.2.2.2.2.1 t.2.2.2.2.2.2.2.2.1 t.2.2.2.2.2.2.2.2.2.1 t.2.2.2.2.2.2.2.2.2.2.1 t.2.2.2.2.2.2.2.2.2.2.2.1 t.2.2.2.2.2.2.2.2.2.2.2.2.1 t.2.2.2.2.2.2.2.2.2.2.2.2.2.1 t.2.2.2.2.2.2.2.2.2.2.2.2.2.2.1 t.2.2.2.2.2.2.2.2.2.2.2.2.2.2.2.1 t.2.2.2.2.2.2.2.2.2.2.2.2.2.2.2.2.1 t.2.2.2.2.2.2.2.2.2.2.2.2.2.2.2.2.2 b l L A = some true := by
 unfold f_6
 refine (bindP _ _ _ (tgive_at29 t hzL hF)).trans ?_
 obtain ⟨g, hg, hB⟩ := tbig_at29 (N := F) t (by omega)
 refine (bindP _ _ _ hg).trans ?_
 cases g with
 | true => exact sureO hs
 | false =>
 simp only [cond_false]
 have h := (hB rfl).fit ha hl
 by_cases c1 : ((L.length : Int) > 40)
 ·rw [decide_eq_true c1]; exact sureO hs
 rw [decide_eq_false c1]
 simp only [cond_false]
 by_cases c2 : ((A.length : Int) > 30)
 ·rw [decide_eq_true c2]; exact sureO hs
 rw [decide_eq_false c2]
 simp only [cond_false]
 refine (bindP _ _ _ (tchkT_at h3 h)).trans ?_
 cases hm : mayTT t with
 | false => exact sureO hs
 | true =>
  simp only [cond_true, Option.isNone_none, Bool.not_true, cond_false]
  have I : On t (t.2.2.2.2.2.2.2.2.2.2.2.2.2.2.2.2.1) (t.2.2.2.2.2.2.2.2.2.2.2.2.2.2.2.1) := ⟨hm, h, hk, fun h => ⟨h, Int.le_refl _⟩⟩
  refine (bindP _ _ _ (onw_loop h3 (b := b) (l := l) (L := L) (by omega) hA (by omega) A.length F 0 _ _ t (by omega) (by omega) I)).trans ?_
  exact sureO hs
end Go.Proofs.YthpljlpokmoeeaaGreatDoor.Mir
namespace Go.Proofs.YthpljlpokmoeeaaGreatDoor.Mir
open Go Go.RowKit
set_option maxRecDepth 100000
end Go.Proofs.YthpljlpokmoeeaaGreatDoor.Mir
namespace Go.Proofs.YthpljlpokmoeeaaGreatDoor
open Go Go.RowKit Mir
theorem laid_Q {w : World} (hL : LaidW w) : ∀ q ∈ Mir.laidL, w.cell? ⟨q.1, q.2.1, none⟩ = some q.2.2 := fun q hq => by
 obtain rfl := List.mem_singleton.1 hq
 exact hL
theorem by_int {n : Int} (hw : (Lit.int .u8 n).wf = true) : 0 ≤ n ∧ n < 256 := by
 have := wf_range hw
 have c0 : IntKind.u8.min = 0 := by decide
 have c1 : IntKind.u8.max = 255 := by decide
 omega
theorem len_ok' {n : Nat} (h : n * bySL [.int .i64, .int .i64, .str] ≤ reachBytes) : n ≤ 4398046511104 := by
 have h : n * 32 ≤ reachBytes := h
 have : reachBytes = 140737488351232 := by decide
 omega
theorem i64_ok {n : Int} (hw : (Lit.int .i64 n).wf = true) : -9223372036854775808 ≤ n ∧ n < 9223372036854775808 := by
 have := wf_range hw
 have c0 : IntKind.i64.min = -9223372036854775808 := by decide
 have c1 : IntKind.i64.max = 9223372036854775807 := by decide
 omega
theorem repL_arr {g : Gh} : ∀ {cs : List C} {vs : List Value}, RepL g cs vs → ∀ k n xs, C.arr k n xs ∈ cs → xs.length = n
 | [], _, _, _, _, _, h => by cases h
 | c :: cs, vs, hr, k, n, xs, h => by
  rcases List.mem_cons.1 h with rfl | hm
  ·simp only [RepL] at hr
   obtain ⟨r, h1, _⟩ := hr
   exact h1
  ·clear h
   cases c <;> (simp only [RepL] at hr; first | (obtain ⟨_, r, _, _, h3⟩ := hr; exact repL_arr h3 k n xs hm) | (obtain ⟨r, _, _, h3⟩ := hr; exact repL_arr h3 k n xs hm))
theorem repA_arr {g : Gh} {cs : List C} {v : Value} (h : RepA g (.agg cs) v) {k : IntKind} {n : Nat} {xs : List Int} (hm : C.arr k n xs ∈ cs) : xs.length = n := by
 simp only [RepA] at h
 obtain ⟨vs, _, h⟩ := h
 exact repL_arr h k n xs hm
end Go.Proofs.YthpljlpokmoeeaaGreatDoor
namespace Go.Proofs.YthpljlpokmoeeaaGreatDoor
open Go Go.RowKit Mir
abbrev tenSh : List Sh := [.str, .arr .u8 16, .int .i64, .int .i64, .int .i64, .int .i64, .int .i64, .int .i64, .bool, .str, .int .i64, .sl [.int .i64, .int .i64, .str], .bool, .int .i64, .int .i64, .bool, .int .i64, .int .i64]
abbrev tabSh : List Sh := [.int .i64, .int .i64, .sl [.int .i64]]
structure TArg (t : TenT) : Prop where
 key : TKey t
 ta : R64 (t.2.2.2.2.2.2.2.2.2.2.2.2.2.1)
 tl : R64 (t.2.2.2.2.2.2.2.2.2.2.2.2.2.2.2.2.1)
 zL : (t.2.2.2.2.2.2.2.2.2.2.2.1).length ≤ 4398046511104
theorem targ_ok {w : World} {y : TL tenSh} (k : OkL _ y) {v : Value} (e : RepA (gW w) (.agg (encL _ y)) v) : TArg y := by
 obtain ⟨t1, key, t3, t4, t5, t6, t7, t8, t9, t10, t11, L, t13, t14, t15, t16, t17, t18⟩ := y
 have hk := repA_arr e (k := .u8) (n := 16) (xs := key) (by simp [encL, encS])
 simp only [OkL, OkS] at k
 obtain ⟨_, hkey, _, _, _, _, _, _, _, _, _, hL, _, h14, _, _, h17, _⟩ := k
 exact ⟨⟨hk, fun x hx => by_int (hkey x hx)⟩, i64_ok h14, i64_ok h17, len_ok' hL.2.1⟩
end Go.Proofs.YthpljlpokmoeeaaGreatDoor
namespace Go.Proofs.YthpljlpokmoeeaaGreatDoor
open Go Go.RowKit Mir
abbrev askSh : List Sh := [.int .i64, .int .i64, .int .i64, .int .i64, .int .i64, .int .i64, .int .i64, .int .i64, .bool, .str, .int .i64, .sl [.int .i64, .int .i64, .str], .int .i64]
theorem len_all {α : Type} (f : α → Nat) : ∀ A : List α, ∃ m, ∀ a ∈ A, f a ≤ m
 | [] => ⟨0, fun _ h => by cases h⟩
 | a :: A => by
  obtain ⟨m, hm⟩ := len_all f A
  refine ⟨m + f a, fun b hb => ?_⟩
  rcases List.mem_cons.1 hb with rfl | hb
  ·omega
  ·have := hm b hb; omega
set_option maxRecDepth 100000 in
theorem law_TenantOnward_row (w : World) (hL : LaidW w) {v0 v1 v2 : Value} {y0 : TL tenSh} (k0 : OkL _ y0) (e0 : RepA (gW w) (.agg (encL _ y0)) v0) {y1 : TL tabSh} (_ : OkL _ y1) (e1 : RepA (gW w) (.agg (encL _ y1)) v1)
  {y2 : (Sh.sl askSh).T} (k2 : OkS (.sl askSh) y2) (e2 : RepA (gW w) (.one (encS (.sl askSh) y2)) v2) :
  Calls Tryz.prog 6 #[v0, v1, v2] w fun e w' => e = .returned (.bool true) ∧ Below w.heap.size w w' := by
 have a0 := targ_ok k0 e0
 obtain ⟨b, l, L⟩ := y1
 obtain ⟨M, hM⟩ := len_all (fun a : AskT => (a.2.2.2.2.2.2.2.2.2.2.2.1).length) y2
 have kA : ∀ a ∈ (y2 : List AskT), AskOk (M + (List.length (α := Rul) (y0.2.2.2.2.2.2.2.2.2.2.2.1) + 3000)) a := by
  intro a ha
  have hm := hM a ha
  have q := k2
  simp only [OkS] at q
  have q := q.2.2 a ha
  obtain ⟨a1, a2, p1, p2, p3, p4, p5, p6, p7, p8, p9, p10, kd⟩ := a
  simp only [OkL, OkS] at q
  obtain ⟨h1, h2, _, _, _, _, _, _, _, _, _, h12, _⟩ := q
  exact ⟨i64_ok h1, i64_ok h2, len_ok' h12.2.1, by simp only at hm ⊢; omega⟩
 have hh := tonward_holds (M + (List.length (α := Rul) (y0.2.2.2.2.2.2.2.2.2.2.2.1) + 3000)) a0.key a0.ta a0.tl b l L kA a0.zL (show List.length (α := Rul) (y0.2.2.2.2.2.2.2.2.2.2.2.1) < _ by omega) (by omega) (tlsure_at' (by omega))
 generalize M + (List.length (α := Rul) (y0.2.2.2.2.2.2.2.2.2.2.2.1) + 3000) = m at hh
 have hr : (S_6 m).run [.agg (encL tenSh y0), .agg (encL tabSh (b, l, L)), .one (encS (.sl askSh) y2)] [] = f_6 m y0.1 y0.2.1 y0.2.2.1 y0.2.2.2.1 y0.2.2.2.2.1 y0.2.2.2.2.2.1 y0.2.2.2.2.2.2.1 y0.2.2.2.2.2.2.2.1 y0.2.2.2.2.2.2.2.2.1 y0.2.2.2.2.2.2.2.2.2.1 y0.2.2.2.2.2.2.2.2.2.2.1 y0.2.2.2.2.2.2.2.2.2.2.2.1 y0.2.2.2.2.2.2.2.2.2.2.2.2.1 y0.2.2.2.2.2.2.2.2.2.2.2.2.2.1 y0.2.2.2.2.2.2.2.2.2.2.2.2.2.2.1 y0.2.2.2.2.2.2.2.2.2.2.2.2.2.2.2.1 y0.2.2.2.2.2.2.2.2.2.2.2.2.2.2.2.2.1 y0.2.2.2.2.2.2.2.2.2.2.2.2.2.2.2.2.2 b l L y2 := by kernel_rfl
 have ho : ((S_6 m).out [.agg (encL tenSh y0), .agg (encL tabSh (b, l, L)), .one (encS (.sl askSh) y2)] [] true).1 = .a (.one (Mir.boolC true)) := by kernel_rfl
 exact calls_open (vs := [v0, v1, v2]) (s_6 m) (by kernel_rfl) Tryz.func6 (by kernel_rfl) (by kernel_rfl) (hr.trans hh)
  ⟨v0, _, rfl, e0, v1, _, rfl, e1, v2, _, rfl, e2, rfl⟩ (laid_Q hL) (fun g x h => by rw [ho] at h; exact h)
end Go.Proofs.YthpljlpokmoeeaaGreatDoor
namespace Go.Proofs.YthpljlpokmoeeaaGreatDoor
open Go.ChangeShapes Go.WideShapes Go.ChangeAt Go.RowKit
open Go.ChangeMaps (open_string shut_string)
set_option maxRecDepth 100000 in
theorem tenantOnward_lifted (os : Os) (started : os.Started) (H : Type) (enc : TypeId × Value → H) :
  ReturnsInHanded {} Tryz.checked os 6 .any (fun w args => (Rows.tenantOnwardSpec.pre enc Tryz.prog Tryz.f6 [] false w args ∧ laidMetH Tryz.prog laidU w) ∧ sizedMet enc Tryz.prog Tryz.f6 (OpenSpec.ofChange Rows.tenantOnwardSpec) false w args)
   (Rows.tenantOnwardSpec.post enc Tryz.prog Tryz.f6 false true false false) := by
 refine returnsInHanded_of_change_and (C := Tryz.checked) (X := fun w _ => laidMetH Tryz.prog laidU w) (fun _ _ _ hh h => h.of_heap hh) Tryz.own started (by kernel_rfl) Tryz.func6
  (ChangeSpec.witness_at (enc := enc) (C := Tryz.checked) (os := os) (X := fun w _ => laidMetH Tryz.prog laidU w) false (laidWorldU os) #[.agg #[.string ByteArray.empty, .int .u8 0, .int .u8 0, .int .u8 0, .int .u8 0, .int .u8 0, .int .u8 0, .int .u8 0, .int .u8 0, .int .u8 0, .int .u8 0, .int .u8 0, .int .u8 0, .int .u8 0, .int .u8 0, .int .u8 0, .int .u8 0, .int .i64 0, .int .i64 0, .int .i64 0, .int .i64 0, .int .i64 0, .int .i64 0, .bool false, .string ByteArray.empty, .int .i64 0, .slice none 0 0, .bool false, .int .i64 0, .int .i64 0, .bool false, .int .i64 0, .int .i64 0], .agg #[.int .i64 0, .int .i64 0, .slice none 0 0], .slice none 0 0] 8 rfl (by kernel_rfl) (by kernel_rfl) (by kernel_rfl) (by kernel_rfl) (by kernel_rfl) (laidWorldU_met os _)) ?_
 intro W base args ds gs before hval0 hW _ hsz0 hL _
 have hval : ∀ (j : Nat) t v, Tryz.f6.params[j]? = some t → args[j]? = some v → Value.okWide Tryz.prog W .any base t v := hval0
 have hW' := hW
 have hsz : (DataW.weightsEach Tryz.prog (Tryz.f6.params.toList ++ (Rows.tenantOnwardSpec).plain.varTypes Tryz.prog) (ds ++ gs)).all (· ≤ reachBytes) = true := hsz0
 obtain ⟨p, q, hA0, hV, rfl, hfz, hnd⟩ := hW
 have hA : DataW.TrodAll enc Tryz.prog W 0 (fun _ => true) true Tryz.f6.params.toList args.toList ds p := hA0
 have hA1 := hA
 rw [Tryz.params6] at hA hval hsz
 obtain ⟨v0, vs0, d0, ds0, p0, q0, hargs, rfl, rfl, h0, r0⟩ := trodAll_cons hA
 obtain ⟨v1, vs1, d1, ds1, p1, q1, rfl, rfl, rfl, h1, r1⟩ := trodAll_cons r0
 obtain ⟨v2, vs2, d2, ds2, p2, q2, rfl, rfl, rfl, h2, r2⟩ := trodAll_cons r1
 obtain ⟨rfl, rfl, rfl⟩ := trodAll_nil r2
 obtain rfl : args = #[v0, v1, v2] := by cases args; simp_all
 obtain ⟨rfl, rfl⟩ := trodVars_none hV
 have hstay := fun (W' : World) (bel : Below W.heap.size W W') => trodAll_stays Tryz.laidOut bel (by rw [Tryz.params6]; simp only [List.mem_cons, List.not_mem_nil, or_false]; rintro t (rfl | rfl | rfl) <;> exact ⟨by kernel_rfl, of_decide_eq_true (by kernel_rfl)⟩) hA1
 obtain ⟨y0, k0, e0⟩ := Mir.open_agg (l := [.str, .arr .u8 16, .int .i64, .int .i64, .int .i64, .int .i64, .int .i64, .int .i64, .bool, .str, .int .i64, .sl [.int .i64, .int .i64, .str], .bool, .int .i64, .int .i64, .bool, .int .i64, .int .i64]) (by kernel_rfl) (by kernel_rfl) (hval 0 77 v0 rfl rfl) h0 (Mir.wok_each hsz 0 _ _ rfl rfl)
 obtain ⟨y1, k1, e1⟩ := Mir.open_agg (l := [.int .i64, .int .i64, .sl [.int .i64]]) (by kernel_rfl) (by kernel_rfl) (hval 1 80 v1 rfl rfl) h1 (Mir.wok_each hsz 1 _ _ rfl rfl)
 obtain ⟨y2, k2, e2⟩ := Mir.open_cell (s := .sl [.int .i64, .int .i64, .int .i64, .int .i64, .int .i64, .int .i64, .int .i64, .int .i64, .bool, .str, .int .i64, .sl [.int .i64, .int .i64, .str], .int .i64]) (by kernel_rfl) (by kernel_rfl) (fun _ _ h => by cases h) (hval 2 116 v2 rfl rfl) h2 (Mir.wok_each hsz 2 _ _ rfl rfl)
 refine (law_TenantOnward_row W (laid_of (laidU_of hL)) k0 e0 k1 e1 k2 e2).mono fun e W' ⟨he, bel⟩ => ?_
 subst he
 exact ⟨_, rfl, _, _, _, [], _, [], hW', trodAll_mk1 (shut_bool Tryz.underlying4 _), hstay W' bel, rfl, bel.frame _, fun h => by cases h⟩
theorem tenantOnward_over : Rows.TenantOnwardSaid :=
 OpenClaim.holds_of_wide 6 Tryz.f6 rfl rfl rfl rfl rfl rfl rfl ⟨rfl, rfl, rfl, rfl, rfl⟩ rfl rfl rfl rfl rfl (by kernel_rfl) Tryz.func6 (by kernel_rfl)
  (of_decide_eq_true (by kernel_rfl)) (by unfold Func.isWrapper; first | (rw [if_pos (by decide +kernel)]; kernel_rfl) | (rw [if_neg (by decide +kernel)]; exact ⟨rfl, rfl⟩))
  (fun os started H enc _ => tenantOnward_lifted os started H enc)
theorem tenantOnward_holds : Rows.TenantOnwardCardSaid :=
 Claim7.holds_tied_plain_at .later [] [.data, .handle, .pinned] true Rows.tenantOnwardCard.stood.harness true
  tenantOnward_over (fun _ h => by cases h) (by kernel_rfl) (fun _ h => by cases h) tenantOnward_row_tie rfl ⟨rfl, rfl⟩ (by kernel_rfl) rfl
  (fun f fn hf hfn => by
   obtain rfl : f = 6 := Option.some.inj ((show Tryz.prog.funcNamed Rows.tenantOnwardRow.func = some 6 by kernel_rfl).symm.trans hf) |>.symm
   obtain rfl : fn = Tryz.f6 := (Option.some.inj (Tryz.func6.symm.trans hfn)).symm
   exact ⟨by kernel_rfl, fun j t ht => by
    rw [Tryz.params6] at ht
    rcases j with _ | j
    ·obtain rfl := Option.some.inj ht; kernel_rfl
    rcases j with _ | j
    ·obtain rfl := Option.some.inj ht; kernel_rfl
    rcases j with _ | j
    ·obtain rfl := Option.some.inj ht; kernel_rfl
    ·simp at ht⟩)
  (by kernel_rfl)
#print axioms tenantOnward_holds
end Go.Proofs.YthpljlpokmoeeaaGreatDoor
