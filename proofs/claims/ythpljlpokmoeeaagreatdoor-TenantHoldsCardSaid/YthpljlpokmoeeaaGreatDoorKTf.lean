/- The statement TenantHolds of the given program: for every input the law answers true, and its arguments read as before. Its one listed variable (errors.errorType) is tied to the program's text by the given tie. -/
import Derived.Test.YthpljlpokmoeeaaGreatDoorKTe
import Derived.Test.YthpljlpokmoeeaaGreatDoorKxb49c9d
import Derived.Test.YthpljlpokmoeeaaGreatDoorKx660f78
import Derived.Test.YthpljlpokmoeeaaGreatDoorTie
import Derived.Test.YthpljlpokmoeeaaGreatDoorCards
import Derived.SevenTiedAt
namespace Go.Proofs.YthpljlpokmoeeaaGreatDoor.Mir
open Go Go.RowKit
set_option maxRecDepth 100000
theorem bif_t {A : Type} {c : Bool} {x y : A} (h : c = true) : (bif c then x else y) = x := by rw [h]; rfl
theorem bif_f {A : Type} {c : Bool} {x y : A} (h : c = false) : (bif c then x else y) = y := by rw [h]; rfl
theorem tchkT_at {N : Nat} (hN : 3000 ≤ N) {t : TenT} (h : TFit t) : f_22 N t.1 t.2.1 t.2.2.1 t.2.2.2.1 t.2.2.2.2.1 t.2.2.2.2.2.1 t.2.2.2.2.2.2.1 t.2.2.2.2.2.2.2.1 t.2.2.2.2.2.2.2.2.1 t.2.2.2.2.2.2.2.2.2.1 t.2.2.2.2.2.2.2.2.2.2.1 t.2.2.2.2.2.2.2.2.2.2.2.1 t.2.2.2.2.2.2.2.2.2.2.2.2.1 t.2.2.2.2.2.2.2.2.2.2.2.2.2.1 t.2.2.2.2.2.2.2.2.2.2.2.2.2.2.1 t.2.2.2.2.2.2.2.2.2.2.2.2.2.2.2.1 t.2.2.2.2.2.2.2.2.2.2.2.2.2.2.2.2.1 t.2.2.2.2.2.2.2.2.2.2.2.2.2.2.2.2.2 = some (bif mayTT t then none else some 1) := tchk_at hN _ _ _ _ _ _ _ _ _ _ _ _ _ _ _ _ h.zL h.ta
theorem tcop_at (N : Nat) (t : TenT) (h : (t.2.2.2.2.2.2.2.2.2.2.2.1).length ≤ 1000) : f_75 N t.1 t.2.1 t.2.2.1 t.2.2.2.1 t.2.2.2.2.1 t.2.2.2.2.2.1 t.2.2.2.2.2.2.1 t.2.2.2.2.2.2.2.1 t.2.2.2.2.2.2.2.2.1 t.2.2.2.2.2.2.2.2.2.1 t.2.2.2.2.2.2.2.2.2.2.1 t.2.2.2.2.2.2.2.2.2.2.2.1 t.2.2.2.2.2.2.2.2.2.2.2.2.1 t.2.2.2.2.2.2.2.2.2.2.2.2.2.1 t.2.2.2.2.2.2.2.2.2.2.2.2.2.2.1 t.2.2.2.2.2.2.2.2.2.2.2.2.2.2.2.1 t.2.2.2.2.2.2.2.2.2.2.2.2.2.2.2.2.1 t.2.2.2.2.2.2.2.2.2.2.2.2.2.2.2.2.2 = some t := by
 unfold f_75
 rw [decide_eq_true (show 0 ≤ (0 : Int) ∧ (0 : Int) ≤ ((t.2.2.2.2.2.2.2.2.2.2.2.1).length : Int) by omega), decide_eq_true (show (0 : Int) = (0 : Int) from rfl), decide_eq_true (show 0 ≤ (0 : Int) ∧ (0 : Int) ≤ (0 : Int) by omega), decide_eq_true (show ((List.drop (Int.toNat (0 : Int)) (List.take (Int.toNat (0 : Int)) (t.2.2.2.2.2.2.2.2.2.2.2.1))).length + (t.2.2.2.2.2.2.2.2.2.2.2.1).length) * 32 ≤ 140737488355328 by simp; omega)]
 simp only [cond_true]
 rw [show List.drop (Int.toNat (0 : Int)) (List.take (Int.toNat (0 : Int)) (t.2.2.2.2.2.2.2.2.2.2.2.1)) ++ (t.2.2.2.2.2.2.2.2.2.2.2.1) = (t.2.2.2.2.2.2.2.2.2.2.2.1) by simp]
structure TMay (t : TenT) : Prop where
 q : qmayB (t.2.2.2.2.2.1) = true
 u : umayB (t.2.2.2.2.2.2.1) (t.2.2.2.2.2.2.2.1) = true
 z : mayZ (t.2.2.2.2.2.2.2.2.2.1) (t.2.2.2.2.2.2.2.2.2.2.1) (t.2.2.2.2.2.2.2.2.2.2.2.1) = true
 p : pauseB (t.2.2.2.2.2.2.2.2.2.2.2.2.1) (t.2.2.2.2.2.2.2.2.2.2.2.2.2.1) (t.2.2.2.2.2.2.2.2.2.2.2.2.2.2.1) = true
 f : floorB (t.2.2.2.2.2.2.2.2.2.2.2.2.2.2.2.1) (t.2.2.2.2.2.2.2.2.2.2.2.2.2.2.2.2.1) (t.2.2.2.2.2.1) = true
 s : smayB (t.2.2.1) (t.2.2.2.1) (t.2.2.2.2.1) = true
theorem mayTT_ok {t : TenT} (h : mayTT t = true) : TMay t := by
 simp only [mayTT, mayT, mayP, Bool.and_eq_true] at h
 exact ⟨h.2.1.2.1, h.2.1.2.2.1, h.2.1.2.2.2, h.2.2.1, h.2.2.2.1, h.2.1.1⟩
def satD (k bf af b l : Int) (L : List Int) (v : Int) : Int × Option Int := if fitsE k bf af b l L = 0 then (if utcE b l L v = 0 then (atV k bf af b L v, none) else (0, some (utcE b l L v))) else (0, some (fitsE k bf af b l L))
def viewT (t : TenT) (tai : Int) : Int × Option Int := viewD (t.2.2.2.2.2.2.2.2.2.2.2.2.1) (t.2.2.2.2.2.2.2.2.2.2.2.2.2.1) (t.2.2.2.2.2.2.2.2.2.2.2.2.2.2.1) tai
def trueD (t : TenT) (b l : Int) (L : List Int) (tai : Int) : Int × Option Int :=
 if mayTT t = true then (match (viewT t tai).2 with | some e => (0, some e) | none => satD (t.2.2.1) (t.2.2.2.1) (t.2.2.2.2.1) b l L (viewT t tai).1) else (0, some 1)
theorem viewD_rng {on : Bool} {a lost t : Int} (h : (viewD on a lost t).2 = none) : -4611686018427387904 < (viewD on a lost t).1 ∧ (viewD on a lost t).1 < 4611686018427387904 := by
 unfold viewD at h ⊢
 split at h
 ·cases h
 ·split at h
  ·rename_i h1 h2
   rw [if_neg h1, if_pos h2]
   exact timeB_rng h2
  ·cases h
theorem ttrue_at {N : Nat} (hN : 3000 ≤ N) {t : TenT} (h : TFit t) {b l : Int} {L : List Int} (hL : L.length ≤ 40) {tai : Int} (ht : R64 tai) : f_25 N t.1 t.2.1 t.2.2.1 t.2.2.2.1 t.2.2.2.2.1 t.2.2.2.2.2.1 t.2.2.2.2.2.2.1 t.2.2.2.2.2.2.2.1 t.2.2.2.2.2.2.2.2.1 t.2.2.2.2.2.2.2.2.2.1 t.2.2.2.2.2.2.2.2.2.2.1 t.2.2.2.2.2.2.2.2.2.2.2.1 t.2.2.2.2.2.2.2.2.2.2.2.2.1 t.2.2.2.2.2.2.2.2.2.2.2.2.2.1 t.2.2.2.2.2.2.2.2.2.2.2.2.2.2.1 t.2.2.2.2.2.2.2.2.2.2.2.2.2.2.2.1 t.2.2.2.2.2.2.2.2.2.2.2.2.2.2.2.2.1 t.2.2.2.2.2.2.2.2.2.2.2.2.2.2.2.2.2 b l L tai = some (trueD t b l L tai) := by
 unfold f_25 trueD
 rw [tchkT_at hN h]
 simp only [Option.bind_some]
 cases hm : mayTT t with
 | false => rfl
 | true =>
  have hp := pauseB_rng (mayTT_ok hm).p
  simp only [cond_true, Option.isNone_none, Bool.not_true, cond_false, if_true]
  refine (bindP _ _ _ (pauview_at N (t.2.2.2.2.2.2.2.2.2.2.2.2.1) h.ta ht ⟨by omega, by omega⟩)).trans ?_
  have hr := fun h => viewD_rng (on := t.2.2.2.2.2.2.2.2.2.2.2.2.1) (a := t.2.2.2.2.2.2.2.2.2.2.2.2.2.1) (lost := t.2.2.2.2.2.2.2.2.2.2.2.2.2.2.1) (t := tai) h
  unfold viewT
  generalize viewD (t.2.2.2.2.2.2.2.2.2.2.2.2.1) (t.2.2.2.2.2.2.2.2.2.2.2.2.2.1) (t.2.2.2.2.2.2.2.2.2.2.2.2.2.2.1) tai = V at hr ⊢
  obtain ⟨v, e⟩ := V
  cases e with
  | some e => rfl
  | none =>
   have hr := hr rfl
   simp only [Option.isNone_none, Bool.not_true, cond_false] at hr ⊢
   refine (bindP _ _ _ (sat_at (N := N) (by omega) hL _ _ _ (tai := v) (by omega) (by omega))).trans ?_
   rfl
def coarseD (t : TenT) (v : Int) : Int × Option Int :=
 match (fuzzD (t.2.2.2.2.2.2.1) (t.2.2.2.2.2.2.2.1) (t.2.1) v).2 with
 | some e => (0, some e)
 | none => if qmayB (t.2.2.2.2.2.1) = true then fit64 ((fuzzD (t.2.2.2.2.2.2.1) (t.2.2.2.2.2.2.2.1) (t.2.1) v).1 / (t.2.2.2.2.2.1) * (t.2.2.2.2.2.1)) else (0, some 1)
theorem fit64_rng {s : Int} (h : (fit64 s).2 = none) : (fit64 s).1 = s ∧ R64 s := by
 unfold fit64 at h ⊢
 cases hb : rB s with
 | true => exact ⟨rfl, rB_iff.1 hb⟩
 | false => rw [hb] at h; cases h
theorem fuzzD_rng {w c : Int} {k : List Int} {v : Int} (h : (fuzzD w c k v).2 = none) : R64 (fuzzD w c k v).1 ∧ v - w ≤ (fuzzD w c k v).1 ∧ (fuzzD w c k v).1 ≤ v := by
 unfold fuzzD at h ⊢
 split at h
 ·rename_i hu
  rw [if_pos hu]
  have hn := numS_rng k (v / c) (umayB_rng hu).1.1
  obtain ⟨h1, h2⟩ := fit64_rng h
  rw [h1]
  exact ⟨h2, by omega, by omega⟩
 ·cases h
theorem coarse_at {N : Nat} (hN : 3000 ≤ N) {t : TenT} (hk : TKey t) {v : Int} (hv : R64 v) : f_74 N t.1 t.2.1 t.2.2.1 t.2.2.2.1 t.2.2.2.2.1 t.2.2.2.2.2.1 t.2.2.2.2.2.2.1 t.2.2.2.2.2.2.2.1 t.2.2.2.2.2.2.2.2.1 t.2.2.2.2.2.2.2.2.2.1 t.2.2.2.2.2.2.2.2.2.2.1 t.2.2.2.2.2.2.2.2.2.2.2.1 t.2.2.2.2.2.2.2.2.2.2.2.2.1 t.2.2.2.2.2.2.2.2.2.2.2.2.2.1 t.2.2.2.2.2.2.2.2.2.2.2.2.2.2.1 t.2.2.2.2.2.2.2.2.2.2.2.2.2.2.2.1 t.2.2.2.2.2.2.2.2.2.2.2.2.2.2.2.2.1 t.2.2.2.2.2.2.2.2.2.2.2.2.2.2.2.2.2 v = some (coarseD t v) := by
 unfold f_74 coarseD
 refine (bindP _ _ _ (uat_at (N := N) (by omega) (t.2.2.2.2.2.2.1) (t.2.2.2.2.2.2.2.1) hk.by_ hk.len hv)).trans ?_
 have hr := fun h => fuzzD_rng (w := t.2.2.2.2.2.2.1) (c := t.2.2.2.2.2.2.2.1) (k := t.2.1) (v := v) h
 generalize fuzzD (t.2.2.2.2.2.2.1) (t.2.2.2.2.2.2.2.1) (t.2.1) v = V at hr ⊢
 obtain ⟨n, e⟩ := V
 cases e with
 | some e => rfl
 | none =>
  simp only [Option.isNone_none, Bool.not_true, cond_false]
  refine (bindP _ _ _ (qdown_at N (q := t.2.2.2.2.2.1) (hr rfl).1)).trans ?_
  rfl
def boundD (k w q host raised : Int) : Int := satI ((if k = 0 then satI (satI (host + (w + q - 1)) + 1000000000) else satI (host + (w + q - 1))) + raised)
theorem off_at' (N : Nat) {t : TenT} (hm : TMay t) {host raised : Int} (hh : R64 host) (hr : R64 raised) : f_77 N t.1 t.2.1 t.2.2.1 t.2.2.2.1 t.2.2.2.2.1 t.2.2.2.2.2.1 t.2.2.2.2.2.2.1 t.2.2.2.2.2.2.2.1 t.2.2.2.2.2.2.2.2.1 t.2.2.2.2.2.2.2.2.2.1 t.2.2.2.2.2.2.2.2.2.2.1 t.2.2.2.2.2.2.2.2.2.2.2.1 t.2.2.2.2.2.2.2.2.2.2.2.2.1 t.2.2.2.2.2.2.2.2.2.2.2.2.2.1 t.2.2.2.2.2.2.2.2.2.2.2.2.2.2.1 t.2.2.2.2.2.2.2.2.2.2.2.2.2.2.2.1 t.2.2.2.2.2.2.2.2.2.2.2.2.2.2.2.2.1 t.2.2.2.2.2.2.2.2.2.2.2.2.2.2.2.2.2 host raised = some (boundD (t.2.2.1) (t.2.2.2.2.2.2.1) (t.2.2.2.2.2.1) host raised) := by
 have hq := qmayB_rng hm.q
 have hu := umayB_rng hm.u
 unfold f_77 boundD
 rw [wi64 (n := (t.2.2.2.2.2.2.1) + (t.2.2.2.2.2.1)) (by omega) (by omega), wi64 (n := (t.2.2.2.2.2.2.1) + (t.2.2.2.2.2.1) - 1) (by omega) (by omega), naddsat_at N hh ⟨by omega, by omega⟩]
 simp only [Option.bind_some]
 by_cases h0 : (t.2.2.1) = 0
 ·rw [if_pos h0, show ((t.2.2.1) == 0) = true by simpa using h0]
  simp only [cond_true]
  rw [naddsat_at N (satI_rng _) ⟨by omega, by omega⟩]
  simp only [Option.bind_some]
  rw [naddsat_at N (satI_rng _) hr]; rfl
 ·rw [if_neg h0, show ((t.2.2.1) == 0) = false by simpa using h0]
  simp only [cond_false]
  rw [naddsat_at N (satI_rng _) hr]; rfl
abbrev ReadT := Int × Int × Int × Int
def withFloor (t : TenT) (s : Bool) (v : Int) : TenT := (t.1, t.2.1, t.2.2.1, t.2.2.2.1, t.2.2.2.2.1, t.2.2.2.2.2.1, t.2.2.2.2.2.2.1, t.2.2.2.2.2.2.2.1, t.2.2.2.2.2.2.2.2.1, t.2.2.2.2.2.2.2.2.2.1, t.2.2.2.2.2.2.2.2.2.2.1, t.2.2.2.2.2.2.2.2.2.2.2.1, t.2.2.2.2.2.2.2.2.2.2.2.2.1, t.2.2.2.2.2.2.2.2.2.2.2.2.2.1, t.2.2.2.2.2.2.2.2.2.2.2.2.2.2.1, s, v, t.2.2.2.2.2.2.2.2.2.2.2.2.2.2.2.2.2)
def toldD (t : TenT) (n off : Int) : ReadT × TenT × Option Int :=
 if (t.2.2.1) = 0 then ((n, boundD (t.2.2.1) (t.2.2.2.2.2.2.1) (t.2.2.2.2.2.1) off 0, 0, off), t, none)
 else ((raiseD (t.2.2.2.2.2.2.2.2.2.2.2.2.2.2.2.1) (t.2.2.2.2.2.2.2.2.2.2.2.2.2.2.2.2.1) n, boundD (t.2.2.1) (t.2.2.2.2.2.2.1) (t.2.2.2.2.2.1) off (satI (raiseD (t.2.2.2.2.2.2.2.2.2.2.2.2.2.2.2.1) (t.2.2.2.2.2.2.2.2.2.2.2.2.2.2.2.2.1) n - n)), satI (raiseD (t.2.2.2.2.2.2.2.2.2.2.2.2.2.2.2.1) (t.2.2.2.2.2.2.2.2.2.2.2.2.2.2.2.2.1) n - n), off), withFloor t true (raiseD (t.2.2.2.2.2.2.2.2.2.2.2.2.2.2.2.1) (t.2.2.2.2.2.2.2.2.2.2.2.2.2.2.2.2.1) n), none)
def readD (t : TenT) (b l : Int) (L : List Int) (tai off : Int) : ReadT × TenT × Option Int :=
 if mayTT t = true then (if off < 0 then ((0, 0, 0, 0), ten0, some 1) else bif (t.2.2.2.2.2.2.2.2.2.2.2.2.1) then ((0, 0, 0, 0), ten0, some 16) else
  match (trueD t b l L tai).2 with
  | some e => ((0, 0, 0, 0), ten0, some e)
  | none => (match (coarseD t (trueD t b l L tai).1).2 with
   | some e => ((0, 0, 0, 0), ten0, some e)
   | none => toldD t (coarseD t (trueD t b l L tai).1).1 off))
 else ((0, 0, 0, 0), ten0, some 1)
theorem atV_rng {k bf af b l : Int} {L : List Int} {v : Int} (hE : fitsE k bf af b l L = 0) (hU : utcE b l L v = 0) : R64 (atV k bf af b L v) := by
 obtain ⟨hs, ht⟩ := fitsE_zero hE
 have T := tab_of ht
 obtain ⟨⟨u0, u1⟩, _⟩ := utcE_zero hU
 have hlim := cntD_le (dayS b L (v / 1000000000)) L
 have hb := T.b0
 have hb1 := T.b1
 have hl := T.len
 have ho : -4611686218427387904 < outV b L v ∧ outV b L v < 4611686218427387904 := by unfold outV; omega
 unfold atV
 split
 ·exact ⟨by omega, by omega⟩
 ·rename_i hk
  split
  ·rename_i j hj
   obtain ⟨_, w2, w3⟩ := winF_some hj
   have := off_in T hs hk (i := j) (by omega) w3
   exact ⟨by omega, by omega⟩
  ·exact ⟨by omega, by omega⟩
theorem trueD_rng {t : TenT} {b l : Int} {L : List Int} {tai : Int} (h : (trueD t b l L tai).2 = none) : R64 (trueD t b l L tai).1 := by
 unfold trueD satD at h ⊢
 split at h
 ·rename_i hm
  rw [if_pos hm]
  split at h
  ·cases h
  ·rename_i hv
   split at h
   ·rename_i hE
    rw [if_pos hE]
    split at h
    ·rename_i hU
     rw [if_pos hU]
     exact atV_rng hE hU
    ·cases h
   ·cases h
 ·cases h
theorem coarseD_rng {t : TenT} {v : Int} (h : (coarseD t v).2 = none) : R64 (coarseD t v).1 := by
 unfold coarseD at h ⊢
 split at h
 ·cases h
 ·rename_i hf
  split at h
  ·rename_i hq
   rw [if_pos hq]
   obtain ⟨h1, h2⟩ := fit64_rng h
   rw [h1]; exact h2
  ·cases h
theorem tread_at {N : Nat} (hN : 3000 ≤ N) {t : TenT} (h : TFit t) (hk : TKey t) {b l : Int} {L : List Int} (hL : L.length ≤ 40) {tai off : Int} (ht : R64 tai) (ho : R64 off) : f_24 N t.1 t.2.1 t.2.2.1 t.2.2.2.1 t.2.2.2.2.1 t.2.2.2.2.2.1 t.2.2.2.2.2.2.1 t.2.2.2.2.2.2.2.1 t.2.2.2.2.2.2.2.2.1 t.2.2.2.2.2.2.2.2.2.1 t.2.2.2.2.2.2.2.2.2.2.1 t.2.2.2.2.2.2.2.2.2.2.2.1 t.2.2.2.2.2.2.2.2.2.2.2.2.1 t.2.2.2.2.2.2.2.2.2.2.2.2.2.1 t.2.2.2.2.2.2.2.2.2.2.2.2.2.2.1 t.2.2.2.2.2.2.2.2.2.2.2.2.2.2.2.1 t.2.2.2.2.2.2.2.2.2.2.2.2.2.2.2.2.1 t.2.2.2.2.2.2.2.2.2.2.2.2.2.2.2.2.2 b l L tai off = some (readD t b l L tai off) := by
 unfold f_24 readD
 rw [tchkT_at hN h]
 simp only [Option.bind_some]
 cases hm : mayTT t with
 | false => rfl
 | true =>
  have hM := mayTT_ok hm
  simp only [cond_true, Option.isNone_none, Bool.not_true, cond_false, if_true]
  by_cases h0 : off < 0
  ·rw [decide_eq_true h0, if_pos h0]; rfl
  ·rw [decide_eq_false h0, if_neg h0]
   simp only [cond_false]
   rcases Bool.eq_false_or_eq_true (t.2.2.2.2.2.2.2.2.2.2.2.2.1) with hon | hon
   ·rw [bif_t hon, bif_t hon]; rfl
   ·rw [bif_f hon, bif_f hon]
    refine (bindP _ _ _ (ttrue_at hN h hL ht)).trans ?_
    have hr := fun h => trueD_rng (t := t) (b := b) (l := l) (L := L) (tai := tai) h
    generalize trueD t b l L tai = V at hr ⊢
    obtain ⟨v, e⟩ := V
    cases e with
    | some e => rfl
    | none =>
     have hv := hr rfl
     simp only [Option.isNone_none, Bool.not_true, cond_false] at hv ⊢
     refine (bindP _ _ _ (coarse_at hN hk hv)).trans ?_
     have hr := fun h => coarseD_rng (t := t) (v := v) h
     generalize coarseD t v = C at hr ⊢
     obtain ⟨n, e⟩ := C
     cases e with
     | some e => rfl
     | none =>
      have hn := hr rfl
      simp only [Option.isNone_none, Bool.not_true, cond_false] at hn ⊢
      refine (bindP _ _ _ (tcop_at N t h.zL)).trans ?_
      unfold toldD
      by_cases hk0 : (t.2.2.1) = 0
      ·rw [if_pos hk0, show ((t.2.2.1) != 0) = false by simpa using hk0]
       simp only [cond_false]
       refine (bindP _ _ _ (off_at' N hM ho (raised := 0) ⟨by decide, by decide⟩)).trans ?_
       rfl
      ·rw [if_neg hk0, show ((t.2.2.1) != 0) = true by simpa using hk0]
       simp only [cond_true]
       refine (bindP _ _ _ (ftake_at N (t.2.2.2.2.2.2.2.2.2.2.2.2.2.2.2.1) h.tl hn)).trans ?_
       refine (bindP _ _ _ (off_at' N hM ho (satI_rng _))).trans ?_
       rfl
end Go.Proofs.YthpljlpokmoeeaaGreatDoor.Mir
namespace Go.Proofs.YthpljlpokmoeeaaGreatDoor.Mir
open Go Go.RowKit
set_option maxRecDepth 100000
end Go.Proofs.YthpljlpokmoeeaaGreatDoor.Mir
namespace Go.Proofs.YthpljlpokmoeeaaGreatDoor.Mir
open Go Go.RowKit
set_option maxRecDepth 100000
theorem give_loop29 (N : Nat) {n : ByteArray} {f : Int} {L : List Rul} (hL : L.length ≤ 4398046511104) (z : ByteArray × Int × List Rul) : ∀ (k M i : Nat) (acc : List Rul), i + k = L.length → k < M → acc.length = i →
  iter (b_87_0 N) M ((), (), (), (i : Int), (n, f, L), z, (n, f, acc)) = some ((), (), z, (n, f, acc ++ L.drop i)) := by
 intro k
 induction k with
 | zero =>
  intro M i acc hi hM ha
  obtain ⟨M, rfl⟩ : ∃ m, M = m + 1 := ⟨M - 1, by omega⟩
  show b_87_0 N (iter (b_87_0 N) M) _ = _
  unfold b_87_0
  simp only
  rw [decide_eq_false (show ¬ (i : Int) < (L.length : Int) by omega), List.drop_eq_nil_of_le (by omega), List.append_nil]; rfl
 | succ k ih =>
  intro M i acc hi hM ha
  obtain ⟨M, rfl⟩ : ∃ m, M = m + 1 := ⟨M - 1, by omega⟩
  have ih' := ih M (i + 1) (acc ++ [gR L i]) (by omega) (by omega) (by rw [List.length_append, ha]; rfl)
  show b_87_0 N (iter (b_87_0 N) M) _ = _
  generalize iter (b_87_0 N) M = I at ih' ⊢
  unfold b_87_0
  simp only
  rw [decide_eq_true (show (i : Int) < (L.length : Int) by omega), decide_eq_true (show 0 ≤ (i : Int) ∧ (i : Int) < (L.length : Int) by omega), wi64 (n := (i : Int) + 1) (by omega) (by omega), show (i : Int) + 1 = ((i + 1 : Nat) : Int) by omega]
  simp only [cond_true, Int.toNat_natCast]
  show (bif decide ((acc.length + [gR L i].length) * 32 ≤ 140737488355328) then I ((), (), (), ((i + 1 : Nat) : Int), (n, f, L), z, (n, f, acc ++ [gR L i])) else none) = _
  rw [decide_eq_true (by rw [List.length_singleton]; omega), cond_true, ih', List.append_assoc]
  have hi' : i < L.length := by omega
  have e : gR L i = L[i] := by unfold gR; rw [List.getD_eq_getElem?_getD, List.getElem?_eq_getElem hi']; rfl
  rw [List.drop_eq_getElem_cons hi', e]; rfl
theorem give_at29 {N : Nat} (n : ByteArray) (f : Int) {L : List Rul} (hL : L.length ≤ 4398046511104) (hN : L.length < N) : f_87 N n f L = some (n, f, L) := by
 have h := give_loop29 N (n := n) (f := f) hL (ByteArray.empty, 0, []) L.length N 0 [] (by omega) hN rfl
 have h' : l_87_0 N ((), (), (), 0, (n, f, L), (ByteArray.empty, 0, []), (n, f, [])) = some ((), (), (ByteArray.empty, 0, []), (n, f, L)) := h
 unfold f_87
 rw [h']; rfl
theorem big_loop29 (N : Nat) {n : ByteArray} {f : Int} {L : List Rul} : ∀ (k M i : Nat), i + k = 60 → k < M → ∃ r, iter (b_26_0 N) M ((), (i : Int), (n, f, L)) = some r ∧ (r = .inl true ∨ (r = .inr ((), (n, f, L)) ∧ ∀ j, i ≤ j → j < L.length → j < 60 → (gR L j).2.2.size ≤ 200)) := by
 intro k
 induction k with
 | zero =>
  intro M i hi hM
  obtain ⟨M, rfl⟩ : ∃ m, M = m + 1 := ⟨M - 1, by omega⟩
  refine ⟨.inr ((), (n, f, L)), ?_, .inr ⟨rfl, fun j h1 h2 h3 => by omega⟩⟩
  show b_26_0 N (iter (b_26_0 N) M) _ = _
  unfold b_26_0
  simp only
  rw [decide_eq_false (show ¬ (i : Int) < 60 by omega)]
  cases decide ((i : Int) < (L.length : Int)) <;> rfl
 | succ k ih =>
  intro M i hi hM
  obtain ⟨M, rfl⟩ : ∃ m, M = m + 1 := ⟨M - 1, by omega⟩
  obtain ⟨r, h1, h2⟩ := ih M (i + 1) (by omega) (by omega)
  by_cases hl : i < L.length
  ·by_cases hs : (gR L i).2.2.size > 200
   ·refine ⟨.inl true, ?_, .inl rfl⟩
    show b_26_0 N (iter (b_26_0 N) M) _ = _
    unfold b_26_0
    simp only
    rw [decide_eq_true (show (i : Int) < 60 by omega), decide_eq_true (show (i : Int) < (L.length : Int) by omega), decide_eq_true (show 0 ≤ (i : Int) ∧ (i : Int) < (L.length : Int) by omega), Int.toNat_natCast]
    show (bif decide (((gR L i).2.2.size : Int) > 200) then _ else _) = _
    rw [decide_eq_true (by omega)]; rfl
   ·refine ⟨r, ?_, ?_⟩
    ·rw [← h1]
     show b_26_0 N (iter (b_26_0 N) M) _ = _
     generalize iter (b_26_0 N) M = I
     unfold b_26_0
     simp only
     rw [decide_eq_true (show (i : Int) < 60 by omega), decide_eq_true (show (i : Int) < (L.length : Int) by omega), decide_eq_true (show 0 ≤ (i : Int) ∧ (i : Int) < (L.length : Int) by omega), Int.toNat_natCast, wi64 (n := (i : Int) + 1) (by omega) (by omega)]
     show (bif decide (((gR L i).2.2.size : Int) > 200) then _ else _) = _
     rw [decide_eq_false (by omega)]; rfl
    ·rcases h2 with h2 | ⟨h2, h3⟩
     ·exact .inl h2
     ·refine .inr ⟨h2, fun j a b c => ?_⟩
      by_cases hj : j = i
      ·subst hj; omega
      ·exact h3 j (by omega) b c
  ·refine ⟨.inr ((), (n, f, L)), ?_, .inr ⟨rfl, fun j h1 h2 h3 => by omega⟩⟩
   show b_26_0 N (iter (b_26_0 N) M) _ = _
   unfold b_26_0
   simp only
   rw [decide_eq_false (show ¬ (i : Int) < (L.length : Int) by omega)]; rfl
theorem big_at29 {N : Nat} (n : ByteArray) (f : Int) (L : List Rul) (hN : 61 ≤ N) : ∃ b, f_26 N n f L = some b ∧ (b = false → L.length ≤ 60 ∧ n.size ≤ 200 ∧ ∀ i, i < L.length → (gR L i).2.2.size ≤ 200) := by
 obtain ⟨r, h1, h2⟩ := big_loop29 N (n := n) (f := f) (L := L) 60 N 0 rfl (by omega)
 have h' : l_26_0 N ((), 0, (n, f, L)) = some r := h1
 unfold f_26
 rw [h']
 rcases h2 with rfl | ⟨rfl, h3⟩
 ·exact ⟨true, rfl, fun h => by cases h⟩
 ·show ∃ b, (bif decide ((L.length : Int) > 60) then some true else some (decide ((n.size : Int) > 200))) = some b ∧ _
  by_cases hl : L.length > 60
  ·rw [decide_eq_true (show (L.length : Int) > 60 by omega)]
   exact ⟨true, rfl, fun h => by cases h⟩
  ·rw [decide_eq_false (show ¬ (L.length : Int) > 60 by omega)]
   refine ⟨_, rfl, fun h => ?_⟩
   have := of_decide_eq_false h
   exact ⟨by omega, by omega, fun i hi => h3 i (Nat.zero_le _) hi (by omega)⟩
end Go.Proofs.YthpljlpokmoeeaaGreatDoor.Mir
namespace Go.Proofs.YthpljlpokmoeeaaGreatDoor.Mir
open Go Go.RowKit
set_option maxRecDepth 100000
theorem pgive_at29 {N : Nat} (k b a q w c : Int) (j : Bool) (n : ByteArray) (f : Int) {L : List Rul} (hL : L.length ≤ 4398046511104) (hN : L.length < N) : f_30 N k b a q w c j n f L = some (k, b, a, q, w, c, j, n, f, L) := by
 unfold f_30
 rw [give_at29 n f hL hN]; rfl
theorem tgive_at29 {N : Nat} (t : TenT) (hL : (t.2.2.2.2.2.2.2.2.2.2.2.1).length ≤ 4398046511104) (hN : (t.2.2.2.2.2.2.2.2.2.2.2.1).length < N) : f_20 N t.1 t.2.1 t.2.2.1 t.2.2.2.1 t.2.2.2.2.1 t.2.2.2.2.2.1 t.2.2.2.2.2.2.1 t.2.2.2.2.2.2.2.1 t.2.2.2.2.2.2.2.2.1 t.2.2.2.2.2.2.2.2.2.1 t.2.2.2.2.2.2.2.2.2.2.1 t.2.2.2.2.2.2.2.2.2.2.2.1 t.2.2.2.2.2.2.2.2.2.2.2.2.1 t.2.2.2.2.2.2.2.2.2.2.2.2.2.1 t.2.2.2.2.2.2.2.2.2.2.2.2.2.2.1 t.2.2.2.2.2.2.2.2.2.2.2.2.2.2.2.1 t.2.2.2.2.2.2.2.2.2.2.2.2.2.2.2.2.1 t.2.2.2.2.2.2.2.2.2.2.2.2.2.2.2.2.2 = some t := by
 unfold f_20
 rw [pgive_at29 _ _ _ _ _ _ _ _ _ hL hN]; rfl
structure TBig29 (t : TenT) : Prop where
 zL : (t.2.2.2.2.2.2.2.2.2.2.2.1).length ≤ 60
 zn : (t.2.2.2.2.2.2.2.2.2.1).size ≤ 200
 rn : ∀ i, i < (t.2.2.2.2.2.2.2.2.2.2.2.1).length → (gR (t.2.2.2.2.2.2.2.2.2.2.2.1) i).2.2.size ≤ 200
 n : (t.1).size ≤ 100
theorem tbig_at29 {N : Nat} (t : TenT) (hN : 60 < N) : ∃ g, f_21 N t.1 t.2.1 t.2.2.1 t.2.2.2.1 t.2.2.2.2.1 t.2.2.2.2.2.1 t.2.2.2.2.2.2.1 t.2.2.2.2.2.2.2.1 t.2.2.2.2.2.2.2.2.1 t.2.2.2.2.2.2.2.2.2.1 t.2.2.2.2.2.2.2.2.2.2.1 t.2.2.2.2.2.2.2.2.2.2.2.1 t.2.2.2.2.2.2.2.2.2.2.2.2.1 t.2.2.2.2.2.2.2.2.2.2.2.2.2.1 t.2.2.2.2.2.2.2.2.2.2.2.2.2.2.1 t.2.2.2.2.2.2.2.2.2.2.2.2.2.2.2.1 t.2.2.2.2.2.2.2.2.2.2.2.2.2.2.2.2.1 t.2.2.2.2.2.2.2.2.2.2.2.2.2.2.2.2.2 = some g ∧ (g = false → TBig29 t) := by
 obtain ⟨g, h1, h2⟩ := big_at29 (N := N) (t.2.2.2.2.2.2.2.2.2.1) (t.2.2.2.2.2.2.2.2.2.2.1) (t.2.2.2.2.2.2.2.2.2.2.2.1) hN
 unfold f_21
 rw [h1]
 cases g with
 | true => exact ⟨true, rfl, fun h => by cases h⟩
 | false =>
  obtain ⟨b1, b2, b3⟩ := h2 rfl
  refine ⟨_, rfl, fun h => ⟨b1, b2, b3, ?_⟩⟩
  have := of_decide_eq_false h
  omega
theorem TBig29.fit {t : TenT} (h : TBig29 t) (ha : R64 (t.2.2.2.2.2.2.2.2.2.2.2.2.2.1)) (hl : R64 (t.2.2.2.2.2.2.2.2.2.2.2.2.2.2.2.2.1)) : TFit t :=
 ⟨by have := h.n; omega, by have := h.zn; omega, by have := h.zL; omega, fun i hi => by have := h.rn i hi; omega, ha, hl⟩
end Go.Proofs.YthpljlpokmoeeaaGreatDoor.Mir
namespace Go.Proofs.YthpljlpokmoeeaaGreatDoor.Mir
open Go Go.RowKit
set_option maxRecDepth 100000
theorem tlsure_at (n : Nat) : f_23 (n + 3000) = some true := by kernel_rfl
theorem trueD_val {t : TenT} {b l : Int} {L : List Int} {tai : Int} (h : (trueD t b l L tai).2 = none) (hon : t.2.2.2.2.2.2.2.2.2.2.2.2.1 = false) :
  fitsE (t.2.2.1) (t.2.2.2.1) (t.2.2.2.2.1) b l L = 0 ∧ (trueD t b l L tai).1 = atV (t.2.2.1) (t.2.2.2.1) (t.2.2.2.2.1) b L (tai - t.2.2.2.2.2.2.2.2.2.2.2.2.2.2.1) := by
 unfold trueD satD viewT viewD at h ⊢
 rw [hon] at h ⊢
 simp only [cond_false] at h ⊢
 by_cases hm : mayTT t = true
 ·rw [if_pos hm] at h ⊢
  by_cases h1 : (timeB tai && pauseB false (t.2.2.2.2.2.2.2.2.2.2.2.2.2.1) (t.2.2.2.2.2.2.2.2.2.2.2.2.2.2.1)) = false
  ·rw [if_pos h1] at h; cases h
  ·rw [if_neg h1] at h ⊢
   by_cases h2 : timeB (tai - t.2.2.2.2.2.2.2.2.2.2.2.2.2.2.1) = true
   ·rw [if_pos h2] at h ⊢
    simp only at h ⊢
    by_cases hE : fitsE (t.2.2.1) (t.2.2.2.1) (t.2.2.2.2.1) b l L = 0
    ·rw [if_pos hE] at h ⊢
     by_cases hU : utcE b l L (tai - t.2.2.2.2.2.2.2.2.2.2.2.2.2.2.1) = 0
     ·rw [if_pos hU]; exact ⟨hE, rfl⟩
     ·rw [if_neg hU] at h; cases h
    ·rw [if_neg hE] at h; cases h
   ·rw [if_neg h2] at h; cases h
 ·rw [if_neg hm] at h; cases h
theorem coarseD_val {t : TenT} {v : Int} (hm : TMay t) (h : (coarseD t v).2 = none) : v - t.2.2.2.2.2.2.1 - (t.2.2.2.2.2.1 - 1) ≤ (coarseD t v).1 ∧ (coarseD t v).1 ≤ v ∧ (coarseD t v).1 % t.2.2.2.2.2.1 = 0 := by
 have hq := qmayB_rng hm.q
 unfold coarseD at h ⊢
 have hr := fun h => fuzzD_rng (w := t.2.2.2.2.2.2.1) (c := t.2.2.2.2.2.2.2.1) (k := t.2.1) (v := v) h
 generalize fuzzD (t.2.2.2.2.2.2.1) (t.2.2.2.2.2.2.2.1) (t.2.1) v = V at hr h ⊢
 obtain ⟨n, e⟩ := V
 cases e with
 | some e => cases h
 | none =>
  obtain ⟨_, h1, h2⟩ := hr rfl
  simp only at h h1 h2 ⊢
  rw [if_pos hm.q] at h ⊢
  obtain ⟨e1, e2⟩ := fit64_rng h
  rw [e1]
  have d1 := Int.mul_ediv_add_emod n (t.2.2.2.2.2.1)
  have d2 := Int.emod_nonneg n (show t.2.2.2.2.2.1 ≠ 0 by omega)
  have d3 := Int.emod_lt_of_pos n (show 0 < t.2.2.2.2.2.1 by omega)
  rw [Int.mul_comm] at d1
  refine ⟨by omega, by omega, ?_⟩
  exact Int.mul_emod_left _ _
theorem readD_some {t : TenT} {b l : Int} {L : List Int} {tai off e : Int} (h : (readD t b l L tai off).2.2 = some e) : (readD t b l L tai off).1 = (0, 0, 0, 0) := by
 unfold readD at h ⊢
 by_cases hm : mayTT t = true
 ·rw [if_pos hm] at h ⊢
  by_cases h0 : off < 0
  ·rw [if_pos h0]
  ·rw [if_neg h0] at h ⊢
   rcases Bool.eq_false_or_eq_true (t.2.2.2.2.2.2.2.2.2.2.2.2.1) with hon | hon
   ·rw [bif_t hon]
   ·rw [bif_f hon] at h ⊢
    generalize trueD t b l L tai = V at h ⊢
    obtain ⟨v, e'⟩ := V
    cases e' with
    | some e' => rfl
    | none =>
     simp only at h ⊢
     generalize coarseD t v = C at h ⊢
     obtain ⟨n, e'⟩ := C
     cases e' with
     | some e' => rfl
     | none =>
      simp only at h ⊢
      unfold toldD at h
      split at h <;> cases h
 ·rw [if_neg hm]
theorem readD_none {t : TenT} {b l : Int} {L : List Int} {tai off : Int} (h : (readD t b l L tai off).2.2 = none) :
  mayTT t = true ∧ 0 ≤ off ∧ t.2.2.2.2.2.2.2.2.2.2.2.2.1 = false ∧ (trueD t b l L tai).2 = none ∧ (coarseD t (trueD t b l L tai).1).2 = none ∧ readD t b l L tai off = toldD t (coarseD t (trueD t b l L tai).1).1 off := by
 unfold readD at h ⊢
 by_cases hm : mayTT t = true
 ·rw [if_pos hm] at h ⊢
  by_cases h0 : off < 0
  ·rw [if_pos h0] at h; cases h
  ·rw [if_neg h0] at h ⊢
   rcases Bool.eq_false_or_eq_true (t.2.2.2.2.2.2.2.2.2.2.2.2.1) with hon | hon
   ·rw [bif_t hon] at h; cases h
   ·rw [bif_f hon] at h ⊢
    generalize trueD t b l L tai = V at h ⊢
    obtain ⟨v, e'⟩ := V
    cases e' with
    | some e' => cases h
    | none =>
     simp only at h ⊢
     generalize coarseD t v = C at h ⊢
     obtain ⟨n, e'⟩ := C
     cases e' with
     | some e' => cases h
     | none => exact ⟨hm, by omega, hon, trivial, rfl, rfl⟩
 ·rw [if_neg hm] at h; cases h
theorem trueD_lip {t : TenT} {b l : Int} {L : List Int} {s d off : Int} (hk : t.2.2.1 ≠ 0) (hon : t.2.2.2.2.2.2.2.2.2.2.2.2.1 = false) (h : (trueD t b l L s).2 = none) (h' : (trueD t b l L (s + d)).2 = none) (h0 : -off ≤ d) (h1 : d ≤ off) :
  (trueD t b l L s).1 - (trueD t b l L (s + d)).1 ≤ off ∧ (trueD t b l L (s + d)).1 - (trueD t b l L s).1 ≤ off := by
 obtain ⟨hE, e1⟩ := trueD_val h hon
 obtain ⟨_, e2⟩ := trueD_val h' hon
 rw [e1, e2]
 by_cases hd : 0 ≤ d
 ·have := atV_on hE hk (s := s - t.2.2.2.2.2.2.2.2.2.2.2.2.2.2.1) (t := s + d - t.2.2.2.2.2.2.2.2.2.2.2.2.2.2.1) (by omega)
  omega
 ·have := atV_on hE hk (s := s + d - t.2.2.2.2.2.2.2.2.2.2.2.2.2.2.1) (t := s - t.2.2.2.2.2.2.2.2.2.2.2.2.2.2.1) (by omega)
  omega
theorem wi64_lt (n : Int) : -9223372036854775808 ≤ IntKind.i64.wrap n ∧ IntKind.i64.wrap n < 9223372036854775808 := by rw [IntKind.wrap_i64]; omega
theorem bound_nums {r v n S R B : Int} (hr : R64 r) (hv : R64 v) (hn : R64 n) (hrn : n ≤ r) (h1 : n - v ≤ S) (h2 : v - n ≤ S) (hS0 : 0 ≤ S) (hS : S < 4611686018427387904) (hR : R = satI (r - n)) (hB : B = satI (S + R)) : IntKind.i64.wrap (r - v) ≤ B ∧ IntKind.i64.wrap (0 - IntKind.i64.wrap (r - v)) ≤ B := by
 obtain ⟨r0, r1⟩ := hr
 obtain ⟨v0, v1⟩ := hv
 obtain ⟨n0, n1⟩ := hn
 unfold satI at hR hB
 by_cases hb : B = 9223372036854775807
 ·rw [hb]
  have := wi64_lt (r - v)
  have := wi64_lt (0 - IntKind.i64.wrap (r - v))
  omega
 ·have hR' : R = r - n := by
   rw [if_neg (by omega)] at hR
   by_cases h : r - n > 9223372036854775807
   ·rw [if_pos h] at hR
    rw [if_neg (by omega)] at hB
    by_cases h' : S + R > 9223372036854775807
    ·rw [if_pos h'] at hB; omega
    ·rw [if_neg h'] at hB; omega
   ·rw [if_neg h] at hR; exact hR
  have hB' : B = S + R := by
   rw [if_neg (by omega)] at hB
   by_cases h' : S + R > 9223372036854775807
   ·rw [if_pos h'] at hB; omega
   ·rw [if_neg h'] at hB; exact hB
  have hBr : S + R ≤ 9223372036854775807 := by
   rw [if_neg (by omega)] at hB
   by_cases h' : S + R > 9223372036854775807
   ·rw [if_pos h'] at hB; omega
   ·omega
  rw [wi64 (n := r - v) (by omega) (by omega), wi64 (n := 0 - (r - v)) (by omega) (by omega)]
  omega
end Go.Proofs.YthpljlpokmoeeaaGreatDoor.Mir
namespace Go.Proofs.YthpljlpokmoeeaaGreatDoor.Mir
open Go Go.RowKit
set_option maxRecDepth 100000
theorem sure_some {q : Option Bool} (h : q = some true) : (q.bind fun r => some r) = some true := by rw [h]; rfl
theorem told_off {t : TenT} (hk : t.2.2.1 ≠ 0) (hM : TMay t) (hl : R64 (t.2.2.2.2.2.2.2.2.2.2.2.2.2.2.2.2.1)) {n v x off : Int} (h0 : 0 ≤ off) (h1 : off ≤ 1152921504606846976) (hn : R64 n) (hv : R64 v) (hx : x - t.2.2.2.2.2.2.1 - (t.2.2.2.2.2.1 - 1) ≤ n) (hx2 : n ≤ x) (d1 : x - v ≤ off) (d2 : v - x ≤ off) :
  (toldD t n off).2.2 = none ∧ IntKind.i64.wrap ((toldD t n off).1.1 - v) ≤ (toldD t n off).1.2.1 ∧ IntKind.i64.wrap (0 - IntKind.i64.wrap ((toldD t n off).1.1 - v)) ≤ (toldD t n off).1.2.1 := by
 have hq := qmayB_rng hM.q
 have hu := umayB_rng hM.u
 unfold toldD
 rw [if_neg hk]
 refine ⟨rfl, ?_⟩
 simp only
 have e : boundD (t.2.2.1) (t.2.2.2.2.2.2.1) (t.2.2.2.2.2.1) off (satI (raiseD (t.2.2.2.2.2.2.2.2.2.2.2.2.2.2.2.1) (t.2.2.2.2.2.2.2.2.2.2.2.2.2.2.2.2.1) n - n)) = satI (off + (t.2.2.2.2.2.2.1 + t.2.2.2.2.2.1 - 1) + satI (raiseD (t.2.2.2.2.2.2.2.2.2.2.2.2.2.2.2.1) (t.2.2.2.2.2.2.2.2.2.2.2.2.2.2.2.2.1) n - n)) := by
  unfold boundD
  rw [if_neg hk, satI_in (s := off + (t.2.2.2.2.2.2.1 + t.2.2.2.2.2.1 - 1)) ⟨by omega, by omega⟩]
 rw [e]
 exact bound_nums (n := n) (raiseD_rng hl hn) hv hn (raiseD_ge _ _ _) (by omega) (by omega) (by omega) (by omega) rfl rfl
theorem tholds_holds (F : Nat) {t : TenT} (hk : TKey t) (ha : R64 (t.2.2.2.2.2.2.2.2.2.2.2.2.2.1)) (hl : R64 (t.2.2.2.2.2.2.2.2.2.2.2.2.2.2.2.2.1)) (b l : Int) (L of : List Int) (o0 : R64 (of.getD (Int.toNat 0) 0)) (o1 : R64 (of.getD (Int.toNat 1) 0)) (_ : R64 (of.getD (Int.toNat 2) 0)) (hzL : (t.2.2.2.2.2.2.2.2.2.2.2.1).length ≤ 4398046511104) (hF : (t.2.2.2.2.2.2.2.2.2.2.2.1).length < F) (h3 : 3000 ≤ F) (hs : f_23 F = some true) : f_4 F t.1 t.2.1 t.2.2.1 t.2.2.2.1 t.2.2.2.2.1 t.2.2.2.2.2.1 t.2.2.2.2.2.2.1 t.2.2.2.2.2.2.2.1 t.2.2.2.2.2.2.2.2.1 t.2.2.2.2.2.2.2.2.2.1 t.2.2.2.2.2.2.2.2.2.2.1 t.2.2.2.2.2.2.2.2.2.2.2.1 t.2.2.2.2.2.2.2.2.2.2.2.2.1 t.2.2.2.2.2.2.2.2.2.2.2.2.2.1 t.2.2.2.2.2.2.2.2.2.2.2.2.2.2.1 t.2.2.2.2.2.2.2.2.2.2.2.2.2.2.2.1 t.2.2.2.2.2.2.2.2.2.2.2.2.2.2.2.2.1 t.2.2.2.2.2.2.2.2.2.2.2.2.2.2.2.2.2 b l L of = some true := by
 unfold f_4
 refine (bindP _ _ _ (tgive_at29 t hzL hF)).trans ?_
 obtain ⟨g, hg, hB⟩ := tbig_at29 (N := F) t (by omega)
 refine (bindP _ _ _ hg).trans ?_
 cases g with
 | true => exact sure_some hs
 | false =>
  have h := (hB rfl).fit ha hl
  simp only [cond_false]
  by_cases c1 : ((L.length : Int) > 40)
  ·rw [decide_eq_true c1]; exact sure_some hs
  rw [decide_eq_false c1]
  simp only [cond_false]
  refine (bindP _ _ _ (tchkT_at h3 h)).trans ?_
  cases hm : mayTT t with
  | false => exact sure_some hs
  | true =>
   have hM := mayTT_ok hm
   simp only [cond_true, Option.isNone_none, Bool.not_true, cond_false]
   by_cases c2 : t.2.2.1 = 0
   ·rw [show ((t.2.2.1) == 0) = true by simpa using c2]; exact sure_some hs
   rw [show ((t.2.2.1) == 0) = false by simpa using c2]
   simp only [cond_false]
   generalize of.getD (Int.toNat 0) 0 = p0 at o0 ⊢
   generalize of.getD (Int.toNat 1) 0 = p1 at o1 ⊢
   generalize of.getD (Int.toNat 2) 0 = p2
   by_cases c3 : p1 < 0
   ·rw [decide_eq_true c3]; exact sure_some hs
   rw [decide_eq_false c3]
   simp only [cond_false]
   by_cases c4 : p1 > 1152921504606846976
   ·rw [decide_eq_true c4]; exact sure_some hs
   rw [decide_eq_false c4, wi64 (n := 0 - p1) (by omega) (by omega)]
   simp only [cond_false]
   by_cases c5 : p2 < 0 - p1
   ·rw [decide_eq_true c5]; exact sure_some hs
   rw [decide_eq_false c5]
   simp only [cond_false]
   by_cases c6 : p2 > p1
   ·rw [decide_eq_true c6]; exact sure_some hs
   rw [decide_eq_false c6]
   simp only [cond_false]
   by_cases c7 : p0 < -2305843009213693952
   ·rw [decide_eq_true c7]; exact sure_some hs
   rw [decide_eq_false c7]
   simp only [cond_false]
   by_cases c8 : p0 > 2305843009213693952
   ·rw [decide_eq_true c8]; exact sure_some hs
   rw [decide_eq_false c8, wi64 (n := p0 + p2) (by omega) (by omega)]
   simp only [cond_false]
   refine (bindP _ _ _ (tread_at h3 h hk (L := L) (by omega) (tai := p0) (off := p1) o0 o1)).trans ?_
   refine (bindP _ _ _ (ttrue_at h3 h (L := L) (by omega) (tai := p0 + p2) ⟨by omega, by omega⟩)).trans ?_
   have r1 := fun e h => readD_some (t := t) (b := b) (l := l) (L := L) (tai := p0) (off := p1) (e := e) h
   have r2 := fun h => readD_none (t := t) (b := b) (l := l) (L := L) (tai := p0) (off := p1) h
   generalize hR : readD t b l L p0 p1 = R at r1 r2 ⊢
   generalize hV : trueD t b l L (p0 + p2) = V
   obtain ⟨R1, R2, e⟩ := R
   obtain ⟨v, f⟩ := V
   cases e with
   | some e =>
    have r1 := r1 e rfl
    simp only at r1
    subst r1
    simp only [Option.isNone_some, Bool.not_false, cond_true, cond_false, beq_self_eq_true, Bool.and_true]
    exact sure_some hs
   | none =>
    simp only [Option.isNone_none, Bool.not_true, cond_false]
    cases f with
    | some f => exact sure_some hs
    | none =>
     obtain ⟨_, h0, hon, hT, hC, hD⟩ := r2 rfl
     have hT' : (trueD t b l L (p0 + p2)).2 = none := by rw [hV]
     have hl1 := trueD_lip c2 hon hT hT' (off := p1) (by omega) (by omega)
     have hcv := coarseD_val hM hC
     rw [hV] at hl1
     simp only at hl1
     have hvr : R64 v := by have := trueD_rng hT'; rw [hV] at this; exact this
     have := told_off c2 hM hl h0 (by omega) (coarseD_rng hC) hvr hcv.1 hcv.2.1 hl1.1 hl1.2
     rw [← hD] at this
     simp only at this
     simp only [Option.isNone_none, Bool.not_true, cond_false]
     rw [decide_eq_true this.2.1, decide_eq_true this.2.2]
     exact sure_some hs
end Go.Proofs.YthpljlpokmoeeaaGreatDoor.Mir
namespace Go.Proofs.YthpljlpokmoeeaaGreatDoor
open Go Go.RowKit Mir
theorem laid_Q {w : World} (hL : LaidW w) : ∀ q ∈ Mir.laidL, w.cell? ⟨q.1, q.2.1, none⟩ = some q.2.2 := fun q hq => by
 obtain rfl := List.mem_singleton.1 hq
 exact hL
theorem by_int {n : Int} (hw : (Lit.int .u8 n).wf = true) : 0 ≤ n ∧ n < 256 := by
 have := wf_range hw
 have c0 : IntKind.u8.min = 0 := by decide
 have c1 : IntKind.u8.max = 255 := by decide
 omega
theorem len_ok' {n : Nat} (h : n * bySL [.int .i64, .int .i64, .str] ≤ reachBytes) : n ≤ 4398046511104 := by
 have h : n * 32 ≤ reachBytes := h
 have : reachBytes = 140737488351232 := by decide
 omega
theorem i64_ok {n : Int} (hw : (Lit.int .i64 n).wf = true) : -9223372036854775808 ≤ n ∧ n < 9223372036854775808 := by
 have := wf_range hw
 have c0 : IntKind.i64.min = -9223372036854775808 := by decide
 have c1 : IntKind.i64.max = 9223372036854775807 := by decide
 omega
theorem repL_arr {g : Gh} : ∀ {cs : List C} {vs : List Value}, RepL g cs vs → ∀ k n xs, C.arr k n xs ∈ cs → xs.length = n
 | [], _, _, _, _, _, h => by cases h
 | c :: cs, vs, hr, k, n, xs, h => by
  rcases List.mem_cons.1 h with rfl | hm
  ·simp only [RepL] at hr
   obtain ⟨r, h1, _⟩ := hr
   exact h1
  ·clear h
   cases c <;> (simp only [RepL] at hr; first | (obtain ⟨_, r, _, _, h3⟩ := hr; exact repL_arr h3 k n xs hm) | (obtain ⟨r, _, _, h3⟩ := hr; exact repL_arr h3 k n xs hm))
theorem repA_arr {g : Gh} {cs : List C} {v : Value} (h : RepA g (.agg cs) v) {k : IntKind} {n : Nat} {xs : List Int} (hm : C.arr k n xs ∈ cs) : xs.length = n := by
 simp only [RepA] at h
 obtain ⟨vs, _, h⟩ := h
 exact repL_arr h k n xs hm
end Go.Proofs.YthpljlpokmoeeaaGreatDoor
namespace Go.Proofs.YthpljlpokmoeeaaGreatDoor
open Go Go.RowKit Mir
abbrev tenSh : List Sh := [.str, .arr .u8 16, .int .i64, .int .i64, .int .i64, .int .i64, .int .i64, .int .i64, .bool, .str, .int .i64, .sl [.int .i64, .int .i64, .str], .bool, .int .i64, .int .i64, .bool, .int .i64, .int .i64]
abbrev tabSh : List Sh := [.int .i64, .int .i64, .sl [.int .i64]]
structure TArg (t : TenT) : Prop where
 key : TKey t
 ta : R64 (t.2.2.2.2.2.2.2.2.2.2.2.2.2.1)
 tl : R64 (t.2.2.2.2.2.2.2.2.2.2.2.2.2.2.2.2.1)
 zL : (t.2.2.2.2.2.2.2.2.2.2.2.1).length ≤ 4398046511104
theorem targ_ok {w : World} {y : TL tenSh} (k : OkL _ y) {v : Value} (e : RepA (gW w) (.agg (encL _ y)) v) : TArg y := by
 obtain ⟨t1, key, t3, t4, t5, t6, t7, t8, t9, t10, t11, L, t13, t14, t15, t16, t17, t18⟩ := y
 have hk := repA_arr e (k := .u8) (n := 16) (xs := key) (by simp [encL, encS])
 simp only [OkL, OkS] at k
 obtain ⟨_, hkey, _, _, _, _, _, _, _, _, _, hL, _, h14, _, _, h17, _⟩ := k
 exact ⟨⟨hk, fun x hx => by_int (hkey x hx)⟩, i64_ok h14, i64_ok h17, len_ok' hL.2.1⟩
end Go.Proofs.YthpljlpokmoeeaaGreatDoor
namespace Go.Proofs.YthpljlpokmoeeaaGreatDoor
open Go Go.RowKit Mir
theorem arr_r64 {xs : List Int} (h : ∀ x ∈ xs, (Lit.int .i64 x).wf = true) (i : Nat) : R64 (xs.getD i 0) := by
 rw [List.getD_eq_getElem?_getD]
 cases hg : xs[i]? with
 | none => exact ⟨by decide, by decide⟩
 | some x => exact i64_ok (h x (List.mem_of_getElem? hg))
set_option maxRecDepth 100000 in
theorem law_TenantHolds_row (w : World) (hL : LaidW w) {v0 v1 v2 : Value} {y0 : TL tenSh} (k0 : OkL _ y0) (e0 : RepA (gW w) (.agg (encL _ y0)) v0) {y1 : TL tabSh} (_ : OkL _ y1) (e1 : RepA (gW w) (.agg (encL _ y1)) v1)
  {y2 : TL [.arr .i64 3]} (k2 : OkL _ y2) (e2 : RepA (gW w) (.agg (encL [.arr .i64 3] y2)) v2) :
  Calls Tryz.prog 4 #[v0, v1, v2] w fun e w' => e = .returned (.bool true) ∧ Below w.heap.size w w' := by
 have a0 := targ_ok k0 e0
 obtain ⟨b, l, L⟩ := y1
 simp only [OkL, OkS] at k2
 have hh := tholds_holds (List.length (α := Rul) (y0.2.2.2.2.2.2.2.2.2.2.2.1) + 3000) a0.key a0.ta a0.tl b l L y2 (arr_r64 k2 _) (arr_r64 k2 _) (arr_r64 k2 _) a0.zL (show List.length (α := Rul) (y0.2.2.2.2.2.2.2.2.2.2.2.1) < _ by omega) (by omega) (tlsure_at _)
 generalize List.length (α := Rul) (y0.2.2.2.2.2.2.2.2.2.2.2.1) = m at hh
 have hr : (S_4 (m + 3000)).run [.agg (encL tenSh y0), .agg (encL tabSh (b, l, L)), .agg (encL [.arr .i64 3] y2)] [] = f_4 (m + 3000) y0.1 y0.2.1 y0.2.2.1 y0.2.2.2.1 y0.2.2.2.2.1 y0.2.2.2.2.2.1 y0.2.2.2.2.2.2.1 y0.2.2.2.2.2.2.2.1 y0.2.2.2.2.2.2.2.2.1 y0.2.2.2.2.2.2.2.2.2.1 y0.2.2.2.2.2.2.2.2.2.2.1 y0.2.2.2.2.2.2.2.2.2.2.2.1 y0.2.2.2.2.2.2.2.2.2.2.2.2.1 y0.2.2.2.2.2.2.2.2.2.2.2.2.2.1 y0.2.2.2.2.2.2.2.2.2.2.2.2.2.2.1 y0.2.2.2.2.2.2.2.2.2.2.2.2.2.2.2.1 y0.2.2.2.2.2.2.2.2.2.2.2.2.2.2.2.2.1 y0.2.2.2.2.2.2.2.2.2.2.2.2.2.2.2.2.2 b l L y2 := by kernel_rfl
 have ho : ((S_4 (m + 3000)).out [.agg (encL tenSh y0), .agg (encL tabSh (b, l, L)), .agg (encL [.arr .i64 3] y2)] [] true).1 = .a (.one (Mir.boolC true)) := by kernel_rfl
 exact calls_open (vs := [v0, v1, v2]) (s_4 (m + 3000)) (by kernel_rfl) Tryz.func4 (by kernel_rfl) (by kernel_rfl) (hr.trans hh)
  ⟨v0, _, rfl, e0, v1, _, rfl, e1, v2, _, rfl, e2, rfl⟩ (laid_Q hL) (fun g x h => by rw [ho] at h; exact h)
end Go.Proofs.YthpljlpokmoeeaaGreatDoor
namespace Go.Proofs.YthpljlpokmoeeaaGreatDoor
open Go.ChangeShapes Go.WideShapes Go.ChangeAt Go.RowKit
open Go.ChangeMaps (open_string shut_string)
set_option maxRecDepth 100000 in
theorem tenantHolds_lifted (os : Os) (started : os.Started) (H : Type) (enc : TypeId × Value → H) :
  ReturnsInHanded {} Tryz.checked os 4 .any (fun w args => (Rows.tenantHoldsSpec.pre enc Tryz.prog Tryz.f4 [] false w args ∧ laidMetH Tryz.prog laidU w) ∧ sizedMet enc Tryz.prog Tryz.f4 (OpenSpec.ofChange Rows.tenantHoldsSpec) false w args)
   (Rows.tenantHoldsSpec.post enc Tryz.prog Tryz.f4 false true false false) := by
 refine returnsInHanded_of_change_and (C := Tryz.checked) (X := fun w _ => laidMetH Tryz.prog laidU w) (fun _ _ _ hh h => h.of_heap hh) Tryz.own started (by kernel_rfl) Tryz.func4
  (ChangeSpec.witness_at (enc := enc) (C := Tryz.checked) (os := os) (X := fun w _ => laidMetH Tryz.prog laidU w) false (laidWorldU os) #[.agg #[.string ByteArray.empty, .int .u8 0, .int .u8 0, .int .u8 0, .int .u8 0, .int .u8 0, .int .u8 0, .int .u8 0, .int .u8 0, .int .u8 0, .int .u8 0, .int .u8 0, .int .u8 0, .int .u8 0, .int .u8 0, .int .u8 0, .int .u8 0, .int .i64 0, .int .i64 0, .int .i64 0, .int .i64 0, .int .i64 0, .int .i64 0, .bool false, .string ByteArray.empty, .int .i64 0, .slice none 0 0, .bool false, .int .i64 0, .int .i64 0, .bool false, .int .i64 0, .int .i64 0], .agg #[.int .i64 0, .int .i64 0, .slice none 0 0], .agg #[.int .i64 0, .int .i64 0, .int .i64 0]] 8 rfl (by kernel_rfl) (by kernel_rfl) (by kernel_rfl) (by kernel_rfl) (by kernel_rfl) (laidWorldU_met os _)) ?_
 intro W base args ds gs before hval0 hW _ hsz0 hL _
 have hval : ∀ (j : Nat) t v, Tryz.f4.params[j]? = some t → args[j]? = some v → Value.okWide Tryz.prog W .any base t v := hval0
 have hW' := hW
 have hsz : (DataW.weightsEach Tryz.prog (Tryz.f4.params.toList ++ (Rows.tenantHoldsSpec).plain.varTypes Tryz.prog) (ds ++ gs)).all (· ≤ reachBytes) = true := hsz0
 obtain ⟨p, q, hA0, hV, rfl, hfz, hnd⟩ := hW
 have hA : DataW.TrodAll enc Tryz.prog W 0 (fun _ => true) true Tryz.f4.params.toList args.toList ds p := hA0
 have hA1 := hA
 rw [Tryz.params4] at hA hval hsz
 obtain ⟨v0, vs0, d0, ds0, p0, q0, hargs, rfl, rfl, h0, r0⟩ := trodAll_cons hA
 obtain ⟨v1, vs1, d1, ds1, p1, q1, rfl, rfl, rfl, h1, r1⟩ := trodAll_cons r0
 obtain ⟨v2, vs2, d2, ds2, p2, q2, rfl, rfl, rfl, h2, r2⟩ := trodAll_cons r1
 obtain ⟨rfl, rfl, rfl⟩ := trodAll_nil r2
 obtain rfl : args = #[v0, v1, v2] := by cases args; simp_all
 obtain ⟨rfl, rfl⟩ := trodVars_none hV
 have hstay := fun (W' : World) (bel : Below W.heap.size W W') => trodAll_stays Tryz.laidOut bel (by rw [Tryz.params4]; simp only [List.mem_cons, List.not_mem_nil, or_false]; rintro t (rfl | rfl | rfl) <;> exact ⟨by kernel_rfl, of_decide_eq_true (by kernel_rfl)⟩) hA1
 obtain ⟨y0, k0, e0⟩ := Mir.open_agg (l := [.str, .arr .u8 16, .int .i64, .int .i64, .int .i64, .int .i64, .int .i64, .int .i64, .bool, .str, .int .i64, .sl [.int .i64, .int .i64, .str], .bool, .int .i64, .int .i64, .bool, .int .i64, .int .i64]) (by kernel_rfl) (by kernel_rfl) (hval 0 77 v0 rfl rfl) h0 (Mir.wok_each hsz 0 _ _ rfl rfl)
 obtain ⟨y1, k1, e1⟩ := Mir.open_agg (l := [.int .i64, .int .i64, .sl [.int .i64]]) (by kernel_rfl) (by kernel_rfl) (hval 1 80 v1 rfl rfl) h1 (Mir.wok_each hsz 1 _ _ rfl rfl)
 obtain ⟨y2, k2, e2⟩ := Mir.open_agg (l := [.arr .i64 3]) (by kernel_rfl) (by kernel_rfl) (hval 2 36 v2 rfl rfl) h2 (Mir.wok_each hsz 2 _ _ rfl rfl)
 refine (law_TenantHolds_row W (laid_of (laidU_of hL)) k0 e0 k1 e1 k2 e2).mono fun e W' ⟨he, bel⟩ => ?_
 subst he
 exact ⟨_, rfl, _, _, _, [], _, [], hW', trodAll_mk1 (shut_bool Tryz.underlying4 _), hstay W' bel, rfl, bel.frame _, fun h => by cases h⟩
theorem tenantHolds_over : Rows.TenantHoldsSaid :=
 OpenClaim.holds_of_wide 4 Tryz.f4 rfl rfl rfl rfl rfl rfl rfl ⟨rfl, rfl, rfl, rfl, rfl⟩ rfl rfl rfl rfl rfl (by kernel_rfl) Tryz.func4 (by kernel_rfl)
  (of_decide_eq_true (by kernel_rfl)) (by unfold Func.isWrapper; first | (rw [if_pos (by decide +kernel)]; kernel_rfl) | (rw [if_neg (by decide +kernel)]; exact ⟨rfl, rfl⟩))
  (fun os started H enc _ => tenantHolds_lifted os started H enc)
theorem tenantHolds_holds : Rows.TenantHoldsCardSaid :=
 Claim7.holds_tied_plain_at .later [] [.data, .handle, .pinned] true Rows.tenantHoldsCard.stood.harness true
  tenantHolds_over (fun _ h => by cases h) (by kernel_rfl) (fun _ h => by cases h) tenantHolds_row_tie rfl ⟨rfl, rfl⟩ (by kernel_rfl) rfl
  (fun f fn hf hfn => by
   obtain rfl : f = 4 := Option.some.inj ((show Tryz.prog.funcNamed Rows.tenantHoldsRow.func = some 4 by kernel_rfl).symm.trans hf) |>.symm
   obtain rfl : fn = Tryz.f4 := (Option.some.inj (Tryz.func4.symm.trans hfn)).symm
   exact ⟨by kernel_rfl, fun j t ht => by
    rw [Tryz.params4] at ht
    rcases j with _ | j
    ·obtain rfl := Option.some.inj ht; kernel_rfl
    rcases j with _ | j
    ·obtain rfl := Option.some.inj ht; kernel_rfl
    rcases j with _ | j
    ·obtain rfl := Option.some.inj ht; kernel_rfl
    ·simp at ht⟩)
  (by kernel_rfl)
#print axioms tenantHolds_holds
end Go.Proofs.YthpljlpokmoeeaaGreatDoor
