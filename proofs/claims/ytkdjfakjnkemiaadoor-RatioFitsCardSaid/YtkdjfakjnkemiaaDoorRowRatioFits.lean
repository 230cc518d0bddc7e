/- The statement RatioFits of the given program: for every input the law answers true, and its arguments read as before. Its one listed variable (errors.errorType) is tied to the program's text by the given tie. -/
import Derived.Test.YtkdjfakjnkemiaaDoorLawRatioFits
import Derived.Test.YtkdjfakjnkemiaaDoorRow
import Derived.Test.YtkdjfakjnkemiaaDoorTie
import Derived.Test.YtkdjfakjnkemiaaDoorCards
import Derived.SevenTiedAt
namespace Go.Proofs.YtkdjfakjnkemiaaDoor
open Go.ChangeShapes Go.WideShapes Go.ChangeAt Go.RowKit
open Go.ChangeMaps (open_string shut_string)
set_option maxRecDepth 100000 in
theorem ratioFits_lifted (os : Os) (started : os.Started) (H : Type) (enc : TypeId × Value → H) :
    ReturnsInHanded {} Tryd.checked os 10 .any (fun w args => (Rows.ratioFitsSpec.pre enc Tryd.prog Tryd.f10 [] false w args ∧ laidMetH Tryd.prog laidL w) ∧ sizedMet enc Tryd.prog Tryd.f10 (OpenSpec.ofChange Rows.ratioFitsSpec) false w args)
      (Rows.ratioFitsSpec.post enc Tryd.prog Tryd.f10 false true false false) := by
  refine returnsInHanded_of_change_and (C := Tryd.checked) (X := fun w _ => laidMetH Tryd.prog laidL w) (fun _ _ _ hh h => h.of_heap hh) Tryd.own started (by kernel_rfl) Tryd.func10
    (ChangeSpec.witness_at (enc := enc) (C := Tryd.checked) (os := os) (X := fun w _ => laidMetH Tryd.prog laidL w) false (laidWorld os) #[.int .u64 0, .int .u64 0, .agg #[.int .u32 0, .int .i64 0, .int .i64 0, .int .i64 0]] 8 rfl (by kernel_rfl) (by kernel_rfl) (by kernel_rfl) (by kernel_rfl) (by kernel_rfl) (laidWorld_met os _)) ?_
  intro W base args ds gs before hval0 hW _ _ hL _
  have hval : ∀ (j : Nat) t v, Tryd.f10.params[j]? = some t → args[j]? = some v → Value.okWide Tryd.prog W .any base t v := hval0
  have hW' := hW
  obtain ⟨p, q, hA0, hV, rfl, hfz, hnd⟩ := hW
  have hA : DataW.TrodAll enc Tryd.prog W 0 (fun _ => true) true Tryd.f10.params.toList args.toList ds p := hA0
  have hA1 := hA
  rw [Tryd.params10] at hA hval
  obtain ⟨v0, vs0, d0, ds0, p0, q0, hargs, rfl, rfl, h0, r0⟩ := trodAll_cons hA
  obtain ⟨v1, vs1, d1, ds1, p1, q1, rfl, rfl, rfl, h1, r1⟩ := trodAll_cons r0
  obtain ⟨v2, vs2, d2, ds2, p2, q2, rfl, rfl, rfl, h2, r2⟩ := trodAll_cons r1
  obtain ⟨rfl, rfl, rfl⟩ := trodAll_nil r2
  obtain rfl : args = #[v0, v1, v2] := by cases args; simp_all
  obtain ⟨rfl, rfl⟩ := trodVars_none hV
  have hstay := fun (W' : World) (bel : Below W.heap.size W W') => trodAll_stays Tryd.laidOut bel (by rw [Tryd.params10]; simp only [List.mem_cons, List.not_mem_nil, or_false]; rintro t (rfl | rfl | rfl) <;> exact ⟨by kernel_rfl, of_decide_eq_true (by kernel_rfl)⟩) hA1
  obtain ⟨a0, rfl, -, -, w0⟩ := open_int Tryd.underlying61 (hval 0 61 v0 rfl rfl) h0
  obtain ⟨a1, rfl, -, -, w1⟩ := open_int Tryd.underlying61 (hval 1 61 v1 rfl rfl) h1
  obtain ⟨c2, rfl, l2⟩ := open_leaves (l := [86, 3, 2, 2]) (by kernel_rfl) (by first | exact .inl ⟨_, Tryd.underlying108⟩ | exact .inr ⟨_, _, Tryd.underlying108⟩) (hval 2 108 v2 rfl rfl) h2
  cases c2 with
  | nil => exact absurd l2 (fun h => h)
  | cons x2_0 t2_0 =>
  obtain ⟨g2_0, m2_0⟩ := l2
  obtain ⟨a2_0, rfl, w2_0⟩ := Reads1.int Tryd.underlying86 g2_0
  cases t2_0 with
  | nil => exact absurd m2_0 (fun h => h)
  | cons x2_1 t2_1 =>
  obtain ⟨g2_1, m2_1⟩ := m2_0
  obtain ⟨a2_1, rfl, w2_1⟩ := Reads1.int Tryd.underlying3 g2_1
  cases t2_1 with
  | nil => exact absurd m2_1 (fun h => h)
  | cons x2_2 t2_2 =>
  obtain ⟨g2_2, m2_2⟩ := m2_1
  obtain ⟨a2_2, rfl, w2_2⟩ := Reads1.int Tryd.underlying2 g2_2
  cases t2_2 with
  | nil => exact absurd m2_2 (fun h => h)
  | cons x2_3 t2_3 =>
  obtain ⟨g2_3, m2_3⟩ := m2_2
  obtain ⟨a2_3, rfl, w2_3⟩ := Reads1.int Tryd.underlying2 g2_3
  cases t2_3 with
  | cons _ _ => exact absurd m2_3 (fun h => h)
  | nil =>
  refine (law_RatioFits_row a0 a1 a2_0 a2_1 a2_2 a2_3 W (laid_of hL) w0 w1 w2_0 w2_1 w2_2 w2_3).mono fun e W' ⟨he, bel⟩ => ?_
  subst he
  exact ⟨_, rfl, _, _, _, [], _, [], hW', trodAll_mk1 (shut_bool Tryd.underlying4 _), hstay W' bel, rfl, bel.frame _, fun h => by cases h⟩
theorem ratioFits_over : Rows.RatioFitsSaid :=
  OpenClaim.holds_of_wide 10 Tryd.f10 rfl rfl rfl rfl rfl rfl rfl ⟨rfl, rfl, rfl, rfl, rfl⟩ rfl rfl rfl rfl rfl (by kernel_rfl) Tryd.func10 (by kernel_rfl)
    (of_decide_eq_true (by kernel_rfl)) (by unfold Func.isWrapper; first | (rw [if_pos (by decide +kernel)]; kernel_rfl) | (rw [if_neg (by decide +kernel)]; exact ⟨rfl, rfl⟩))
    (fun os started H enc _ => ratioFits_lifted os started H enc)
theorem ratioFits_holds : Rows.RatioFitsCardSaid :=
  Claim7.holds_tied_plain_at .later [] [.handle] true Rows.ratioFitsCard.stood.harness true
    ratioFits_over (fun _ h => by cases h) (by kernel_rfl) (fun _ h => by cases h) ratioFits_row_tie rfl ⟨rfl, rfl⟩ (by kernel_rfl) rfl
    (fun f fn hf hfn => by
      obtain rfl : f = 10 := Option.some.inj ((show Tryd.prog.funcNamed Rows.ratioFitsRow.func = some 10 by kernel_rfl).symm.trans hf) |>.symm
      obtain rfl : fn = Tryd.f10 := (Option.some.inj (Tryd.func10.symm.trans hfn)).symm
      exact ⟨by kernel_rfl, fun j t ht => by
        rw [Tryd.params10] at ht
        rcases j with _ | j
        · obtain rfl := Option.some.inj ht; kernel_rfl
        rcases j with _ | j
        · obtain rfl := Option.some.inj ht; kernel_rfl
        rcases j with _ | j
        · obtain rfl := Option.some.inj ht; kernel_rfl
        · simp at ht⟩)
    (by kernel_rfl)
#print axioms ratioFits_holds
end Go.Proofs.YtkdjfakjnkemiaaDoor
