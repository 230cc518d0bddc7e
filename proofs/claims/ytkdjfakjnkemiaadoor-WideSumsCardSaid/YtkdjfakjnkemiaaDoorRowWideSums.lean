/- The statement WideSums of the given program: for every input the law answers true, and its arguments read as before. Its one listed variable (errors.errorType) is tied to the program's text by the given tie. -/
import Derived.Test.YtkdjfakjnkemiaaDoorLawWideSums
import Derived.Test.YtkdjfakjnkemiaaDoorRow
import Derived.Test.YtkdjfakjnkemiaaDoorTie
import Derived.Test.YtkdjfakjnkemiaaDoorCards
import Derived.SevenTiedAt
namespace Go.Proofs.YtkdjfakjnkemiaaDoor
open Go.ChangeShapes Go.WideShapes Go.ChangeAt Go.RowKit
open Go.ChangeMaps (open_string shut_string)
set_option maxRecDepth 100000 in
theorem wideSums_lifted (os : Os) (started : os.Started) (H : Type) (enc : TypeId × Value → H) :
    ReturnsInHanded {} Tryd.checked os 11 .any (fun w args => (Rows.wideSumsSpec.pre enc Tryd.prog Tryd.f11 [] false w args ∧ laidMetH Tryd.prog laidL w) ∧ sizedMet enc Tryd.prog Tryd.f11 (OpenSpec.ofChange Rows.wideSumsSpec) false w args)
      (Rows.wideSumsSpec.post enc Tryd.prog Tryd.f11 false true false false) := by
  refine returnsInHanded_of_change_and (C := Tryd.checked) (X := fun w _ => laidMetH Tryd.prog laidL w) (fun _ _ _ hh h => h.of_heap hh) Tryd.own started (by kernel_rfl) Tryd.func11
    (ChangeSpec.witness_at (enc := enc) (C := Tryd.checked) (os := os) (X := fun w _ => laidMetH Tryd.prog laidL w) false (laidWorld os) #[.agg #[.int .i64 0, .int .u64 0], .agg #[.int .i64 0, .int .u64 0], .agg #[.int .i64 0, .int .i64 0]] 8 rfl (by kernel_rfl) (by kernel_rfl) (by kernel_rfl) (by kernel_rfl) (by kernel_rfl) (laidWorld_met os _)) ?_
  intro W base args ds gs before hval0 hW _ _ hL _
  have hval : ∀ (j : Nat) t v, Tryd.f11.params[j]? = some t → args[j]? = some v → Value.okWide Tryd.prog W .any base t v := hval0
  have hW' := hW
  obtain ⟨p, q, hA0, hV, rfl, hfz, hnd⟩ := hW
  have hA : DataW.TrodAll enc Tryd.prog W 0 (fun _ => true) true Tryd.f11.params.toList args.toList ds p := hA0
  have hA1 := hA
  rw [Tryd.params11] at hA hval
  obtain ⟨v0, vs0, d0, ds0, p0, q0, hargs, rfl, rfl, h0, r0⟩ := trodAll_cons hA
  obtain ⟨v1, vs1, d1, ds1, p1, q1, rfl, rfl, rfl, h1, r1⟩ := trodAll_cons r0
  obtain ⟨v2, vs2, d2, ds2, p2, q2, rfl, rfl, rfl, h2, r2⟩ := trodAll_cons r1
  obtain ⟨rfl, rfl, rfl⟩ := trodAll_nil r2
  obtain rfl : args = #[v0, v1, v2] := by cases args; simp_all
  obtain ⟨rfl, rfl⟩ := trodVars_none hV
  have hstay := fun (W' : World) (bel : Below W.heap.size W W') => trodAll_stays Tryd.laidOut bel (by rw [Tryd.params11]; simp only [List.mem_cons, List.not_mem_nil, or_false]; rintro t (rfl | rfl | rfl) <;> exact ⟨by kernel_rfl, of_decide_eq_true (by kernel_rfl)⟩) hA1
  obtain ⟨c0, rfl, l0⟩ := open_leaves (l := [2, 61]) (by kernel_rfl) (by first | exact .inl ⟨_, Tryd.underlying63⟩ | exact .inr ⟨_, _, Tryd.underlying63⟩) (hval 0 63 v0 rfl rfl) h0
  cases c0 with
  | nil => exact absurd l0 (fun h => h)
  | cons x0_0 t0_0 =>
  obtain ⟨g0_0, m0_0⟩ := l0
  obtain ⟨a0_0, rfl, w0_0⟩ := Reads1.int Tryd.underlying2 g0_0
  cases t0_0 with
  | nil => exact absurd m0_0 (fun h => h)
  | cons x0_1 t0_1 =>
  obtain ⟨g0_1, m0_1⟩ := m0_0
  obtain ⟨a0_1, rfl, w0_1⟩ := Reads1.int Tryd.underlying61 g0_1
  cases t0_1 with
  | cons _ _ => exact absurd m0_1 (fun h => h)
  | nil =>
  obtain ⟨c1, rfl, l1⟩ := open_leaves (l := [2, 61]) (by kernel_rfl) (by first | exact .inl ⟨_, Tryd.underlying63⟩ | exact .inr ⟨_, _, Tryd.underlying63⟩) (hval 1 63 v1 rfl rfl) h1
  cases c1 with
  | nil => exact absurd l1 (fun h => h)
  | cons x1_0 t1_0 =>
  obtain ⟨g1_0, m1_0⟩ := l1
  obtain ⟨a1_0, rfl, w1_0⟩ := Reads1.int Tryd.underlying2 g1_0
  cases t1_0 with
  | nil => exact absurd m1_0 (fun h => h)
  | cons x1_1 t1_1 =>
  obtain ⟨g1_1, m1_1⟩ := m1_0
  obtain ⟨a1_1, rfl, w1_1⟩ := Reads1.int Tryd.underlying61 g1_1
  cases t1_1 with
  | cons _ _ => exact absurd m1_1 (fun h => h)
  | nil =>
  obtain ⟨c2, rfl, l2⟩ := open_leaves (l := [2, 2]) (by kernel_rfl) (by first | exact .inl ⟨_, Tryd.underlying103⟩ | exact .inr ⟨_, _, Tryd.underlying103⟩) (hval 2 103 v2 rfl rfl) h2
  cases c2 with
  | nil => exact absurd l2 (fun h => h)
  | cons x2_0 t2_0 =>
  obtain ⟨g2_0, m2_0⟩ := l2
  obtain ⟨a2_0, rfl, w2_0⟩ := Reads1.int Tryd.underlying2 g2_0
  cases t2_0 with
  | nil => exact absurd m2_0 (fun h => h)
  | cons x2_1 t2_1 =>
  obtain ⟨g2_1, m2_1⟩ := m2_0
  obtain ⟨a2_1, rfl, w2_1⟩ := Reads1.int Tryd.underlying2 g2_1
  cases t2_1 with
  | cons _ _ => exact absurd m2_1 (fun h => h)
  | nil =>
  refine (law_WideSums_row a0_0 a0_1 a1_0 a1_1 a2_0 a2_1 W (laid_of hL) w0_0 w0_1 w1_0 w1_1 w2_0 w2_1).mono fun e W' ⟨he, bel⟩ => ?_
  subst he
  exact ⟨_, rfl, _, _, _, [], _, [], hW', trodAll_mk1 (shut_bool Tryd.underlying4 _), hstay W' bel, rfl, bel.frame _, fun h => by cases h⟩
theorem wideSums_over : Rows.WideSumsSaid :=
  OpenClaim.holds_of_wide 11 Tryd.f11 rfl rfl rfl rfl rfl rfl rfl ⟨rfl, rfl, rfl, rfl, rfl⟩ rfl rfl rfl rfl rfl (by kernel_rfl) Tryd.func11 (by kernel_rfl)
    (of_decide_eq_true (by kernel_rfl)) (by unfold Func.isWrapper; first | (rw [if_pos (by decide +kernel)]; kernel_rfl) | (rw [if_neg (by decide +kernel)]; exact ⟨rfl, rfl⟩))
    (fun os started H enc _ => wideSums_lifted os started H enc)
theorem wideSums_holds : Rows.WideSumsCardSaid :=
  Claim7.holds_tied_plain_at .later [] [.handle] true Rows.wideSumsCard.stood.harness true
    wideSums_over (fun _ h => by cases h) (by kernel_rfl) (fun _ h => by cases h) wideSums_row_tie rfl ⟨rfl, rfl⟩ (by kernel_rfl) rfl
    (fun f fn hf hfn => by
      obtain rfl : f = 11 := Option.some.inj ((show Tryd.prog.funcNamed Rows.wideSumsRow.func = some 11 by kernel_rfl).symm.trans hf) |>.symm
      obtain rfl : fn = Tryd.f11 := (Option.some.inj (Tryd.func11.symm.trans hfn)).symm
      exact ⟨by kernel_rfl, fun j t ht => by
        rw [Tryd.params11] at ht
        rcases j with _ | j
        · obtain rfl := Option.some.inj ht; kernel_rfl
        rcases j with _ | j
        · obtain rfl := Option.some.inj ht; kernel_rfl
        rcases j with _ | j
        · obtain rfl := Option.some.inj ht; kernel_rfl
        · simp at ht⟩)
    (by kernel_rfl)
#print axioms wideSums_holds
end Go.Proofs.YtkdjfakjnkemiaaDoor
