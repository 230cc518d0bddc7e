/- The statement ToldBack of the given program: for every input the law answers true, and its arguments read as before. Its one listed variable (errors.errorType) is tied to the program's text by the given tie. -/
import Derived.Test.YthbhbfnnagaclaaGreatDoorKKVge
import Derived.Test.YthbhbfnnagaclaaGreatDoorKx8ebff2
import Derived.Test.YthbhbfnnagaclaaGreatDoorTie
import Derived.Test.YthbhbfnnagaclaaGreatDoorCards
import Derived.SevenTiedAt
namespace Go.Proofs.YthbhbfnnagaclaaGreatDoor
open Go.ChangeShapes Go.WideShapes Go.ChangeAt Go.RowKit
open Go.ChangeMaps (open_string shut_string)
set_option maxRecDepth 100000 in
theorem toldBack_lifted (os : Os) (started : os.Started) (H : Type) (enc : TypeId × Value → H) :
  ReturnsInHanded {} Tryz.checked os 4 .any (fun w args => (Rows.toldBackSpec.pre enc Tryz.prog Tryz.f4 [] false w args ∧ laidMetH Tryz.prog laidC w) ∧ sizedMet enc Tryz.prog Tryz.f4 (OpenSpec.ofChange Rows.toldBackSpec) false w args)
   (Rows.toldBackSpec.post enc Tryz.prog Tryz.f4 false true false false) := by
 refine handed_and_shaped (C := Tryz.checked) (X := fun w _ => laidMetH Tryz.prog laidC w) (fun _ _ _ hh h => h.of_heap hh) Tryz.own started (by kernel_rfl) Tryz.func4
  (ChangeSpec.witness_at (enc := enc) (C := Tryz.checked) (os := os) (X := fun w _ => laidMetH Tryz.prog laidC w) false (laidWorldC os) #[.agg #[.int .i64 0, .int .i64 0], .int .i64 0, .int .i64 0] 8 rfl (by kernel_rfl) (by kernel_rfl) (by kernel_rfl) (by kernel_rfl) (by kernel_rfl) (laidWorldC_met os _)) ?_
 intro W base args ds gs before hval0 hW _ hsz0 hL hshL _
 obtain ⟨qL, hcL, hwL⟩ := rowC hshL hL
 have hval : ∀ (j : Nat) t v, Tryz.f4.params[j]? = some t → args[j]? = some v → Value.okWide Tryz.prog W .any base t v := hval0
 have hW' := hW
 have hsz : (DataW.weightsEach Tryz.prog (Tryz.f4.params.toList ++ (Rows.toldBackSpec).plain.varTypes Tryz.prog) (ds ++ gs)).all (· ≤ reachBytes) = true := hsz0
 obtain ⟨p, q, hA0, hV, rfl, hfz, hnd⟩ := hW
 have hA : DataW.TrodAll enc Tryz.prog W 0 (fun _ => true) true Tryz.f4.params.toList args.toList ds p := hA0
 have hA1 := hA
 rw [Tryz.params4] at hA hval hsz
 obtain ⟨v0, vs0, d0, ds0, p0, q0, hargs, rfl, rfl, h0, r0⟩ := trodAll_cons hA
 obtain ⟨v1, vs1, d1, ds1, p1, q1, rfl, rfl, rfl, h1, r1⟩ := trodAll_cons r0
 obtain ⟨v2, vs2, d2, ds2, p2, q2, rfl, rfl, rfl, h2, r2⟩ := trodAll_cons r1
 obtain ⟨rfl, rfl, rfl⟩ := trodAll_nil r2
 obtain rfl : args = #[v0, v1, v2] := by cases args; simp_all
 obtain ⟨rfl, rfl⟩ := trodVars_none hV
 have hstay := fun (W' : World) (bel : Below W.heap.size W W') => trodAll_stays Tryz.laidOut bel (by rw [Tryz.params4]; simp only [List.mem_cons, List.not_mem_nil, or_false]; rintro t (rfl | rfl | rfl) <;> exact ⟨by kernel_rfl, of_decide_eq_true (by kernel_rfl)⟩) hA1
 obtain ⟨y0, k0, e0⟩ := Mir.open_agg (l := [.int .i64, .int .i64]) (by kernel_rfl) (by kernel_rfl) (hval 0 23 v0 rfl rfl) h0 (Mir.wok_each hsz 0 _ _ rfl rfl)
 obtain ⟨y1, k1, e1⟩ := Mir.open_cell (s := .int .i64) (by kernel_rfl) (by kernel_rfl) (fun _ _ h => by cases h) (hval 1 2 v1 rfl rfl) h1 (Mir.wok_each hsz 1 _ _ rfl rfl)
 obtain ⟨y2, k2, e2⟩ := Mir.open_cell (s := .int .i64) (by kernel_rfl) (by kernel_rfl) (fun _ _ h => by cases h) (hval 2 2 v2 rfl rfl) h2 (Mir.wok_each hsz 2 _ _ rfl rfl)
 refine (law_ToldBack_row W hcL hwL k0 e0 k1 e1 k2 e2).mono fun e W' ⟨he, bel⟩ => ?_
 subst he
 exact ⟨_, rfl, _, _, _, [], _, [], hW', trodAll_mk1 (shut_bool Tryz.underlying4 _), hstay W' bel, rfl, bel.frame _, fun h => by cases h⟩
theorem toldBack_over : Rows.ToldBackSaid :=
 OpenClaim.holds_of_wide 4 Tryz.f4 rfl rfl rfl rfl rfl rfl rfl ⟨rfl, rfl, rfl, rfl, rfl⟩ rfl rfl rfl rfl rfl (by kernel_rfl) Tryz.func4 (by kernel_rfl)
  (of_decide_eq_true (by kernel_rfl)) (by unfold Func.isWrapper; first | (rw [if_pos (by decide +kernel)]; kernel_rfl) | (rw [if_neg (by decide +kernel)]; exact ⟨rfl, rfl⟩))
  (fun os started H enc _ => toldBack_lifted os started H enc)
theorem toldBack_holds : Rows.ToldBackCardSaid :=
 Claim7.holds_tied_plain_at .later [] [.data, .data, .data, .data, .handle, .sentinel, .sentinel, .pinned] true Rows.toldBackCard.stood.harness true
  toldBack_over (fun _ h => by cases h) (by kernel_rfl) (fun _ h => by cases h) toldBack_row_tie rfl ⟨rfl, rfl⟩ (by kernel_rfl) rfl
  (fun f fn hf hfn => by
   obtain rfl : f = 4 := Option.some.inj ((show Tryz.prog.funcNamed Rows.toldBackRow.func = some 4 by kernel_rfl).symm.trans hf) |>.symm
   obtain rfl : fn = Tryz.f4 := (Option.some.inj (Tryz.func4.symm.trans hfn)).symm
   exact ⟨by kernel_rfl, fun j t ht => by
    rw [Tryz.params4] at ht
    rcases j with _ | j
    ·obtain rfl := Option.some.inj ht; kernel_rfl
    rcases j with _ | j
    ·obtain rfl := Option.some.inj ht; kernel_rfl
    rcases j with _ | j
    ·obtain rfl := Option.some.inj ht; kernel_rfl
    ·simp at ht⟩)
  (by kernel_rfl)
#print axioms toldBack_holds
end Go.Proofs.YthbhbfnnagaclaaGreatDoor
