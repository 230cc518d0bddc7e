/- The statement DaytimeBack of the given program: for every input the law answers true, and its arguments read as before. Its one listed variable (errors.errorType) is tied to the program's text by the given tie. -/
import Derived.Test.YtgkanacfffilmaaGreatDoorKKVfe
import Derived.Test.YtgkanacfffilmaaGreatDoorKx9d822b
import Derived.Test.YtgkanacfffilmaaGreatDoorTie
import Derived.Test.YtgkanacfffilmaaGreatDoorCards
import Derived.SevenTiedAt
namespace Go.Proofs.YtgkanacfffilmaaGreatDoor
open Go.ChangeShapes Go.WideShapes Go.ChangeAt Go.RowKit
open Go.ChangeMaps (open_string shut_string)
set_option maxRecDepth 100000 in
theorem daytimeBack_lifted (os : Os) (started : os.Started) (H : Type) (enc : TypeId × Value → H) :
  ReturnsInHanded {} Tryz.checked os 8 .any (fun w args => (Rows.daytimeBackSpec.pre enc Tryz.prog Tryz.f8 [] false w args ∧ laidMetH Tryz.prog laidC w) ∧ sizedMet enc Tryz.prog Tryz.f8 (OpenSpec.ofChange Rows.daytimeBackSpec) false w args)
   (Rows.daytimeBackSpec.post enc Tryz.prog Tryz.f8 false true false false) := by
 refine handed_and_shaped (C := Tryz.checked) (X := fun w _ => laidMetH Tryz.prog laidC w) (fun _ _ _ hh h => h.of_heap hh) Tryz.own started (by kernel_rfl) Tryz.func8
  (ChangeSpec.witness_at (enc := enc) (C := Tryz.checked) (os := os) (X := fun w _ => laidMetH Tryz.prog laidC w) false (laidWorldC os) #[.agg #[.int .i64 0, .int .i64 0, .int .i64 0], .agg #[.int .i64 0, .int .i64 0, .int .i64 0]] 8 rfl (by kernel_rfl) (by kernel_rfl) (by kernel_rfl) (by kernel_rfl) (by kernel_rfl) (laidWorldC_met os _)) ?_
 intro W base args ds gs before hval0 hW _ hsz0 hL hshL _
 obtain ⟨qL, hcL, hwL⟩ := rowC hshL hL
 have hval : ∀ (j : Nat) t v, Tryz.f8.params[j]? = some t → args[j]? = some v → Value.okWide Tryz.prog W .any base t v := hval0
 have hW' := hW
 have hsz : (DataW.weightsEach Tryz.prog (Tryz.f8.params.toList ++ (Rows.daytimeBackSpec).plain.varTypes Tryz.prog) (ds ++ gs)).all (· ≤ reachBytes) = true := hsz0
 obtain ⟨p, q, hA0, hV, rfl, hfz, hnd⟩ := hW
 have hA : DataW.TrodAll enc Tryz.prog W 0 (fun _ => true) true Tryz.f8.params.toList args.toList ds p := hA0
 have hA1 := hA
 rw [Tryz.params8] at hA hval hsz
 obtain ⟨v0, vs0, d0, ds0, p0, q0, hargs, rfl, rfl, h0, r0⟩ := trodAll_cons hA
 obtain ⟨v1, vs1, d1, ds1, p1, q1, rfl, rfl, rfl, h1, r1⟩ := trodAll_cons r0
 obtain ⟨rfl, rfl, rfl⟩ := trodAll_nil r1
 obtain rfl : args = #[v0, v1] := by cases args; simp_all
 obtain ⟨rfl, rfl⟩ := trodVars_none hV
 have hstay := fun (W' : World) (bel : Below W.heap.size W W') => trodAll_stays Tryz.laidOut bel (by rw [Tryz.params8]; simp only [List.mem_cons, List.not_mem_nil, or_false]; rintro t (rfl | rfl) <;> exact ⟨by kernel_rfl, of_decide_eq_true (by kernel_rfl)⟩) hA1
 obtain ⟨y0, k0, e0⟩ := Mir.open_agg (l := [.arr .i64 3]) (by kernel_rfl) (by kernel_rfl) (hval 0 67 v0 rfl rfl) h0 (Mir.wok_each hsz 0 _ _ rfl rfl)
 obtain ⟨y1, k1, e1⟩ := Mir.open_agg (l := [.arr .i64 3]) (by kernel_rfl) (by kernel_rfl) (hval 1 67 v1 rfl rfl) h1 (Mir.wok_each hsz 1 _ _ rfl rfl)
 refine (law_DaytimeBack_row W hcL hwL k0 e0 k1 e1).mono fun e W' ⟨he, bel⟩ => ?_
 subst he
 exact ⟨_, rfl, _, _, _, [], _, [], hW', trodAll_mk1 (shut_bool Tryz.underlying4 _), hstay W' bel, rfl, bel.frame _, fun h => by cases h⟩
theorem daytimeBack_over : Rows.DaytimeBackSaid :=
 OpenClaim.holds_of_wide 8 Tryz.f8 rfl rfl rfl rfl rfl rfl rfl ⟨rfl, rfl, rfl, rfl, rfl⟩ rfl rfl rfl rfl rfl (by kernel_rfl) Tryz.func8 (by kernel_rfl)
  (of_decide_eq_true (by kernel_rfl)) (by unfold Func.isWrapper; first | (rw [if_pos (by decide +kernel)]; kernel_rfl) | (rw [if_neg (by decide +kernel)]; exact ⟨rfl, rfl⟩))
  (fun os started H enc _ => daytimeBack_lifted os started H enc)
theorem daytimeBack_holds : Rows.DaytimeBackCardSaid :=
 Claim7.holds_tied_plain_at .later [] [.data, .data, .data, .data, .handle, .sentinel, .sentinel, .pinned] true Rows.daytimeBackCard.stood.harness true
  daytimeBack_over (fun _ h => by cases h) (by kernel_rfl) (fun _ h => by cases h) daytimeBack_row_tie rfl ⟨rfl, rfl⟩ (by kernel_rfl) rfl
  (fun f fn hf hfn => by
   obtain rfl : f = 8 := Option.some.inj ((show Tryz.prog.funcNamed Rows.daytimeBackRow.func = some 8 by kernel_rfl).symm.trans hf) |>.symm
   obtain rfl : fn = Tryz.f8 := (Option.some.inj (Tryz.func8.symm.trans hfn)).symm
   exact ⟨by kernel_rfl, fun j t ht => by
    rw [Tryz.params8] at ht
    rcases j with _ | j
    ·obtain rfl := Option.some.inj ht; kernel_rfl
    rcases j with _ | j
    ·obtain rfl := Option.some.inj ht; kernel_rfl
    ·simp at ht⟩)
  (by kernel_rfl)
#print axioms daytimeBack_holds
end Go.Proofs.YtgkanacfffilmaaGreatDoor
