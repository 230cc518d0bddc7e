/- The statement DaytimeStamps of the given program: for every input the law answers true, and its arguments read as before. Its one listed variable (errors.errorType) is tied to the program's text by the given tie. -/
import Derived.Test.YtgkanacfffilmaaGreatDoorKKVee
import Derived.Test.YtgkanacfffilmaaGreatDoorKx0f8347
import Derived.Test.YtgkanacfffilmaaGreatDoorTie
import Derived.Test.YtgkanacfffilmaaGreatDoorCards
import Derived.SevenTiedAt
namespace Go.Proofs.YtgkanacfffilmaaGreatDoor
open Go.ChangeShapes Go.WideShapes Go.ChangeAt Go.RowKit
open Go.ChangeMaps (open_string shut_string)
set_option maxRecDepth 100000 in
theorem daytimeStamps_lifted (os : Os) (started : os.Started) (H : Type) (enc : TypeId × Value → H) :
  ReturnsInHanded {} Tryz.checked os 7 .any (fun w args => (Rows.daytimeStampsSpec.pre enc Tryz.prog Tryz.f7 [] false w args ∧ laidMetH Tryz.prog laidC w) ∧ sizedMet enc Tryz.prog Tryz.f7 (OpenSpec.ofChange Rows.daytimeStampsSpec) false w args)
   (Rows.daytimeStampsSpec.post enc Tryz.prog Tryz.f7 false true false false) := by
 refine handed_and_shaped (C := Tryz.checked) (X := fun w _ => laidMetH Tryz.prog laidC w) (fun _ _ _ hh h => h.of_heap hh) Tryz.own started (by kernel_rfl) Tryz.func7
  (ChangeSpec.witness_at (enc := enc) (C := Tryz.checked) (os := os) (X := fun w _ => laidMetH Tryz.prog laidC w) false (laidWorldC os) #[.int .i64 0, .agg #[.int .i64 0, .int .i64 0], .string ByteArray.empty] 8 rfl (by kernel_rfl) (by kernel_rfl) (by kernel_rfl) (by kernel_rfl) (by kernel_rfl) (laidWorldC_met os _)) ?_
 intro W base args ds gs before hval0 hW _ hsz0 hL hshL _
 obtain ⟨qL, hcL, hwL⟩ := rowC hshL hL
 have hval : ∀ (j : Nat) t v, Tryz.f7.params[j]? = some t → args[j]? = some v → Value.okWide Tryz.prog W .any base t v := hval0
 have hW' := hW
 have hsz : (DataW.weightsEach Tryz.prog (Tryz.f7.params.toList ++ (Rows.daytimeStampsSpec).plain.varTypes Tryz.prog) (ds ++ gs)).all (· ≤ reachBytes) = true := hsz0
 obtain ⟨p, q, hA0, hV, rfl, hfz, hnd⟩ := hW
 have hA : DataW.TrodAll enc Tryz.prog W 0 (fun _ => true) true Tryz.f7.params.toList args.toList ds p := hA0
 have hA1 := hA
 rw [Tryz.params7] at hA hval hsz
 obtain ⟨v0, vs0, d0, ds0, p0, q0, hargs, rfl, rfl, h0, r0⟩ := trodAll_cons hA
 obtain ⟨v1, vs1, d1, ds1, p1, q1, rfl, rfl, rfl, h1, r1⟩ := trodAll_cons r0
 obtain ⟨v2, vs2, d2, ds2, p2, q2, rfl, rfl, rfl, h2, r2⟩ := trodAll_cons r1
 obtain ⟨rfl, rfl, rfl⟩ := trodAll_nil r2
 obtain rfl : args = #[v0, v1, v2] := by cases args; simp_all
 obtain ⟨rfl, rfl⟩ := trodVars_none hV
 have hstay := fun (W' : World) (bel : Below W.heap.size W W') => trodAll_stays Tryz.laidOut bel (by rw [Tryz.params7]; simp only [List.mem_cons, List.not_mem_nil, or_false]; rintro t (rfl | rfl | rfl) <;> exact ⟨by kernel_rfl, of_decide_eq_true (by kernel_rfl)⟩) hA1
 obtain ⟨y0, k0, e0⟩ := Mir.open_cell (s := .int .i64) (by kernel_rfl) (by kernel_rfl) (fun _ _ h => by cases h) (hval 0 2 v0 rfl rfl) h0 (Mir.wok_each hsz 0 _ _ rfl rfl)
 obtain ⟨y1, k1, e1⟩ := Mir.open_agg (l := [.arr .i64 2]) (by kernel_rfl) (by kernel_rfl) (hval 1 58 v1 rfl rfl) h1 (Mir.wok_each hsz 1 _ _ rfl rfl)
 obtain ⟨y2, k2, e2⟩ := Mir.open_cell (s := .str) (by kernel_rfl) (by kernel_rfl) (fun _ _ h => by cases h) (hval 2 9 v2 rfl rfl) h2 (Mir.wok_each hsz 2 _ _ rfl rfl)
 refine (law_DaytimeStamps_row W hcL hwL k0 e0 k1 e1 k2 e2).mono fun e W' ⟨he, bel⟩ => ?_
 subst he
 exact ⟨_, rfl, _, _, _, [], _, [], hW', trodAll_mk1 (shut_bool Tryz.underlying4 _), hstay W' bel, rfl, bel.frame _, fun h => by cases h⟩
theorem daytimeStamps_over : Rows.DaytimeStampsSaid :=
 OpenClaim.holds_of_wide 7 Tryz.f7 rfl rfl rfl rfl rfl rfl rfl ⟨rfl, rfl, rfl, rfl, rfl⟩ rfl rfl rfl rfl rfl (by kernel_rfl) Tryz.func7 (by kernel_rfl)
  (of_decide_eq_true (by kernel_rfl)) (by unfold Func.isWrapper; first | (rw [if_pos (by decide +kernel)]; kernel_rfl) | (rw [if_neg (by decide +kernel)]; exact ⟨rfl, rfl⟩))
  (fun os started H enc _ => daytimeStamps_lifted os started H enc)
theorem daytimeStamps_holds : Rows.DaytimeStampsCardSaid :=
 Claim7.holds_tied_plain_at .later [] [.data, .data, .data, .data, .handle, .sentinel, .sentinel, .pinned] true Rows.daytimeStampsCard.stood.harness true
  daytimeStamps_over (fun _ h => by cases h) (by kernel_rfl) (fun _ h => by cases h) daytimeStamps_row_tie rfl ⟨rfl, rfl⟩ (by kernel_rfl) rfl
  (fun f fn hf hfn => by
   obtain rfl : f = 7 := Option.some.inj ((show Tryz.prog.funcNamed Rows.daytimeStampsRow.func = some 7 by kernel_rfl).symm.trans hf) |>.symm
   obtain rfl : fn = Tryz.f7 := (Option.some.inj (Tryz.func7.symm.trans hfn)).symm
   exact ⟨by kernel_rfl, fun j t ht => by
    rw [Tryz.params7] at ht
    rcases j with _ | j
    ·obtain rfl := Option.some.inj ht; kernel_rfl
    rcases j with _ | j
    ·obtain rfl := Option.some.inj ht; kernel_rfl
    rcases j with _ | j
    ·obtain rfl := Option.some.inj ht; kernel_rfl
    ·simp at ht⟩)
  (by kernel_rfl)
#print axioms daytimeStamps_holds
end Go.Proofs.YtgkanacfffilmaaGreatDoor
