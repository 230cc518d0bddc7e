/- The mirror's functions. -/
import Derived.Test.YtmdnnlfoljdfpaaDoorZoneT
namespace Go.Proofs.YtmdnnlfoljdfpaaDoor.Mir
open Go Go.RowKit
set_option maxRecDepth 100000
/-! ### fusee/fuseelaw10.bigZone -/
noncomputable def X_10 (_ : Nat) : Ctx := ⟨tyT, lookF [], eqT⟩
noncomputable def c_10 : Code := bodyOf Go.Proofs.Tryd.f10
theorem x_10 (N : Nat) : CtxOk Go.Proofs.Tryd.prog laidL (X_10 N) := ⟨tyOk, eqOk, fun _ _ => fnsOk_nil.get, by kernel_rfl⟩
noncomputable def nd_10_0 : Code := loopAt 0 0 c_10
noncomputable def cb_10_0 : Code := unloop nd_10_0
theorem ne_10_0 : nd_10_0 = .loop cb_10_0 := by kernel_rfl
noncomputable def sh_10_0 : List ShA := [.one (.ptr 144 0), .one (.d (.int .i64)), .agg [.d (.str), .d (.int .i64), .d (.sl [.int .i64, .int .i64, .str])]]
noncomputable def o_10_0 : OutK 0 (((TAs [.one (.d (.bool))]) ⊕ (TAs [.one (.ptr 144 0), .agg [.d (.str), .d (.int .i64), .d (.sl [.int .i64, .int .i64, .str])]]))) := (outTwo (outOne 0 .ret [2] [] [.one (.d (.bool))]) (outOne 0 (.exit 0) [1] [144] [.one (.ptr 144 0), .agg [.d (.str), .d (.int .i64), .d (.sl [.int .i64, .int .i64, .str])]]))
noncomputable def b_10_0 (_ : Nat) (ih : TAs sh_10_0 → Option (((TAs [.one (.d (.bool))]) ⊕ (TAs [.one (.ptr 144 0), .agg [.d (.str), .d (.int .i64), .d (.sl [.int .i64, .int .i64, .str])]])))) : TAs sh_10_0 → Option (((TAs [.one (.d (.bool))]) ⊕ (TAs [.one (.ptr 144 0), .agg [.d (.str), .d (.int .i64), .d (.sl [.int .i64, .int .i64, .str])]]))) := fun (_, y4, (y5, y6, y7)) =>
  (bif (decide (y4 < (List.length y7 : Int))) then (bif (decide (y4 < 60)) then (bif (decide (0 ≤ y4 ∧ y4 < (List.length y7 : Int))) then (bif (decide ((ByteArray.size (List.getD y7 (Int.toNat y4) (0, 0, ByteArray.empty)).2.2 : Int) > 200)) then (some (.inl true)) else (ih ((), (IntKind.i64.wrap (y4 + 1)), (y5, y6, y7)))) else none) else (some (.inr ((), (y5, y6, y7))))) else (some (.inr ((), (y5, y6, y7)))))
noncomputable def l_10_0 (N : Nat) : TAs sh_10_0 → Option (((TAs [.one (.d (.bool))]) ⊕ (TAs [.one (.ptr 144 0), .agg [.d (.str), .d (.int .i64), .d (.sl [.int .i64, .int .i64, .str])]]))) := iter (b_10_0 N) N
noncomputable def lp_10_0 (_ : Nat) : Nat → Option LSum := lookL []
noncomputable def L_10_0 (N : Nat) : LSum := loopSum [1, 3] [144] sh_10_0 o_10_0 (l_10_0 N)
theorem b_ok_10_0 (N : Nat) (ih : TAs sh_10_0 → Option (((TAs [.one (.d (.bool))]) ⊕ (TAs [.one (.ptr 144 0), .agg [.d (.str), .d (.int .i64), .d (.sl [.int .i64, .int .i64, .str])]])))) (p : TAs sh_10_0) : b_10_0 N ih p = exec (X_10 N) Go.Proofs.Tryd.f10.ntmps (lp_10_0 N) cb_10_0 0 (roundK [1, 3] [144] sh_10_0 o_10_0 ih) (stOf [1, 3] [144] sh_10_0 p) := by kernel_rfl
theorem L_ok_10_0 (N : Nat) : SegOk Go.Proofs.Tryd.prog laidL 0 Go.Proofs.Tryd.f10.ntmps nd_10_0 (L_10_0 N) :=
  ne_10_0 ▸ loop_ok (cur := 0) (lp := lp_10_0 N) (x_10 N) (fun n => iter (b_10_0 N) n) (fun _ => rfl) (fun n p => b_ok_10_0 N (iter (b_10_0 N) n) p) (loopsAll (by kernel_rfl) (lookOk_nil)) N
noncomputable def lp_10 (N : Nat) : Nat → Option LSum := lookL [(0, L_10_0 N)]
noncomputable def f_10 (N : Nat) (x1 : ByteArray) (x2 : Int) (x3 : List (Int × Int × ByteArray)) : Option (TAs [.one (.d (.bool))]) :=
  ((l_10_0 N ((), 0, (x1, x2, x3))).bind fun q => (match q with | .inl q8 => (some q8) | .inr q9 => (bif (decide ((List.length q9.2.2.2 : Int) > 60)) then (some true) else (some (decide ((ByteArray.size q9.2.1 : Int) > 200))))))
theorem ok_10 (N : Nat) (x1 : ByteArray) (x2 : Int) (x3 : List (Int × Int × ByteArray)) : f_10 N x1 x2 x3 = exec (X_10 N) Go.Proofs.Tryd.f10.ntmps (lp_10 N) c_10 0 (fnK (X_10 N) Go.Proofs.Tryd.f10.results.toList 0 [.one (.d (.bool))]) (fnSt 1 0 [.agg [.d (.str), .d (.int .i64), .d (.sl [.int .i64, .int .i64, .str])]] (x1, x2, x3)) := by kernel_rfl
noncomputable def S_10 (N : Nat) : Sum := fnSum 1 0 1 [.agg [.d (.str), .d (.int .i64), .d (.sl [.int .i64, .int .i64, .str])]] [.one (.d (.bool))] (fun p => f_10 N p.1 p.2.1 p.2.2)
theorem s_10 (N : Nat) : SumOk Go.Proofs.Tryd.prog laidL 10 (S_10 N) :=
  fn_ok (lp := lp_10 N) (x_10 N) Go.Proofs.Tryd.func10 (c := c_10) (by kernel_rfl) (by kernel_rfl) rfl (fun p => ok_10 N p.1 p.2.1 p.2.2) (loopsAll (by kernel_rfl) ((lookOk_cons (L_ok_10_0 N) lookOk_nil)))
/-! ### fusee/fuseelaw10.giveZone -/
noncomputable def X_12 (_ : Nat) : Ctx := ⟨tyT, lookF [], eqT⟩
noncomputable def c_12 : Code := bodyOf Go.Proofs.Tryd.f12
theorem x_12 (N : Nat) : CtxOk Go.Proofs.Tryd.prog laidL (X_12 N) := ⟨tyOk, eqOk, fun _ _ => fnsOk_nil.get, by kernel_rfl⟩
noncomputable def nd_12_0 : Code := loopAt 0 0 c_12
noncomputable def cb_12_0 : Code := unloop nd_12_0
theorem ne_12_0 : nd_12_0 = .loop cb_12_0 := by kernel_rfl
noncomputable def sh_12_0 : List ShA := [.one (.ptr 144 0), .one (.ptr 160 0), .one (.ptr 176 0), .one (.d (.int .i64)), .agg [.d (.str), .d (.int .i64), .d (.sl [.int .i64, .int .i64, .str])], .agg [.d (.str), .d (.int .i64), .slt [.int .i64, .int .i64, .str] 47 3], .agg [.d (.str), .d (.int .i64), .slt [.int .i64, .int .i64, .str] 47 3]]
noncomputable def o_12_0 : OutK 0 (TAs [.one (.ptr 160 0), .one (.ptr 176 0), .agg [.d (.str), .d (.int .i64), .slt [.int .i64, .int .i64, .str] 47 3], .agg [.d (.str), .d (.int .i64), .slt [.int .i64, .int .i64, .str] 47 3]]) := (outOne 0 (.exit 0) [2, 3] [160, 176] [.one (.ptr 160 0), .one (.ptr 176 0), .agg [.d (.str), .d (.int .i64), .slt [.int .i64, .int .i64, .str] 47 3], .agg [.d (.str), .d (.int .i64), .slt [.int .i64, .int .i64, .str] 47 3]])
noncomputable def b_12_0 (_ : Nat) (ih : TAs sh_12_0 → Option (TAs [.one (.ptr 160 0), .one (.ptr 176 0), .agg [.d (.str), .d (.int .i64), .slt [.int .i64, .int .i64, .str] 47 3], .agg [.d (.str), .d (.int .i64), .slt [.int .i64, .int .i64, .str] 47 3]])) : TAs sh_12_0 → Option (TAs [.one (.ptr 160 0), .one (.ptr 176 0), .agg [.d (.str), .d (.int .i64), .slt [.int .i64, .int .i64, .str] 47 3], .agg [.d (.str), .d (.int .i64), .slt [.int .i64, .int .i64, .str] 47 3]]) := fun (_, _, _, y4, (y5, y6, y7), (y8, y9, y10), (y11, y12, y13)) =>
  (bif (decide (y4 < (List.length y7 : Int))) then (bif (decide (0 ≤ y4 ∧ y4 < (List.length y7 : Int))) then (bif (decide ((List.length y13 + List.length ([((List.getD y7 (Int.toNat y4) (0, 0, ByteArray.empty)).1, (List.getD y7 (Int.toNat y4) (0, 0, ByteArray.empty)).2.1, (List.getD y7 (Int.toNat y4) (0, 0, ByteArray.empty)).2.2)] : List (Int × Int × ByteArray))) * 32 ≤ 140737488355328)) then (ih ((), (), (), (IntKind.i64.wrap (y4 + 1)), (y5, y6, y7), (y8, y9, y10), (y11, y12, (y13 ++ ([((List.getD y7 (Int.toNat y4) (0, 0, ByteArray.empty)).1, (List.getD y7 (Int.toNat y4) (0, 0, ByteArray.empty)).2.1, (List.getD y7 (Int.toNat y4) (0, 0, ByteArray.empty)).2.2)] : List (Int × Int × ByteArray)))))) else none) else none) else (some (((), (), (y8, y9, y10), (y11, y12, y13)))))
noncomputable def l_12_0 (N : Nat) : TAs sh_12_0 → Option (TAs [.one (.ptr 160 0), .one (.ptr 176 0), .agg [.d (.str), .d (.int .i64), .slt [.int .i64, .int .i64, .str] 47 3], .agg [.d (.str), .d (.int .i64), .slt [.int .i64, .int .i64, .str] 47 3]]) := iter (b_12_0 N) N
noncomputable def lp_12_0 (_ : Nat) : Nat → Option LSum := lookL []
noncomputable def L_12_0 (N : Nat) : LSum := loopSum [1, 2, 3, 4] [144, 160, 176] sh_12_0 o_12_0 (l_12_0 N)
theorem b_ok_12_0 (N : Nat) (ih : TAs sh_12_0 → Option (TAs [.one (.ptr 160 0), .one (.ptr 176 0), .agg [.d (.str), .d (.int .i64), .slt [.int .i64, .int .i64, .str] 47 3], .agg [.d (.str), .d (.int .i64), .slt [.int .i64, .int .i64, .str] 47 3]])) (p : TAs sh_12_0) : b_12_0 N ih p = exec (X_12 N) Go.Proofs.Tryd.f12.ntmps (lp_12_0 N) cb_12_0 0 (roundK [1, 2, 3, 4] [144, 160, 176] sh_12_0 o_12_0 ih) (stOf [1, 2, 3, 4] [144, 160, 176] sh_12_0 p) := by kernel_rfl
theorem L_ok_12_0 (N : Nat) : SegOk Go.Proofs.Tryd.prog laidL 0 Go.Proofs.Tryd.f12.ntmps nd_12_0 (L_12_0 N) :=
  ne_12_0 ▸ loop_ok (cur := 0) (lp := lp_12_0 N) (x_12 N) (fun n => iter (b_12_0 N) n) (fun _ => rfl) (fun n p => b_ok_12_0 N (iter (b_12_0 N) n) p) (loopsAll (by kernel_rfl) (lookOk_nil)) N
noncomputable def lp_12 (N : Nat) : Nat → Option LSum := lookL [(0, L_12_0 N)]
noncomputable def f_12 (N : Nat) (x1 : ByteArray) (x2 : Int) (x3 : List (Int × Int × ByteArray)) : Option (TAs [.agg [.d (.str), .d (.int .i64), .slt [.int .i64, .int .i64, .str] 47 3]]) :=
  ((l_12_0 N ((), (), (), 0, (x1, x2, x3), (ByteArray.empty, 0, ([] : List (Int × Int × ByteArray))), (x1, x2, ([] : List (Int × Int × ByteArray))))).bind fun q14 => (some (q14.2.2.2.1, q14.2.2.2.2.1, q14.2.2.2.2.2)))
theorem ok_12 (N : Nat) (x1 : ByteArray) (x2 : Int) (x3 : List (Int × Int × ByteArray)) : f_12 N x1 x2 x3 = exec (X_12 N) Go.Proofs.Tryd.f12.ntmps (lp_12 N) c_12 0 (fnK (X_12 N) Go.Proofs.Tryd.f12.results.toList 0 [.agg [.d (.str), .d (.int .i64), .slt [.int .i64, .int .i64, .str] 47 3]]) (fnSt 1 0 [.agg [.d (.str), .d (.int .i64), .d (.sl [.int .i64, .int .i64, .str])]] (x1, x2, x3)) := by kernel_rfl
noncomputable def S_12 (N : Nat) : Sum := fnSum 1 0 1 [.agg [.d (.str), .d (.int .i64), .d (.sl [.int .i64, .int .i64, .str])]] [.agg [.d (.str), .d (.int .i64), .slt [.int .i64, .int .i64, .str] 47 3]] (fun p => f_12 N p.1 p.2.1 p.2.2)
theorem s_12 (N : Nat) : SumOk Go.Proofs.Tryd.prog laidL 12 (S_12 N) :=
  fn_ok (lp := lp_12 N) (x_12 N) Go.Proofs.Tryd.func12 (c := c_12) (by kernel_rfl) (by kernel_rfl) rfl (fun p => ok_12 N p.1 p.2.1 p.2.2) (loopsAll (by kernel_rfl) ((lookOk_cons (L_ok_12_0 N) lookOk_nil)))
/-! ### fusee/fuseelaw10.isZone -/
noncomputable def X_17 (_ : Nat) : Ctx := ⟨tyT, lookF [], eqT⟩
noncomputable def c_17 : Code := bodyOf Go.Proofs.Tryd.f17
theorem x_17 (N : Nat) : CtxOk Go.Proofs.Tryd.prog laidL (X_17 N) := ⟨tyOk, eqOk, fun _ _ => fnsOk_nil.get, by kernel_rfl⟩
noncomputable def nd_17_0 : Code := loopAt 0 0 c_17
noncomputable def cb_17_0 : Code := unloop nd_17_0
theorem ne_17_0 : nd_17_0 = .loop cb_17_0 := by kernel_rfl
noncomputable def sh_17_0 : List ShA := [.one (.ptr 160 0), .one (.ptr 176 0), .one (.d (.int .i64)), .agg [.d (.str), .d (.int .i64), .d (.sl [.int .i64, .int .i64, .str])], .agg [.d (.str), .d (.int .i64), .d (.sl [.int .i64, .int .i64, .str])]]
noncomputable def o_17_0 : OutK 0 (((TAs [.one (.d (.bool))]) ⊕ (TAs []))) := (outTwo (outOne 0 .ret [4] [] [.one (.d (.bool))]) (outOne 0 (.exit 0) [] [] []))
noncomputable def b_17_0 (_ : Nat) (ih : TAs sh_17_0 → Option (((TAs [.one (.d (.bool))]) ⊕ (TAs [])))) : TAs sh_17_0 → Option (((TAs [.one (.d (.bool))]) ⊕ (TAs []))) := fun (_, _, y7, (y8, y9, y10), (y11, y12, y13)) =>
  (bif (decide (y7 < (List.length y10 : Int))) then (bif (decide (0 ≤ y7 ∧ y7 < (List.length y10 : Int))) then (bif (decide (0 ≤ y7 ∧ y7 < (List.length y13 : Int))) then (bif (!(((List.getD y10 (Int.toNat y7) (0, 0, ByteArray.empty)).1 == (List.getD y13 (Int.toNat y7) (0, 0, ByteArray.empty)).1) && (((List.getD y10 (Int.toNat y7) (0, 0, ByteArray.empty)).2.1 == (List.getD y13 (Int.toNat y7) (0, 0, ByteArray.empty)).2.1) && ((List.getD y10 (Int.toNat y7) (0, 0, ByteArray.empty)).2.2.toList == (List.getD y13 (Int.toNat y7) (0, 0, ByteArray.empty)).2.2.toList)))) then (some (.inl false)) else (ih ((), (), (IntKind.i64.wrap (y7 + 1)), (y8, y9, y10), (y11, y12, y13)))) else none) else none) else (some (.inr ())))
noncomputable def l_17_0 (N : Nat) : TAs sh_17_0 → Option (((TAs [.one (.d (.bool))]) ⊕ (TAs []))) := iter (b_17_0 N) N
noncomputable def lp_17_0 (_ : Nat) : Nat → Option LSum := lookL []
noncomputable def L_17_0 (N : Nat) : LSum := loopSum [2, 3, 5] [160, 176] sh_17_0 o_17_0 (l_17_0 N)
theorem b_ok_17_0 (N : Nat) (ih : TAs sh_17_0 → Option (((TAs [.one (.d (.bool))]) ⊕ (TAs [])))) (p : TAs sh_17_0) : b_17_0 N ih p = exec (X_17 N) Go.Proofs.Tryd.f17.ntmps (lp_17_0 N) cb_17_0 0 (roundK [2, 3, 5] [160, 176] sh_17_0 o_17_0 ih) (stOf [2, 3, 5] [160, 176] sh_17_0 p) := by kernel_rfl
theorem L_ok_17_0 (N : Nat) : SegOk Go.Proofs.Tryd.prog laidL 0 Go.Proofs.Tryd.f17.ntmps nd_17_0 (L_17_0 N) :=
  ne_17_0 ▸ loop_ok (cur := 0) (lp := lp_17_0 N) (x_17 N) (fun n => iter (b_17_0 N) n) (fun _ => rfl) (fun n p => b_ok_17_0 N (iter (b_17_0 N) n) p) (loopsAll (by kernel_rfl) (lookOk_nil)) N
noncomputable def lp_17 (N : Nat) : Nat → Option LSum := lookL [(0, L_17_0 N)]
noncomputable def f_17 (N : Nat) (x1 : ByteArray) (x2 : Int) (x3 : List (Int × Int × ByteArray)) (x4 : ByteArray) (x5 : Int) (x6 : List (Int × Int × ByteArray)) : Option (TAs [.one (.d (.bool))]) :=
  (bif (!((ByteArray.toList x1) == (ByteArray.toList x4))) then (some false) else (bif (x2 != x5) then (some false) else (bif ((List.length x3 : Int) != (List.length x6 : Int)) then (some false) else ((l_17_0 N ((), (), 0, (x1, x2, x3), (x4, x5, x6))).bind fun q => (match q with | .inl q14 => (some q14) | .inr q15 => (some true))))))
theorem ok_17 (N : Nat) (x1 : ByteArray) (x2 : Int) (x3 : List (Int × Int × ByteArray)) (x4 : ByteArray) (x5 : Int) (x6 : List (Int × Int × ByteArray)) : f_17 N x1 x2 x3 x4 x5 x6 = exec (X_17 N) Go.Proofs.Tryd.f17.ntmps (lp_17 N) c_17 0 (fnK (X_17 N) Go.Proofs.Tryd.f17.results.toList 0 [.one (.d (.bool))]) (fnSt 2 0 [.agg [.d (.str), .d (.int .i64), .d (.sl [.int .i64, .int .i64, .str])], .agg [.d (.str), .d (.int .i64), .d (.sl [.int .i64, .int .i64, .str])]] ((x1, x2, x3), (x4, x5, x6))) := by kernel_rfl
noncomputable def S_17 (N : Nat) : Sum := fnSum 2 0 1 [.agg [.d (.str), .d (.int .i64), .d (.sl [.int .i64, .int .i64, .str])], .agg [.d (.str), .d (.int .i64), .d (.sl [.int .i64, .int .i64, .str])]] [.one (.d (.bool))] (fun p => f_17 N p.1.1 p.1.2.1 p.1.2.2 p.2.1 p.2.2.1 p.2.2.2)
theorem s_17 (N : Nat) : SumOk Go.Proofs.Tryd.prog laidL 17 (S_17 N) :=
  fn_ok (lp := lp_17 N) (x_17 N) Go.Proofs.Tryd.func17 (c := c_17) (by kernel_rfl) (by kernel_rfl) rfl (fun p => ok_17 N p.1.1 p.1.2.1 p.1.2.2 p.2.1 p.2.2.1 p.2.2.2) (loopsAll (by kernel_rfl) ((lookOk_cons (L_ok_17_0 N) lookOk_nil)))
/-! ### fusee/fuseelaw10.num -/
noncomputable def X_18 (_ : Nat) : Ctx := ⟨tyT, lookF [(47, asS)], eqT⟩
noncomputable def c_18 : Code := bodyOf Go.Proofs.Tryd.f18
theorem x_18 (N : Nat) : CtxOk Go.Proofs.Tryd.prog laidL (X_18 N) := ⟨tyOk, eqOk, fun _ _ => (fnsOk_cons asS_ok fnsOk_nil).get, by kernel_rfl⟩
noncomputable def lp_18 (_ : Nat) : Nat → Option LSum := lookL []
noncomputable def f_18 (_ : Nat) (x1 : Option Int) : Option (TAs [.one (.d (.int .i64))]) :=
  (bif (Option.isNone x1) then (some 0) else ((some (x1, (0 : Int)) : Option (Option Int × Int)).bind fun r2 => (bif (Option.isSome r2.1) then (some (asVal r2.2 r2.1)) else (some (-1)))))
theorem ok_18 (N : Nat) (x1 : Option Int) : f_18 N x1 = exec (X_18 N) Go.Proofs.Tryd.f18.ntmps (lp_18 N) c_18 0 (fnK (X_18 N) Go.Proofs.Tryd.f18.results.toList 0 [.one (.d (.int .i64))]) (fnSt 1 0 [.one (.d (.err 95))] x1) := by kernel_rfl
noncomputable def S_18 (N : Nat) : Sum := fnSum 1 0 1 [.one (.d (.err 95))] [.one (.d (.int .i64))] (fun p => f_18 N p)
theorem s_18 (N : Nat) : SumOk Go.Proofs.Tryd.prog laidL 18 (S_18 N) :=
  fn_ok (lp := lp_18 N) (x_18 N) Go.Proofs.Tryd.func18 (c := c_18) (by kernel_rfl) (by kernel_rfl) rfl (fun p => ok_18 N p) (loopsAll (by kernel_rfl) (lookOk_nil))
/-! ### fusee/fuseeref10.At -/
noncomputable def X_19 (_ : Nat) : Ctx := ⟨tyT, lookF [], eqT⟩
noncomputable def c_19 : Code := bodyOf Go.Proofs.Tryd.f19
theorem x_19 (N : Nat) : CtxOk Go.Proofs.Tryd.prog laidL (X_19 N) := ⟨tyOk, eqOk, fun _ _ => fnsOk_nil.get, by kernel_rfl⟩
noncomputable def nd_19_0 : Code := loopAt 0 0 c_19
noncomputable def cb_19_0 : Code := unloop nd_19_0
theorem ne_19_0 : nd_19_0 = .loop cb_19_0 := by kernel_rfl
noncomputable def sh_19_0 : List ShA := [.one (.d (.int .i64)), .one (.ptr 160 0), .one (.d (.int .i64)), .one (.d (.str)), .one (.d (.int .i64)), .agg [.d (.str), .d (.int .i64), .d (.sl [.int .i64, .int .i64, .str])]]
noncomputable def o_19_0 : OutK 0 (TAs [.one (.d (.int .i64)), .one (.d (.str))]) := (outOne 0 (.exit 0) [6, 7] [] [.one (.d (.int .i64)), .one (.d (.str))])
noncomputable def b_19_0 (_ : Nat) (ih : TAs sh_19_0 → Option (TAs [.one (.d (.int .i64)), .one (.d (.str))])) : TAs sh_19_0 → Option (TAs [.one (.d (.int .i64)), .one (.d (.str))]) := fun (y5, _, y6, y7, y8, (y9, y10, y11)) =>
  (bif (decide (y8 < (List.length y11 : Int))) then (bif (decide (0 ≤ y8 ∧ y8 < (List.length y11 : Int))) then (bif (decide ((List.getD y11 (Int.toNat y8) (0, 0, ByteArray.empty)).1 ≤ y5)) then (bif (decide (0 ≤ y8 ∧ y8 < (List.length y11 : Int))) then (bif (decide (0 ≤ y8 ∧ y8 < (List.length y11 : Int))) then (ih (y5, (), (List.getD y11 (Int.toNat y8) (0, 0, ByteArray.empty)).2.1, (List.getD y11 (Int.toNat y8) (0, 0, ByteArray.empty)).2.2, (IntKind.i64.wrap (y8 + 1)), (y9, y10, y11))) else none) else none) else (ih (y5, (), y6, y7, (IntKind.i64.wrap (y8 + 1)), (y9, y10, y11)))) else none) else (some ((y6, y7))))
noncomputable def l_19_0 (N : Nat) : TAs sh_19_0 → Option (TAs [.one (.d (.int .i64)), .one (.d (.str))]) := iter (b_19_0 N) N
noncomputable def lp_19_0 (_ : Nat) : Nat → Option LSum := lookL []
noncomputable def L_19_0 (N : Nat) : LSum := loopSum [1, 2, 6, 7, 8] [160] sh_19_0 o_19_0 (l_19_0 N)
theorem b_ok_19_0 (N : Nat) (ih : TAs sh_19_0 → Option (TAs [.one (.d (.int .i64)), .one (.d (.str))])) (p : TAs sh_19_0) : b_19_0 N ih p = exec (X_19 N) Go.Proofs.Tryd.f19.ntmps (lp_19_0 N) cb_19_0 0 (roundK [1, 2, 6, 7, 8] [160] sh_19_0 o_19_0 ih) (stOf [1, 2, 6, 7, 8] [160] sh_19_0 p) := by kernel_rfl
theorem L_ok_19_0 (N : Nat) : SegOk Go.Proofs.Tryd.prog laidL 0 Go.Proofs.Tryd.f19.ntmps nd_19_0 (L_19_0 N) :=
  ne_19_0 ▸ loop_ok (cur := 0) (lp := lp_19_0 N) (x_19 N) (fun n => iter (b_19_0 N) n) (fun _ => rfl) (fun n p => b_ok_19_0 N (iter (b_19_0 N) n) p) (loopsAll (by kernel_rfl) (lookOk_nil)) N
noncomputable def lp_19 (N : Nat) : Nat → Option LSum := lookL [(0, L_19_0 N)]
noncomputable def f_19 (N : Nat) (x1 : ByteArray) (x2 : Int) (x3 : List (Int × Int × ByteArray)) (x4 : Int) : Option (TAs [.one (.d (.int .i64)), .one (.d (.str))]) :=
  ((l_19_0 N (x4, (), x2, x1, 0, (x1, x2, x3))).bind fun q12 => (some (q12.1, q12.2)))
theorem ok_19 (N : Nat) (x1 : ByteArray) (x2 : Int) (x3 : List (Int × Int × ByteArray)) (x4 : Int) : f_19 N x1 x2 x3 x4 = exec (X_19 N) Go.Proofs.Tryd.f19.ntmps (lp_19 N) c_19 0 (fnK (X_19 N) Go.Proofs.Tryd.f19.results.toList 0 [.one (.d (.int .i64)), .one (.d (.str))]) (fnSt 2 0 [.agg [.d (.str), .d (.int .i64), .d (.sl [.int .i64, .int .i64, .str])], .one (.d (.int .i64))] ((x1, x2, x3), x4)) := by kernel_rfl
noncomputable def S_19 (N : Nat) : Sum := fnSum 2 0 2 [.agg [.d (.str), .d (.int .i64), .d (.sl [.int .i64, .int .i64, .str])], .one (.d (.int .i64))] [.one (.d (.int .i64)), .one (.d (.str))] (fun p => f_19 N p.1.1 p.1.2.1 p.1.2.2 p.2)
theorem s_19 (N : Nat) : SumOk Go.Proofs.Tryd.prog laidL 19 (S_19 N) :=
  fn_ok (lp := lp_19 N) (x_19 N) Go.Proofs.Tryd.func19 (c := c_19) (by kernel_rfl) (by kernel_rfl) rfl (fun p => ok_19 N p.1.1 p.1.2.1 p.1.2.2 p.2) (loopsAll (by kernel_rfl) ((lookOk_cons (L_ok_19_0 N) lookOk_nil)))
/-! ### fusee/fuseeref10.Next -/
noncomputable def X_20 (_ : Nat) : Ctx := ⟨tyT, lookF [], eqT⟩
noncomputable def c_20 : Code := bodyOf Go.Proofs.Tryd.f20
theorem x_20 (N : Nat) : CtxOk Go.Proofs.Tryd.prog laidL (X_20 N) := ⟨tyOk, eqOk, fun _ _ => fnsOk_nil.get, by kernel_rfl⟩
noncomputable def nd_20_0 : Code := loopAt 0 0 c_20
noncomputable def cb_20_0 : Code := unloop nd_20_0
theorem ne_20_0 : nd_20_0 = .loop cb_20_0 := by kernel_rfl
noncomputable def sh_20_0 : List ShA := [.one (.d (.int .i64)), .one (.ptr 160 0), .one (.d (.int .i64)), .agg [.d (.str), .d (.int .i64), .d (.sl [.int .i64, .int .i64, .str])]]
noncomputable def o_20_0 : OutK 0 (((TAs [.one (.d (.int .i64)), .one (.d (.int .i64))]) ⊕ (TAs []))) := (outTwo (outOne 0 .ret [4, 5] [] [.one (.d (.int .i64)), .one (.d (.int .i64))]) (outOne 0 (.exit 0) [] [] []))
noncomputable def b_20_0 (_ : Nat) (ih : TAs sh_20_0 → Option (((TAs [.one (.d (.int .i64)), .one (.d (.int .i64))]) ⊕ (TAs [])))) : TAs sh_20_0 → Option (((TAs [.one (.d (.int .i64)), .one (.d (.int .i64))]) ⊕ (TAs []))) := fun (y5, _, y6, (y7, y8, y9)) =>
  (bif (decide (y6 < (List.length y9 : Int))) then (bif (decide (0 ≤ y6 ∧ y6 < (List.length y9 : Int))) then (bif (decide ((List.getD y9 (Int.toNat y6) (0, 0, ByteArray.empty)).1 > y5)) then (bif (decide (0 ≤ y6 ∧ y6 < (List.length y9 : Int))) then (some (.inl ((List.getD y9 (Int.toNat y6) (0, 0, ByteArray.empty)).1, 0))) else none) else (ih (y5, (), (IntKind.i64.wrap (y6 + 1)), (y7, y8, y9)))) else none) else (some (.inr ())))
noncomputable def l_20_0 (N : Nat) : TAs sh_20_0 → Option (((TAs [.one (.d (.int .i64)), .one (.d (.int .i64))]) ⊕ (TAs []))) := iter (b_20_0 N) N
noncomputable def lp_20_0 (_ : Nat) : Nat → Option LSum := lookL []
noncomputable def L_20_0 (N : Nat) : LSum := loopSum [1, 2, 6] [160] sh_20_0 o_20_0 (l_20_0 N)
theorem b_ok_20_0 (N : Nat) (ih : TAs sh_20_0 → Option (((TAs [.one (.d (.int .i64)), .one (.d (.int .i64))]) ⊕ (TAs [])))) (p : TAs sh_20_0) : b_20_0 N ih p = exec (X_20 N) Go.Proofs.Tryd.f20.ntmps (lp_20_0 N) cb_20_0 0 (roundK [1, 2, 6] [160] sh_20_0 o_20_0 ih) (stOf [1, 2, 6] [160] sh_20_0 p) := by kernel_rfl
theorem L_ok_20_0 (N : Nat) : SegOk Go.Proofs.Tryd.prog laidL 0 Go.Proofs.Tryd.f20.ntmps nd_20_0 (L_20_0 N) :=
  ne_20_0 ▸ loop_ok (cur := 0) (lp := lp_20_0 N) (x_20 N) (fun n => iter (b_20_0 N) n) (fun _ => rfl) (fun n p => b_ok_20_0 N (iter (b_20_0 N) n) p) (loopsAll (by kernel_rfl) (lookOk_nil)) N
noncomputable def lp_20 (N : Nat) : Nat → Option LSum := lookL [(0, L_20_0 N)]
noncomputable def f_20 (N : Nat) (x1 : ByteArray) (x2 : Int) (x3 : List (Int × Int × ByteArray)) (x4 : Int) : Option (TAs [.one (.d (.int .i64)), .one (.d (.int .i64))]) :=
  ((l_20_0 N (x4, (), 0, (x1, x2, x3))).bind fun q => (match q with | .inl q10 => (some (q10.1, q10.2)) | .inr q11 => (some (0, 6))))
theorem ok_20 (N : Nat) (x1 : ByteArray) (x2 : Int) (x3 : List (Int × Int × ByteArray)) (x4 : Int) : f_20 N x1 x2 x3 x4 = exec (X_20 N) Go.Proofs.Tryd.f20.ntmps (lp_20 N) c_20 0 (fnK (X_20 N) Go.Proofs.Tryd.f20.results.toList 0 [.one (.d (.int .i64)), .one (.d (.int .i64))]) (fnSt 2 0 [.agg [.d (.str), .d (.int .i64), .d (.sl [.int .i64, .int .i64, .str])], .one (.d (.int .i64))] ((x1, x2, x3), x4)) := by kernel_rfl
noncomputable def S_20 (N : Nat) : Sum := fnSum 2 0 2 [.agg [.d (.str), .d (.int .i64), .d (.sl [.int .i64, .int .i64, .str])], .one (.d (.int .i64))] [.one (.d (.int .i64)), .one (.d (.int .i64))] (fun p => f_20 N p.1.1 p.1.2.1 p.1.2.2 p.2)
theorem s_20 (N : Nat) : SumOk Go.Proofs.Tryd.prog laidL 20 (S_20 N) :=
  fn_ok (lp := lp_20 N) (x_20 N) Go.Proofs.Tryd.func20 (c := c_20) (by kernel_rfl) (by kernel_rfl) rfl (fun p => ok_20 N p.1.1 p.1.2.1 p.1.2.2 p.2) (loopsAll (by kernel_rfl) ((lookOk_cons (L_ok_20_0 N) lookOk_nil)))
/-! ### fusee/zone.named -/
noncomputable def X_43 (_ : Nat) : Ctx := ⟨tyT, lookF [(84, trimS)], eqT⟩
noncomputable def c_43 : Code := bodyOf Go.Proofs.Tryd.f43
theorem x_43 (N : Nat) : CtxOk Go.Proofs.Tryd.prog laidL (X_43 N) := ⟨tyOk, eqOk, fun _ _ => (fnsOk_cons trimS_ok fnsOk_nil).get, by kernel_rfl⟩
noncomputable def lp_43 (_ : Nat) : Nat → Option LSum := lookL []
noncomputable def f_43 (_ : Nat) (x1 : ByteArray) : Option (TAs [.one (.d (.bool))]) :=
  (bif (!((ByteArray.toList x1) == (ByteArray.toList (⟨#[]⟩ : ByteArray)))) then (bif (decide ((ByteArray.size x1 : Int) ≤ 12)) then ((trimF x1 (⟨#[65, 66, 67, 68, 69, 70, 71, 72, 73, 74, 75, 76, 77, 78, 79, 80, 81, 82, 83, 84, 85, 86, 87, 88, 89, 90, 97, 98, 99, 100, 101, 102, 103, 104, 105, 106, 107, 108, 109, 110, 111, 112, 113, 114, 115, 116, 117, 118, 119, 120, 121, 122, 48, 49, 50, 51, 52, 53, 54, 55, 56, 57, 47, 95, 43, 45]⟩)).bind fun r2 => (some ((ByteArray.toList r2) == (ByteArray.toList (⟨#[]⟩ : ByteArray))))) else (some false)) else (some false))
theorem ok_43 (N : Nat) (x1 : ByteArray) : f_43 N x1 = exec (X_43 N) Go.Proofs.Tryd.f43.ntmps (lp_43 N) c_43 0 (fnK (X_43 N) Go.Proofs.Tryd.f43.results.toList 0 [.one (.d (.bool))]) (fnSt 1 0 [.one (.d (.str))] x1) := by kernel_rfl
noncomputable def S_43 (N : Nat) : Sum := fnSum 1 0 1 [.one (.d (.str))] [.one (.d (.bool))] (fun p => f_43 N p)
theorem s_43 (N : Nat) : SumOk Go.Proofs.Tryd.prog laidL 43 (S_43 N) :=
  fn_ok (lp := lp_43 N) (x_43 N) Go.Proofs.Tryd.func43 (c := c_43) (by kernel_rfl) (by kernel_rfl) rfl (fun p => ok_43 N p) (loopsAll (by kernel_rfl) (lookOk_nil))
/-! ### fusee/zone.added -/
noncomputable def X_44 (_ : Nat) : Ctx := ⟨tyT, lookF [], eqT⟩
noncomputable def c_44 : Code := bodyOf Go.Proofs.Tryd.f44
theorem x_44 (N : Nat) : CtxOk Go.Proofs.Tryd.prog laidL (X_44 N) := ⟨tyOk, eqOk, fun _ _ => fnsOk_nil.get, by kernel_rfl⟩
noncomputable def lp_44 (_ : Nat) : Nat → Option LSum := lookL []
noncomputable def f_44 (_ : Nat) (x1 : Int) : Option (TAs [.one (.d (.bool))]) :=
  (bif (decide (x1 ≥ (-86399))) then (some (decide (x1 ≤ 86399))) else (some false))
theorem ok_44 (N : Nat) (x1 : Int) : f_44 N x1 = exec (X_44 N) Go.Proofs.Tryd.f44.ntmps (lp_44 N) c_44 0 (fnK (X_44 N) Go.Proofs.Tryd.f44.results.toList 0 [.one (.d (.bool))]) (fnSt 1 0 [.one (.d (.int .i64))] x1) := by kernel_rfl
noncomputable def S_44 (N : Nat) : Sum := fnSum 1 0 1 [.one (.d (.int .i64))] [.one (.d (.bool))] (fun p => f_44 N p)
theorem s_44 (N : Nat) : SumOk Go.Proofs.Tryd.prog laidL 44 (S_44 N) :=
  fn_ok (lp := lp_44 N) (x_44 N) Go.Proofs.Tryd.func44 (c := c_44) (by kernel_rfl) (by kernel_rfl) rfl (fun p => ok_44 N p) (loopsAll (by kernel_rfl) (lookOk_nil))
/-! ### fusee/fuseeref10.Name -/
noncomputable def X_45 (_ : Nat) : Ctx := ⟨tyT, lookF [], eqT⟩
noncomputable def c_45 : Code := bodyOf Go.Proofs.Tryd.f45
theorem x_45 (N : Nat) : CtxOk Go.Proofs.Tryd.prog laidL (X_45 N) := ⟨tyOk, eqOk, fun _ _ => fnsOk_nil.get, by kernel_rfl⟩
noncomputable def nd_45_0 : Code := loopAt 0 0 c_45
noncomputable def cb_45_0 : Code := unloop nd_45_0
theorem ne_45_0 : nd_45_0 = .loop cb_45_0 := by kernel_rfl
noncomputable def sh_45_0 : List ShA := [.one (.d (.str)), .one (.d (.int .i64))]
noncomputable def o_45_0 : OutK 0 (((TAs [.one (.d (.bool))]) ⊕ (TAs [.one (.d (.str))]))) := (outTwo (outOne 0 .ret [2] [] [.one (.d (.bool))]) (outOne 0 (.exit 0) [0] [] [.one (.d (.str))]))
noncomputable def b_45_0 (_ : Nat) (ih : TAs sh_45_0 → Option (((TAs [.one (.d (.bool))]) ⊕ (TAs [.one (.d (.str))])))) : TAs sh_45_0 → Option (((TAs [.one (.d (.bool))]) ⊕ (TAs [.one (.d (.str))]))) := fun (y2, y3) =>
  (bif (decide (y3 < (ByteArray.size y2 : Int))) then (bif (decide (0 ≤ y3 ∧ y3 < (ByteArray.size y2 : Int))) then (bif (decide ((byteAt y2 (Int.toNat y3)) ≥ 97)) then (bif (decide ((byteAt y2 (Int.toNat y3)) ≤ 122)) then (ih (y2, (IntKind.i64.wrap (y3 + 1)))) else (bif (decide ((byteAt y2 (Int.toNat y3)) ≥ 65)) then (bif (decide ((byteAt y2 (Int.toNat y3)) ≤ 90)) then (ih (y2, (IntKind.i64.wrap (y3 + 1)))) else (bif (decide ((byteAt y2 (Int.toNat y3)) ≥ 48)) then (bif (decide ((byteAt y2 (Int.toNat y3)) ≤ 57)) then (ih (y2, (IntKind.i64.wrap (y3 + 1)))) else (bif ((byteAt y2 (Int.toNat y3)) == 47) then (ih (y2, (IntKind.i64.wrap (y3 + 1)))) else (bif ((byteAt y2 (Int.toNat y3)) == 95) then (ih (y2, (IntKind.i64.wrap (y3 + 1)))) else (bif ((byteAt y2 (Int.toNat y3)) == 43) then (ih (y2, (IntKind.i64.wrap (y3 + 1)))) else (bif (!((byteAt y2 (Int.toNat y3)) == 45)) then (some (.inl false)) else (ih (y2, (IntKind.i64.wrap (y3 + 1))))))))) else (bif ((byteAt y2 (Int.toNat y3)) == 47) then (ih (y2, (IntKind.i64.wrap (y3 + 1)))) else (bif ((byteAt y2 (Int.toNat y3)) == 95) then (ih (y2, (IntKind.i64.wrap (y3 + 1)))) else (bif ((byteAt y2 (Int.toNat y3)) == 43) then (ih (y2, (IntKind.i64.wrap (y3 + 1)))) else (bif (!((byteAt y2 (Int.toNat y3)) == 45)) then (some (.inl false)) else (ih (y2, (IntKind.i64.wrap (y3 + 1)))))))))) else (bif (decide ((byteAt y2 (Int.toNat y3)) ≥ 48)) then (bif (decide ((byteAt y2 (Int.toNat y3)) ≤ 57)) then (ih (y2, (IntKind.i64.wrap (y3 + 1)))) else (bif ((byteAt y2 (Int.toNat y3)) == 47) then (ih (y2, (IntKind.i64.wrap (y3 + 1)))) else (bif ((byteAt y2 (Int.toNat y3)) == 95) then (ih (y2, (IntKind.i64.wrap (y3 + 1)))) else (bif ((byteAt y2 (Int.toNat y3)) == 43) then (ih (y2, (IntKind.i64.wrap (y3 + 1)))) else (bif (!((byteAt y2 (Int.toNat y3)) == 45)) then (some (.inl false)) else (ih (y2, (IntKind.i64.wrap (y3 + 1))))))))) else (bif ((byteAt y2 (Int.toNat y3)) == 47) then (ih (y2, (IntKind.i64.wrap (y3 + 1)))) else (bif ((byteAt y2 (Int.toNat y3)) == 95) then (ih (y2, (IntKind.i64.wrap (y3 + 1)))) else (bif ((byteAt y2 (Int.toNat y3)) == 43) then (ih (y2, (IntKind.i64.wrap (y3 + 1)))) else (bif (!((byteAt y2 (Int.toNat y3)) == 45)) then (some (.inl false)) else (ih (y2, (IntKind.i64.wrap (y3 + 1))))))))))) else (bif (decide ((byteAt y2 (Int.toNat y3)) ≥ 65)) then (bif (decide ((byteAt y2 (Int.toNat y3)) ≤ 90)) then (ih (y2, (IntKind.i64.wrap (y3 + 1)))) else (bif (decide ((byteAt y2 (Int.toNat y3)) ≥ 48)) then (bif (decide ((byteAt y2 (Int.toNat y3)) ≤ 57)) then (ih (y2, (IntKind.i64.wrap (y3 + 1)))) else (bif ((byteAt y2 (Int.toNat y3)) == 47) then (ih (y2, (IntKind.i64.wrap (y3 + 1)))) else (bif ((byteAt y2 (Int.toNat y3)) == 95) then (ih (y2, (IntKind.i64.wrap (y3 + 1)))) else (bif ((byteAt y2 (Int.toNat y3)) == 43) then (ih (y2, (IntKind.i64.wrap (y3 + 1)))) else (bif (!((byteAt y2 (Int.toNat y3)) == 45)) then (some (.inl false)) else (ih (y2, (IntKind.i64.wrap (y3 + 1))))))))) else (bif ((byteAt y2 (Int.toNat y3)) == 47) then (ih (y2, (IntKind.i64.wrap (y3 + 1)))) else (bif ((byteAt y2 (Int.toNat y3)) == 95) then (ih (y2, (IntKind.i64.wrap (y3 + 1)))) else (bif ((byteAt y2 (Int.toNat y3)) == 43) then (ih (y2, (IntKind.i64.wrap (y3 + 1)))) else (bif (!((byteAt y2 (Int.toNat y3)) == 45)) then (some (.inl false)) else (ih (y2, (IntKind.i64.wrap (y3 + 1)))))))))) else (bif (decide ((byteAt y2 (Int.toNat y3)) ≥ 48)) then (bif (decide ((byteAt y2 (Int.toNat y3)) ≤ 57)) then (ih (y2, (IntKind.i64.wrap (y3 + 1)))) else (bif ((byteAt y2 (Int.toNat y3)) == 47) then (ih (y2, (IntKind.i64.wrap (y3 + 1)))) else (bif ((byteAt y2 (Int.toNat y3)) == 95) then (ih (y2, (IntKind.i64.wrap (y3 + 1)))) else (bif ((byteAt y2 (Int.toNat y3)) == 43) then (ih (y2, (IntKind.i64.wrap (y3 + 1)))) else (bif (!((byteAt y2 (Int.toNat y3)) == 45)) then (some (.inl false)) else (ih (y2, (IntKind.i64.wrap (y3 + 1))))))))) else (bif ((byteAt y2 (Int.toNat y3)) == 47) then (ih (y2, (IntKind.i64.wrap (y3 + 1)))) else (bif ((byteAt y2 (Int.toNat y3)) == 95) then (ih (y2, (IntKind.i64.wrap (y3 + 1)))) else (bif ((byteAt y2 (Int.toNat y3)) == 43) then (ih (y2, (IntKind.i64.wrap (y3 + 1)))) else (bif (!((byteAt y2 (Int.toNat y3)) == 45)) then (some (.inl false)) else (ih (y2, (IntKind.i64.wrap (y3 + 1))))))))))) else none) else (some (.inr y2)))
noncomputable def l_45_0 (N : Nat) : TAs sh_45_0 → Option (((TAs [.one (.d (.bool))]) ⊕ (TAs [.one (.d (.str))]))) := iter (b_45_0 N) N
noncomputable def lp_45_0 (_ : Nat) : Nat → Option LSum := lookL []
noncomputable def L_45_0 (N : Nat) : LSum := loopSum [0, 3] [] sh_45_0 o_45_0 (l_45_0 N)
theorem b_ok_45_0 (N : Nat) (ih : TAs sh_45_0 → Option (((TAs [.one (.d (.bool))]) ⊕ (TAs [.one (.d (.str))])))) (p : TAs sh_45_0) : b_45_0 N ih p = exec (X_45 N) Go.Proofs.Tryd.f45.ntmps (lp_45_0 N) cb_45_0 0 (roundK [0, 3] [] sh_45_0 o_45_0 ih) (stOf [0, 3] [] sh_45_0 p) := by kernel_rfl
theorem L_ok_45_0 (N : Nat) : SegOk Go.Proofs.Tryd.prog laidL 0 Go.Proofs.Tryd.f45.ntmps nd_45_0 (L_45_0 N) :=
  ne_45_0 ▸ loop_ok (cur := 0) (lp := lp_45_0 N) (x_45 N) (fun n => iter (b_45_0 N) n) (fun _ => rfl) (fun n p => b_ok_45_0 N (iter (b_45_0 N) n) p) (loopsAll (by kernel_rfl) (lookOk_nil)) N
noncomputable def lp_45 (N : Nat) : Nat → Option LSum := lookL [(0, L_45_0 N)]
noncomputable def f_45 (N : Nat) (x1 : ByteArray) : Option (TAs [.one (.d (.bool))]) :=
  ((l_45_0 N (x1, 0)).bind fun q => (match q with | .inl q4 => (some q4) | .inr q5 => (bif (decide ((ByteArray.size q5 : Int) ≥ 1)) then (some (decide ((ByteArray.size q5 : Int) ≤ 12))) else (some false))))
theorem ok_45 (N : Nat) (x1 : ByteArray) : f_45 N x1 = exec (X_45 N) Go.Proofs.Tryd.f45.ntmps (lp_45 N) c_45 0 (fnK (X_45 N) Go.Proofs.Tryd.f45.results.toList 0 [.one (.d (.bool))]) (fnSt 1 0 [.one (.d (.str))] x1) := by kernel_rfl
noncomputable def S_45 (N : Nat) : Sum := fnSum 1 0 1 [.one (.d (.str))] [.one (.d (.bool))] (fun p => f_45 N p)
theorem s_45 (N : Nat) : SumOk Go.Proofs.Tryd.prog laidL 45 (S_45 N) :=
  fn_ok (lp := lp_45 N) (x_45 N) Go.Proofs.Tryd.func45 (c := c_45) (by kernel_rfl) (by kernel_rfl) rfl (fun p => ok_45 N p) (loopsAll (by kernel_rfl) ((lookOk_cons (L_ok_45_0 N) lookOk_nil)))
/-! ### fusee/fuseeref10.off -/
noncomputable def X_46 (_ : Nat) : Ctx := ⟨tyT, lookF [], eqT⟩
noncomputable def c_46 : Code := bodyOf Go.Proofs.Tryd.f46
theorem x_46 (N : Nat) : CtxOk Go.Proofs.Tryd.prog laidL (X_46 N) := ⟨tyOk, eqOk, fun _ _ => fnsOk_nil.get, by kernel_rfl⟩
noncomputable def lp_46 (_ : Nat) : Nat → Option LSum := lookL []
noncomputable def f_46 (_ : Nat) (x1 : Int) : Option (TAs [.one (.d (.bool))]) :=
  (bif (decide (x1 > (-86400))) then (some (decide (x1 < 86400))) else (some false))
theorem ok_46 (N : Nat) (x1 : Int) : f_46 N x1 = exec (X_46 N) Go.Proofs.Tryd.f46.ntmps (lp_46 N) c_46 0 (fnK (X_46 N) Go.Proofs.Tryd.f46.results.toList 0 [.one (.d (.bool))]) (fnSt 1 0 [.one (.d (.int .i64))] x1) := by kernel_rfl
noncomputable def S_46 (N : Nat) : Sum := fnSum 1 0 1 [.one (.d (.int .i64))] [.one (.d (.bool))] (fun p => f_46 N p)
theorem s_46 (N : Nat) : SumOk Go.Proofs.Tryd.prog laidL 46 (S_46 N) :=
  fn_ok (lp := lp_46 N) (x_46 N) Go.Proofs.Tryd.func46 (c := c_46) (by kernel_rfl) (by kernel_rfl) rfl (fun p => ok_46 N p) (loopsAll (by kernel_rfl) (lookOk_nil))
/-! ### cmp.isNaN[int64] -/
noncomputable def X_108 (_ : Nat) : Ctx := ⟨tyT, lookF [], eqT⟩
noncomputable def c_108 : Code := bodyOf Go.Proofs.Tryd.f108
theorem x_108 (N : Nat) : CtxOk Go.Proofs.Tryd.prog laidL (X_108 N) := ⟨tyOk, eqOk, fun _ _ => fnsOk_nil.get, by kernel_rfl⟩
noncomputable def lp_108 (_ : Nat) : Nat → Option LSum := lookL []
noncomputable def f_108 (_ : Nat) (x1 : Int) : Option (TAs [.one (.d (.bool))]) :=
  (some (x1 != x1))
theorem ok_108 (N : Nat) (x1 : Int) : f_108 N x1 = exec (X_108 N) Go.Proofs.Tryd.f108.ntmps (lp_108 N) c_108 0 (fnK (X_108 N) Go.Proofs.Tryd.f108.results.toList 0 [.one (.d (.bool))]) (fnSt 1 0 [.one (.d (.int .i64))] x1) := by kernel_rfl
noncomputable def S_108 (N : Nat) : Sum := fnSum 1 0 1 [.one (.d (.int .i64))] [.one (.d (.bool))] (fun p => f_108 N p)
theorem s_108 (N : Nat) : SumOk Go.Proofs.Tryd.prog laidL 108 (S_108 N) :=
  fn_ok (lp := lp_108 N) (x_108 N) Go.Proofs.Tryd.func108 (c := c_108) (by kernel_rfl) (by kernel_rfl) rfl (fun p => ok_108 N p) (loopsAll (by kernel_rfl) (lookOk_nil))
/-! ### fusee/zone.Check -/
noncomputable def X_15 (N : Nat) : Ctx := ⟨tyT, lookF [(43, (S_43 N)), (44, (S_44 N))], eqT⟩
noncomputable def c_15 : Code := bodyOf Go.Proofs.Tryd.f15
theorem x_15 (N : Nat) : CtxOk Go.Proofs.Tryd.prog laidL (X_15 N) := ⟨tyOk, eqOk, fun _ _ => (fnsOk_cons (s_43 N) (fnsOk_cons (s_44 N) fnsOk_nil)).get, by kernel_rfl⟩
noncomputable def nd_15_0 : Code := loopAt 0 0 c_15
noncomputable def cb_15_0 : Code := unloop nd_15_0
theorem ne_15_0 : nd_15_0 = .loop cb_15_0 := by kernel_rfl
noncomputable def sh_15_0 : List ShA := [.one (.ptr 144 0), .one (.d (.sl [.int .i64, .int .i64, .str])), .one (.d (.int .i64)), .one (.d (.int .i64)), .agg [.d (.str), .d (.int .i64), .d (.sl [.int .i64, .int .i64, .str])]]
noncomputable def o_15_0 : OutK 0 (((TAs [.one (.d (.err 95))]) ⊕ (TAs []))) := (outTwo (outOne 0 .ret [2] [] [.one (.d (.err 95))]) (outOne 0 (.exit 0) [] [] []))
noncomputable def b_15_0 (N : Nat) (ih : TAs sh_15_0 → Option (((TAs [.one (.d (.err 95))]) ⊕ (TAs [])))) : TAs sh_15_0 → Option (((TAs [.one (.d (.err 95))]) ⊕ (TAs []))) := fun (_, y6, y7, y8, (y9, y10, y11)) =>
  (bif (decide (y8 < y7)) then (bif (decide (0 ≤ y8 ∧ y8 < (List.length y6 : Int))) then ((f_43 N ((List.getD y6 (Int.toNat y8) (0, 0, ByteArray.empty)).2.2)).bind fun r12 => (bif (!r12) then (some (.inl (some 1))) else ((f_44 N ((List.getD y6 (Int.toNat y8) (0, 0, ByteArray.empty)).2.1)).bind fun r13 => (bif (!r13) then (some (.inl (some 1))) else (bif (decide ((List.getD y6 (Int.toNat y8) (0, 0, ByteArray.empty)).1 < (-1099511627776))) then (some (.inl (some 1))) else (bif (decide ((List.getD y6 (Int.toNat y8) (0, 0, ByteArray.empty)).1 > 1099511627776)) then (some (.inl (some 1))) else (bif (decide (y8 > 0)) then (bif (decide (0 ≤ (IntKind.i64.wrap (y8 - 1)) ∧ (IntKind.i64.wrap (y8 - 1)) < (List.length y11 : Int))) then (bif (decide ((List.getD y11 (Int.toNat (IntKind.i64.wrap (y8 - 1))) (0, 0, ByteArray.empty)).1 ≥ (List.getD y6 (Int.toNat y8) (0, 0, ByteArray.empty)).1)) then (some (.inl (some 1))) else (ih ((), y6, y7, (IntKind.i64.wrap (y8 + 1)), (y9, y10, y11)))) else none) else (ih ((), y6, y7, (IntKind.i64.wrap (y8 + 1)), (y9, y10, y11)))))))))) else none) else (some (.inr ())))
noncomputable def l_15_0 (N : Nat) : TAs sh_15_0 → Option (((TAs [.one (.d (.err 95))]) ⊕ (TAs []))) := iter (b_15_0 N) N
noncomputable def lp_15_0 (_ : Nat) : Nat → Option LSum := lookL []
noncomputable def L_15_0 (N : Nat) : LSum := loopSum [1, 23, 24, 25] [144] sh_15_0 o_15_0 (l_15_0 N)
theorem b_ok_15_0 (N : Nat) (ih : TAs sh_15_0 → Option (((TAs [.one (.d (.err 95))]) ⊕ (TAs [])))) (p : TAs sh_15_0) : b_15_0 N ih p = exec (X_15 N) Go.Proofs.Tryd.f15.ntmps (lp_15_0 N) cb_15_0 0 (roundK [1, 23, 24, 25] [144] sh_15_0 o_15_0 ih) (stOf [1, 23, 24, 25] [144] sh_15_0 p) := by kernel_rfl
theorem L_ok_15_0 (N : Nat) : SegOk Go.Proofs.Tryd.prog laidL 0 Go.Proofs.Tryd.f15.ntmps nd_15_0 (L_15_0 N) :=
  ne_15_0 ▸ loop_ok (cur := 0) (lp := lp_15_0 N) (x_15 N) (fun n => iter (b_15_0 N) n) (fun _ => rfl) (fun n p => b_ok_15_0 N (iter (b_15_0 N) n) p) (loopsAll (by kernel_rfl) (lookOk_nil)) N
noncomputable def lp_15 (N : Nat) : Nat → Option LSum := lookL [(0, L_15_0 N)]
noncomputable def f_15 (N : Nat) (x1 : ByteArray) (x2 : Int) (x3 : List (Int × Int × ByteArray)) : Option (TAs [.one (.d (.err 95))]) :=
  ((f_43 N x1).bind fun r4 => (bif (!r4) then (some (some 1)) else ((f_44 N x2).bind fun r5 => (bif (!r5) then (some (some 1)) else (bif (decide ((List.length x3 : Int) > 32)) then (some (some 1)) else ((l_15_0 N ((), x3, (List.length x3 : Int), 0, (x1, x2, x3))).bind fun q => (match q with | .inl q14 => (some q14) | .inr q15 => (some none))))))))
theorem ok_15 (N : Nat) (x1 : ByteArray) (x2 : Int) (x3 : List (Int × Int × ByteArray)) : f_15 N x1 x2 x3 = exec (X_15 N) Go.Proofs.Tryd.f15.ntmps (lp_15 N) c_15 0 (fnK (X_15 N) Go.Proofs.Tryd.f15.results.toList 0 [.one (.d (.err 95))]) (fnSt 1 0 [.agg [.d (.str), .d (.int .i64), .d (.sl [.int .i64, .int .i64, .str])]] (x1, x2, x3)) := by kernel_rfl
noncomputable def S_15 (N : Nat) : Sum := fnSum 1 0 1 [.agg [.d (.str), .d (.int .i64), .d (.sl [.int .i64, .int .i64, .str])]] [.one (.d (.err 95))] (fun p => f_15 N p.1 p.2.1 p.2.2)
theorem s_15 (N : Nat) : SumOk Go.Proofs.Tryd.prog laidL 15 (S_15 N) :=
  fn_ok (lp := lp_15 N) (x_15 N) Go.Proofs.Tryd.func15 (c := c_15) (by kernel_rfl) (by kernel_rfl) rfl (fun p => ok_15 N p.1 p.2.1 p.2.2) (loopsAll (by kernel_rfl) ((lookOk_cons (L_ok_15_0 N) lookOk_nil)))
/-! ### fusee/fuseeref10.May -/
noncomputable def X_16 (N : Nat) : Ctx := ⟨tyT, lookF [(45, (S_45 N)), (46, (S_46 N))], eqT⟩
noncomputable def c_16 : Code := bodyOf Go.Proofs.Tryd.f16
theorem x_16 (N : Nat) : CtxOk Go.Proofs.Tryd.prog laidL (X_16 N) := ⟨tyOk, eqOk, fun _ _ => (fnsOk_cons (s_45 N) (fnsOk_cons (s_46 N) fnsOk_nil)).get, by kernel_rfl⟩
noncomputable def nd_16_0 : Code := loopAt 0 0 c_16
noncomputable def cb_16_0 : Code := unloop nd_16_0
theorem ne_16_0 : nd_16_0 = .loop cb_16_0 := by kernel_rfl
noncomputable def sh_16_0 : List ShA := [.one (.ptr 144 0), .one (.d (.int .i64)), .agg [.d (.str), .d (.int .i64), .d (.sl [.int .i64, .int .i64, .str])]]
noncomputable def o_16_0 : OutK 0 (((TAs [.one (.d (.bool))]) ⊕ (TAs [.one (.ptr 144 0), .agg [.d (.str), .d (.int .i64), .d (.sl [.int .i64, .int .i64, .str])]]))) := (outTwo (outOne 0 .ret [2] [] [.one (.d (.bool))]) (outOne 0 (.exit 0) [1] [144] [.one (.ptr 144 0), .agg [.d (.str), .d (.int .i64), .d (.sl [.int .i64, .int .i64, .str])]]))
noncomputable def b_16_0 (N : Nat) (ih : TAs sh_16_0 → Option (((TAs [.one (.d (.bool))]) ⊕ (TAs [.one (.ptr 144 0), .agg [.d (.str), .d (.int .i64), .d (.sl [.int .i64, .int .i64, .str])]])))) : TAs sh_16_0 → Option (((TAs [.one (.d (.bool))]) ⊕ (TAs [.one (.ptr 144 0), .agg [.d (.str), .d (.int .i64), .d (.sl [.int .i64, .int .i64, .str])]]))) := fun (_, y4, (y5, y6, y7)) =>
  (bif (decide (y4 < (List.length y7 : Int))) then (bif (decide (0 ≤ y4 ∧ y4 < (List.length y7 : Int))) then ((f_45 N ((List.getD y7 (Int.toNat y4) (0, 0, ByteArray.empty)).2.2)).bind fun r8 => (bif (!r8) then (some (.inl false)) else ((f_46 N ((List.getD y7 (Int.toNat y4) (0, 0, ByteArray.empty)).2.1)).bind fun r9 => (bif (!r9) then (some (.inl false)) else (bif (decide ((List.getD y7 (Int.toNat y4) (0, 0, ByteArray.empty)).1 < (-1099511627776))) then (some (.inl false)) else (bif (decide ((List.getD y7 (Int.toNat y4) (0, 0, ByteArray.empty)).1 > 1099511627776)) then (some (.inl false)) else (bif (decide (y4 > 0)) then (bif (decide (0 ≤ (IntKind.i64.wrap (y4 - 1)) ∧ (IntKind.i64.wrap (y4 - 1)) < (List.length y7 : Int))) then (bif (decide ((List.getD y7 (Int.toNat y4) (0, 0, ByteArray.empty)).1 ≤ (List.getD y7 (Int.toNat (IntKind.i64.wrap (y4 - 1))) (0, 0, ByteArray.empty)).1)) then (some (.inl false)) else (ih ((), (IntKind.i64.wrap (y4 + 1)), (y5, y6, y7)))) else none) else (ih ((), (IntKind.i64.wrap (y4 + 1)), (y5, y6, y7)))))))))) else none) else (some (.inr ((), (y5, y6, y7)))))
noncomputable def l_16_0 (N : Nat) : TAs sh_16_0 → Option (((TAs [.one (.d (.bool))]) ⊕ (TAs [.one (.ptr 144 0), .agg [.d (.str), .d (.int .i64), .d (.sl [.int .i64, .int .i64, .str])]]))) := iter (b_16_0 N) N
noncomputable def lp_16_0 (_ : Nat) : Nat → Option LSum := lookL []
noncomputable def L_16_0 (N : Nat) : LSum := loopSum [1, 3] [144] sh_16_0 o_16_0 (l_16_0 N)
theorem b_ok_16_0 (N : Nat) (ih : TAs sh_16_0 → Option (((TAs [.one (.d (.bool))]) ⊕ (TAs [.one (.ptr 144 0), .agg [.d (.str), .d (.int .i64), .d (.sl [.int .i64, .int .i64, .str])]])))) (p : TAs sh_16_0) : b_16_0 N ih p = exec (X_16 N) Go.Proofs.Tryd.f16.ntmps (lp_16_0 N) cb_16_0 0 (roundK [1, 3] [144] sh_16_0 o_16_0 ih) (stOf [1, 3] [144] sh_16_0 p) := by kernel_rfl
theorem L_ok_16_0 (N : Nat) : SegOk Go.Proofs.Tryd.prog laidL 0 Go.Proofs.Tryd.f16.ntmps nd_16_0 (L_16_0 N) :=
  ne_16_0 ▸ loop_ok (cur := 0) (lp := lp_16_0 N) (x_16 N) (fun n => iter (b_16_0 N) n) (fun _ => rfl) (fun n p => b_ok_16_0 N (iter (b_16_0 N) n) p) (loopsAll (by kernel_rfl) (lookOk_nil)) N
noncomputable def lp_16 (N : Nat) : Nat → Option LSum := lookL [(0, L_16_0 N)]
noncomputable def f_16 (N : Nat) (x1 : ByteArray) (x2 : Int) (x3 : List (Int × Int × ByteArray)) : Option (TAs [.one (.d (.bool))]) :=
  ((l_16_0 N ((), 0, (x1, x2, x3))).bind fun q => (match q with | .inl q10 => (some q10) | .inr q11 => ((f_45 N q11.2.1).bind fun r12 => (bif r12 then ((f_46 N q11.2.2.1).bind fun r13 => (bif r13 then (some (decide ((List.length q11.2.2.2 : Int) ≤ 32))) else (some false))) else (some false)))))
theorem ok_16 (N : Nat) (x1 : ByteArray) (x2 : Int) (x3 : List (Int × Int × ByteArray)) : f_16 N x1 x2 x3 = exec (X_16 N) Go.Proofs.Tryd.f16.ntmps (lp_16 N) c_16 0 (fnK (X_16 N) Go.Proofs.Tryd.f16.results.toList 0 [.one (.d (.bool))]) (fnSt 1 0 [.agg [.d (.str), .d (.int .i64), .d (.sl [.int .i64, .int .i64, .str])]] (x1, x2, x3)) := by kernel_rfl
noncomputable def S_16 (N : Nat) : Sum := fnSum 1 0 1 [.agg [.d (.str), .d (.int .i64), .d (.sl [.int .i64, .int .i64, .str])]] [.one (.d (.bool))] (fun p => f_16 N p.1 p.2.1 p.2.2)
theorem s_16 (N : Nat) : SumOk Go.Proofs.Tryd.prog laidL 16 (S_16 N) :=
  fn_ok (lp := lp_16 N) (x_16 N) Go.Proofs.Tryd.func16 (c := c_16) (by kernel_rfl) (by kernel_rfl) rfl (fun p => ok_16 N p.1 p.2.1 p.2.2) (loopsAll (by kernel_rfl) ((lookOk_cons (L_ok_16_0 N) lookOk_nil)))
/-! ### cmp.Compare[int64] -/
noncomputable def X_83 (N : Nat) : Ctx := ⟨tyT, lookF [(108, (S_108 N))], eqT⟩
noncomputable def c_83 : Code := bodyOf Go.Proofs.Tryd.f83
theorem x_83 (N : Nat) : CtxOk Go.Proofs.Tryd.prog laidL (X_83 N) := ⟨tyOk, eqOk, fun _ _ => (fnsOk_cons (s_108 N) fnsOk_nil).get, by kernel_rfl⟩
noncomputable def lp_83 (_ : Nat) : Nat → Option LSum := lookL []
noncomputable def f_83 (N : Nat) (x1 : Int) (x2 : Int) : Option (TAs [.one (.d (.int .i64))]) :=
  ((f_108 N x1).bind fun r3 => ((f_108 N x2).bind fun r4 => (bif r3 then (bif r4 then (some 0) else (some (-1))) else (bif r4 then (some 1) else (bif (decide (x1 < x2)) then (some (-1)) else (bif (decide (x1 > x2)) then (some 1) else (some 0)))))))
theorem ok_83 (N : Nat) (x1 : Int) (x2 : Int) : f_83 N x1 x2 = exec (X_83 N) Go.Proofs.Tryd.f83.ntmps (lp_83 N) c_83 0 (fnK (X_83 N) Go.Proofs.Tryd.f83.results.toList 0 [.one (.d (.int .i64))]) (fnSt 2 0 [.one (.d (.int .i64)), .one (.d (.int .i64))] (x1, x2)) := by kernel_rfl
noncomputable def S_83 (N : Nat) : Sum := fnSum 2 0 1 [.one (.d (.int .i64)), .one (.d (.int .i64))] [.one (.d (.int .i64))] (fun p => f_83 N p.1 p.2)
theorem s_83 (N : Nat) : SumOk Go.Proofs.Tryd.prog laidL 83 (S_83 N) :=
  fn_ok (lp := lp_83 N) (x_83 N) Go.Proofs.Tryd.func83 (c := c_83) (by kernel_rfl) (by kernel_rfl) rfl (fun p => ok_83 N p.1 p.2) (loopsAll (by kernel_rfl) (lookOk_nil))
/-! ### fusee/zone.behind$1 -/
noncomputable def X_82 (N : Nat) : Ctx := ⟨tyT, lookF [(83, (S_83 N))], eqT⟩
noncomputable def c_82 : Code := bodyOf Go.Proofs.Tryd.f82
theorem x_82 (N : Nat) : CtxOk Go.Proofs.Tryd.prog laidL (X_82 N) := ⟨tyOk, eqOk, fun _ _ => (fnsOk_cons (s_83 N) fnsOk_nil).get, by kernel_rfl⟩
noncomputable def lp_82 (_ : Nat) : Nat → Option LSum := lookL []
noncomputable def f_82 (N : Nat) (x1 : Int) (_x2 : Int) (_x3 : ByteArray) (x4 : Int) : Option (TAs [.one (.d (.int .i64))]) :=
  ((f_83 N x1 x4).bind fun r5 => (some r5))
theorem ok_82 (N : Nat) (x1 : Int) (x2 : Int) (x3 : ByteArray) (x4 : Int) : f_82 N x1 x2 x3 x4 = exec (X_82 N) Go.Proofs.Tryd.f82.ntmps (lp_82 N) c_82 0 (fnK (X_82 N) Go.Proofs.Tryd.f82.results.toList 0 [.one (.d (.int .i64))]) (fnSt 2 0 [.agg [.d (.int .i64), .d (.int .i64), .d (.str)], .one (.d (.int .i64))] ((x1, x2, x3), x4)) := by kernel_rfl
noncomputable def S_82 (N : Nat) : Sum := fnSum 2 0 1 [.agg [.d (.int .i64), .d (.int .i64), .d (.str)], .one (.d (.int .i64))] [.one (.d (.int .i64))] (fun p => f_82 N p.1.1 p.1.2.1 p.1.2.2 p.2)
theorem s_82 (N : Nat) : SumOk Go.Proofs.Tryd.prog laidL 82 (S_82 N) :=
  fn_ok (lp := lp_82 N) (x_82 N) Go.Proofs.Tryd.func82 (c := c_82) (by kernel_rfl) (by kernel_rfl) rfl (fun p => ok_82 N p.1.1 p.1.2.1 p.1.2.2 p.2) (loopsAll (by kernel_rfl) (lookOk_nil))
/-! ### slices.BinarySearchFunc[[]fusee/zone.Rule,fusee/zone.Rule,int64] -/
noncomputable def X_81c82 (N : Nat) : Ctx := ⟨tyT, lookF [(82, (S_82 N))], eqT⟩
noncomputable def c_81c82 : Code := bodyOf Go.Proofs.Tryd.f81
theorem x_81c82 (N : Nat) : CtxOk Go.Proofs.Tryd.prog laidL (X_81c82 N) := ⟨tyOk, eqOk, fun _ _ => (fnsOk_cons (s_82 N) fnsOk_nil).get, by kernel_rfl⟩
noncomputable def nd_81c82_0 : Code := loopAt 0 0 c_81c82
noncomputable def cb_81c82_0 : Code := unloop nd_81c82_0
theorem ne_81c82_0 : nd_81c82_0 = .loop cb_81c82_0 := by kernel_rfl
noncomputable def sh_81c82_0 : List ShA := [.one (.d (.sl [.int .i64, .int .i64, .str])), .one (.d (.int .i64)), .one (.fnv 82), .one (.d (.int .i64)), .one (.d (.int .i64)), .one (.d (.int .i64))]
noncomputable def o_81c82_0 : OutK 0 (TAs [.one (.d (.sl [.int .i64, .int .i64, .str])), .one (.d (.int .i64)), .one (.fnv 82), .one (.d (.int .i64)), .one (.d (.int .i64))]) := (outOne 0 (.exit 0) [0, 1, 2, 8, 9] [] [.one (.d (.sl [.int .i64, .int .i64, .str])), .one (.d (.int .i64)), .one (.fnv 82), .one (.d (.int .i64)), .one (.d (.int .i64))])
noncomputable def b_81c82_0 (N : Nat) (ih : TAs sh_81c82_0 → Option (TAs [.one (.d (.sl [.int .i64, .int .i64, .str])), .one (.d (.int .i64)), .one (.fnv 82), .one (.d (.int .i64)), .one (.d (.int .i64))])) : TAs sh_81c82_0 → Option (TAs [.one (.d (.sl [.int .i64, .int .i64, .str])), .one (.d (.int .i64)), .one (.fnv 82), .one (.d (.int .i64)), .one (.d (.int .i64))]) := fun (y3, y4, _, y5, y6, y7) =>
  (bif (decide (y6 < y7)) then (bif (decide (0 ≤ (IntKind.i64.wrap ((IntKind.u64.wrap (IntKind.i64.wrap (y6 + y7))) / 2 ^ (min (Int.toNat 1) IntKind.u64.bits))) ∧ (IntKind.i64.wrap ((IntKind.u64.wrap (IntKind.i64.wrap (y6 + y7))) / 2 ^ (min (Int.toNat 1) IntKind.u64.bits))) < (List.length y3 : Int))) then ((f_82 N ((List.getD y3 (Int.toNat (IntKind.i64.wrap ((IntKind.u64.wrap (IntKind.i64.wrap (y6 + y7))) / 2 ^ (min (Int.toNat 1) IntKind.u64.bits)))) (0, 0, ByteArray.empty)).1) ((List.getD y3 (Int.toNat (IntKind.i64.wrap ((IntKind.u64.wrap (IntKind.i64.wrap (y6 + y7))) / 2 ^ (min (Int.toNat 1) IntKind.u64.bits)))) (0, 0, ByteArray.empty)).2.1) ((List.getD y3 (Int.toNat (IntKind.i64.wrap ((IntKind.u64.wrap (IntKind.i64.wrap (y6 + y7))) / 2 ^ (min (Int.toNat 1) IntKind.u64.bits)))) (0, 0, ByteArray.empty)).2.2) y4).bind fun r8 => (bif (decide (r8 < 0)) then (ih (y3, y4, (), y5, (IntKind.i64.wrap ((IntKind.i64.wrap ((IntKind.u64.wrap (IntKind.i64.wrap (y6 + y7))) / 2 ^ (min (Int.toNat 1) IntKind.u64.bits))) + 1)), y7)) else (ih (y3, y4, (), y5, y6, (IntKind.i64.wrap ((IntKind.u64.wrap (IntKind.i64.wrap (y6 + y7))) / 2 ^ (min (Int.toNat 1) IntKind.u64.bits))))))) else none) else (some ((y3, y4, (), y5, y6))))
noncomputable def l_81c82_0 (N : Nat) : TAs sh_81c82_0 → Option (TAs [.one (.d (.sl [.int .i64, .int .i64, .str])), .one (.d (.int .i64)), .one (.fnv 82), .one (.d (.int .i64)), .one (.d (.int .i64))]) := iter (b_81c82_0 N) N
noncomputable def lp_81c82_0 (_ : Nat) : Nat → Option LSum := lookL []
noncomputable def L_81c82_0 (N : Nat) : LSum := loopSum [0, 1, 2, 8, 9, 10] [] sh_81c82_0 o_81c82_0 (l_81c82_0 N)
theorem b_ok_81c82_0 (N : Nat) (ih : TAs sh_81c82_0 → Option (TAs [.one (.d (.sl [.int .i64, .int .i64, .str])), .one (.d (.int .i64)), .one (.fnv 82), .one (.d (.int .i64)), .one (.d (.int .i64))])) (p : TAs sh_81c82_0) : b_81c82_0 N ih p = exec (X_81c82 N) Go.Proofs.Tryd.f81.ntmps (lp_81c82_0 N) cb_81c82_0 0 (roundK [0, 1, 2, 8, 9, 10] [] sh_81c82_0 o_81c82_0 ih) (stOf [0, 1, 2, 8, 9, 10] [] sh_81c82_0 p) := by kernel_rfl
theorem L_ok_81c82_0 (N : Nat) : SegOk Go.Proofs.Tryd.prog laidL 0 Go.Proofs.Tryd.f81.ntmps nd_81c82_0 (L_81c82_0 N) :=
  ne_81c82_0 ▸ loop_ok (cur := 0) (lp := lp_81c82_0 N) (x_81c82 N) (fun n => iter (b_81c82_0 N) n) (fun _ => rfl) (fun n p => b_ok_81c82_0 N (iter (b_81c82_0 N) n) p) (loopsAll (by kernel_rfl) (lookOk_nil)) N
noncomputable def lp_81c82 (N : Nat) : Nat → Option LSum := lookL [(0, L_81c82_0 N)]
noncomputable def f_81c82 (N : Nat) (x1 : List (Int × Int × ByteArray)) (x2 : Int) : Option (TAs [.one (.d (.int .i64)), .one (.d (.bool))]) :=
  ((l_81c82_0 N (x1, x2, (), (List.length x1 : Int), 0, (List.length x1 : Int))).bind fun q9 => (bif (decide (q9.2.2.2.2 < q9.2.2.2.1)) then (bif (decide (0 ≤ q9.2.2.2.2 ∧ q9.2.2.2.2 < (List.length q9.1 : Int))) then ((f_82 N ((List.getD q9.1 (Int.toNat q9.2.2.2.2) (0, 0, ByteArray.empty)).1) ((List.getD q9.1 (Int.toNat q9.2.2.2.2) (0, 0, ByteArray.empty)).2.1) ((List.getD q9.1 (Int.toNat q9.2.2.2.2) (0, 0, ByteArray.empty)).2.2) q9.2.1).bind fun r10 => (some (q9.2.2.2.2, (r10 == 0)))) else none) else (some (q9.2.2.2.2, false))))
theorem ok_81c82 (N : Nat) (x1 : List (Int × Int × ByteArray)) (x2 : Int) : f_81c82 N x1 x2 = exec (X_81c82 N) Go.Proofs.Tryd.f81.ntmps (lp_81c82 N) c_81c82 0 (fnK (X_81c82 N) Go.Proofs.Tryd.f81.results.toList 0 [.one (.d (.int .i64)), .one (.d (.bool))]) (fnSt 3 0 [.one (.d (.sl [.int .i64, .int .i64, .str])), .one (.d (.int .i64)), .one (.fnv 82)] (x1, x2, ())) := by kernel_rfl
noncomputable def S_81c82 (N : Nat) : Sum := fnSum 3 0 2 [.one (.d (.sl [.int .i64, .int .i64, .str])), .one (.d (.int .i64)), .one (.fnv 82)] [.one (.d (.int .i64)), .one (.d (.bool))] (fun p => f_81c82 N p.1 p.2.1)
theorem s_81c82 (N : Nat) : SumOk Go.Proofs.Tryd.prog laidL 81 (S_81c82 N) :=
  fn_ok (lp := lp_81c82 N) (x_81c82 N) Go.Proofs.Tryd.func81 (c := c_81c82) (by kernel_rfl) (by kernel_rfl) rfl (fun p => ok_81c82 N p.1 p.2.1) (loopsAll (by kernel_rfl) ((lookOk_cons (L_ok_81c82_0 N) lookOk_nil)))
/-! ### fusee/zone.behind -/
noncomputable def X_42 (N : Nat) : Ctx := ⟨tyT, lookF [(81, (S_81c82 N))], eqT⟩
noncomputable def c_42 : Code := bodyOf Go.Proofs.Tryd.f42
theorem x_42 (N : Nat) : CtxOk Go.Proofs.Tryd.prog laidL (X_42 N) := ⟨tyOk, eqOk, fun _ _ => (fnsOk_cons (s_81c82 N) fnsOk_nil).get, by kernel_rfl⟩
noncomputable def lp_42 (_ : Nat) : Nat → Option LSum := lookL []
noncomputable def f_42 (N : Nat) (_x1 : ByteArray) (_x2 : Int) (x3 : List (Int × Int × ByteArray)) (x4 : Int) : Option (TAs [.one (.d (.int .i64))]) :=
  ((f_81c82 N x3 x4).bind fun r5 => (bif r5.2 then (some (IntKind.i64.wrap (r5.1 + 1))) else (some r5.1)))
theorem ok_42 (N : Nat) (x1 : ByteArray) (x2 : Int) (x3 : List (Int × Int × ByteArray)) (x4 : Int) : f_42 N x1 x2 x3 x4 = exec (X_42 N) Go.Proofs.Tryd.f42.ntmps (lp_42 N) c_42 0 (fnK (X_42 N) Go.Proofs.Tryd.f42.results.toList 0 [.one (.d (.int .i64))]) (fnSt 2 0 [.agg [.d (.str), .d (.int .i64), .d (.sl [.int .i64, .int .i64, .str])], .one (.d (.int .i64))] ((x1, x2, x3), x4)) := by kernel_rfl
noncomputable def S_42 (N : Nat) : Sum := fnSum 2 0 1 [.agg [.d (.str), .d (.int .i64), .d (.sl [.int .i64, .int .i64, .str])], .one (.d (.int .i64))] [.one (.d (.int .i64))] (fun p => f_42 N p.1.1 p.1.2.1 p.1.2.2 p.2)
theorem s_42 (N : Nat) : SumOk Go.Proofs.Tryd.prog laidL 42 (S_42 N) :=
  fn_ok (lp := lp_42 N) (x_42 N) Go.Proofs.Tryd.func42 (c := c_42) (by kernel_rfl) (by kernel_rfl) rfl (fun p => ok_42 N p.1.1 p.1.2.1 p.1.2.2 p.2) (loopsAll (by kernel_rfl) (lookOk_nil))
/-! ### fusee/zone.At -/
noncomputable def X_13 (N : Nat) : Ctx := ⟨tyT, lookF [(15, (S_15 N)), (42, (S_42 N))], eqT⟩
noncomputable def c_13 : Code := bodyOf Go.Proofs.Tryd.f13
theorem x_13 (N : Nat) : CtxOk Go.Proofs.Tryd.prog laidL (X_13 N) := ⟨tyOk, eqOk, fun _ _ => (fnsOk_cons (s_15 N) (fnsOk_cons (s_42 N) fnsOk_nil)).get, by kernel_rfl⟩
noncomputable def lp_13 (_ : Nat) : Nat → Option LSum := lookL []
noncomputable def f_13 (N : Nat) (x1 : ByteArray) (x2 : Int) (x3 : List (Int × Int × ByteArray)) (x4 : Int) : Option (TAs [.one (.d (.int .i64)), .one (.d (.str)), .one (.d (.err 95))]) :=
  ((f_15 N x1 x2 x3).bind fun r5 => (bif (!(Option.isNone r5)) then (some (0, ⟨#[]⟩, r5)) else ((f_42 N x1 x2 x3 x4).bind fun r6 => (bif (r6 == 0) then (some (x2, x1, none)) else (bif (decide (0 ≤ (IntKind.i64.wrap (r6 - 1)) ∧ (IntKind.i64.wrap (r6 - 1)) < (List.length x3 : Int))) then (bif (decide (0 ≤ (IntKind.i64.wrap (r6 - 1)) ∧ (IntKind.i64.wrap (r6 - 1)) < (List.length x3 : Int))) then (some ((List.getD x3 (Int.toNat (IntKind.i64.wrap (r6 - 1))) (0, 0, ByteArray.empty)).2.1, (List.getD x3 (Int.toNat (IntKind.i64.wrap (r6 - 1))) (0, 0, ByteArray.empty)).2.2, none)) else none) else none)))))
theorem ok_13 (N : Nat) (x1 : ByteArray) (x2 : Int) (x3 : List (Int × Int × ByteArray)) (x4 : Int) : f_13 N x1 x2 x3 x4 = exec (X_13 N) Go.Proofs.Tryd.f13.ntmps (lp_13 N) c_13 0 (fnK (X_13 N) Go.Proofs.Tryd.f13.results.toList 0 [.one (.d (.int .i64)), .one (.d (.str)), .one (.d (.err 95))]) (fnSt 2 0 [.agg [.d (.str), .d (.int .i64), .d (.sl [.int .i64, .int .i64, .str])], .one (.d (.int .i64))] ((x1, x2, x3), x4)) := by kernel_rfl
noncomputable def S_13 (N : Nat) : Sum := fnSum 2 0 3 [.agg [.d (.str), .d (.int .i64), .d (.sl [.int .i64, .int .i64, .str])], .one (.d (.int .i64))] [.one (.d (.int .i64)), .one (.d (.str)), .one (.d (.err 95))] (fun p => f_13 N p.1.1 p.1.2.1 p.1.2.2 p.2)
theorem s_13 (N : Nat) : SumOk Go.Proofs.Tryd.prog laidL 13 (S_13 N) :=
  fn_ok (lp := lp_13 N) (x_13 N) Go.Proofs.Tryd.func13 (c := c_13) (by kernel_rfl) (by kernel_rfl) rfl (fun p => ok_13 N p.1.1 p.1.2.1 p.1.2.2 p.2) (loopsAll (by kernel_rfl) (lookOk_nil))
/-! ### fusee/zone.Next -/
noncomputable def X_14 (N : Nat) : Ctx := ⟨tyT, lookF [(15, (S_15 N)), (42, (S_42 N))], eqT⟩
noncomputable def c_14 : Code := bodyOf Go.Proofs.Tryd.f14
theorem x_14 (N : Nat) : CtxOk Go.Proofs.Tryd.prog laidL (X_14 N) := ⟨tyOk, eqOk, fun _ _ => (fnsOk_cons (s_15 N) (fnsOk_cons (s_42 N) fnsOk_nil)).get, by kernel_rfl⟩
noncomputable def lp_14 (_ : Nat) : Nat → Option LSum := lookL []
noncomputable def f_14 (N : Nat) (x1 : ByteArray) (x2 : Int) (x3 : List (Int × Int × ByteArray)) (x4 : Int) : Option (TAs [.one (.d (.int .i64)), .one (.d (.err 95))]) :=
  ((f_15 N x1 x2 x3).bind fun r5 => (bif (!(Option.isNone r5)) then (some (0, r5)) else ((f_42 N x1 x2 x3 x4).bind fun r6 => (bif (r6 == (List.length x3 : Int)) then (some (0, (some 6))) else (bif (decide (0 ≤ r6 ∧ r6 < (List.length x3 : Int))) then (some ((List.getD x3 (Int.toNat r6) (0, 0, ByteArray.empty)).1, none)) else none)))))
theorem ok_14 (N : Nat) (x1 : ByteArray) (x2 : Int) (x3 : List (Int × Int × ByteArray)) (x4 : Int) : f_14 N x1 x2 x3 x4 = exec (X_14 N) Go.Proofs.Tryd.f14.ntmps (lp_14 N) c_14 0 (fnK (X_14 N) Go.Proofs.Tryd.f14.results.toList 0 [.one (.d (.int .i64)), .one (.d (.err 95))]) (fnSt 2 0 [.agg [.d (.str), .d (.int .i64), .d (.sl [.int .i64, .int .i64, .str])], .one (.d (.int .i64))] ((x1, x2, x3), x4)) := by kernel_rfl
noncomputable def S_14 (N : Nat) : Sum := fnSum 2 0 2 [.agg [.d (.str), .d (.int .i64), .d (.sl [.int .i64, .int .i64, .str])], .one (.d (.int .i64))] [.one (.d (.int .i64)), .one (.d (.err 95))] (fun p => f_14 N p.1.1 p.1.2.1 p.1.2.2 p.2)
theorem s_14 (N : Nat) : SumOk Go.Proofs.Tryd.prog laidL 14 (S_14 N) :=
  fn_ok (lp := lp_14 N) (x_14 N) Go.Proofs.Tryd.func14 (c := c_14) (by kernel_rfl) (by kernel_rfl) rfl (fun p => ok_14 N p.1.1 p.1.2.1 p.1.2.2 p.2) (loopsAll (by kernel_rfl) (lookOk_nil))
/-! ### fusee/fuseelaw10.sure -/
noncomputable def X_11 (N : Nat) : Ctx := ⟨tyT, lookF [(13, (S_13 N)), (14, (S_14 N)), (18, (S_18 N))], eqT⟩
noncomputable def c_11 : Code := bodyOf Go.Proofs.Tryd.f11
theorem x_11 (N : Nat) : CtxOk Go.Proofs.Tryd.prog laidL (X_11 N) := ⟨tyOk, eqOk, fun _ _ => (fnsOk_cons (s_13 N) (fnsOk_cons (s_14 N) (fnsOk_cons (s_18 N) fnsOk_nil))).get, by kernel_rfl⟩
noncomputable def lp_11 (_ : Nat) : Nat → Option LSum := lookL []
noncomputable def f_11 (N : Nat) : Option (TAs [.one (.d (.bool))]) :=
  ((f_13 N (⟨#[90]⟩) 0 ([(100, 3600, ⟨#[83]⟩)] : List (Int × Int × ByteArray)) 99).bind fun r1 => ((f_13 N (⟨#[90]⟩) 0 ([(100, 3600, ⟨#[83]⟩)] : List (Int × Int × ByteArray)) 100).bind fun r2 => ((f_14 N (⟨#[90]⟩) 0 ([(100, 3600, ⟨#[83]⟩)] : List (Int × Int × ByteArray)) 99).bind fun r3 => ((f_14 N (⟨#[90]⟩) 0 ([(100, 3600, ⟨#[83]⟩)] : List (Int × Int × ByteArray)) 100).bind fun r4 => (bif (Option.isNone r1.2.2) then (bif (Option.isNone r2.2.2) then (bif (Option.isNone r3.2) then (bif (r1.1 == 0) then (bif ((ByteArray.toList r1.2.1) == (ByteArray.toList (⟨#[90]⟩ : ByteArray))) then (bif (r2.1 == 3600) then (bif ((ByteArray.toList r2.2.1) == (ByteArray.toList (⟨#[83]⟩ : ByteArray))) then (bif (r3.1 == 100) then ((f_18 N r4.2).bind fun r5 => (some (r5 == 6))) else (some false)) else (some false)) else (some false)) else (some false)) else (some false)) else (some false)) else (some false)) else (some false))))))
theorem ok_11 (N : Nat) : f_11 N = exec (X_11 N) Go.Proofs.Tryd.f11.ntmps (lp_11 N) c_11 0 (fnK (X_11 N) Go.Proofs.Tryd.f11.results.toList 0 [.one (.d (.bool))]) (fnSt 0 0 [] ()) := by kernel_rfl
noncomputable def S_11 (N : Nat) : Sum := fnSum 0 0 1 [] [.one (.d (.bool))] (fun _ => f_11 N)
theorem s_11 (N : Nat) : SumOk Go.Proofs.Tryd.prog laidL 11 (S_11 N) :=
  fn_ok (lp := lp_11 N) (x_11 N) Go.Proofs.Tryd.func11 (c := c_11) (by kernel_rfl) (by kernel_rfl) rfl (fun _ => ok_11 N) (loopsAll (by kernel_rfl) (lookOk_nil))
/-! ### fusee/fuseelaw10.ZoneTells -/
noncomputable def X_3 (N : Nat) : Ctx := ⟨tyT, lookF [(10, (S_10 N)), (11, (S_11 N)), (12, (S_12 N)), (13, (S_13 N)), (14, (S_14 N)), (15, (S_15 N)), (16, (S_16 N)), (17, (S_17 N)), (18, (S_18 N)), (19, (S_19 N)), (20, (S_20 N))], eqT⟩
noncomputable def c_3 : Code := bodyOf Go.Proofs.Tryd.f3
theorem x_3 (N : Nat) : CtxOk Go.Proofs.Tryd.prog laidL (X_3 N) := ⟨tyOk, eqOk, fun _ _ => (fnsOk_cons (s_10 N) (fnsOk_cons (s_11 N) (fnsOk_cons (s_12 N) (fnsOk_cons (s_13 N) (fnsOk_cons (s_14 N) (fnsOk_cons (s_15 N) (fnsOk_cons (s_16 N) (fnsOk_cons (s_17 N) (fnsOk_cons (s_18 N) (fnsOk_cons (s_19 N) (fnsOk_cons (s_20 N) fnsOk_nil))))))))))).get, by kernel_rfl⟩
noncomputable def lp_3 (_ : Nat) : Nat → Option LSum := lookL []
noncomputable def f_3 (N : Nat) (x1 : ByteArray) (x2 : Int) (x3 : List (Int × Int × ByteArray)) (x4 : Int) : Option (TAs [.one (.d (.bool))]) :=
  ((f_10 N x1 x2 x3).bind fun r5 => (bif r5 then ((f_11 N).bind fun r6 => (some r6)) else ((f_12 N x1 x2 x3).bind fun r7 => ((f_13 N r7.1 r7.2.1 r7.2.2 x4).bind fun r8 => ((f_14 N r7.1 r7.2.1 r7.2.2 x4).bind fun r9 => ((f_15 N r7.1 r7.2.1 r7.2.2).bind fun r10 => ((f_16 N x1 x2 x3).bind fun r11 => (bif (!((Option.isNone r10) == r11)) then (some false) else ((f_17 N r7.1 r7.2.1 r7.2.2 x1 x2 x3).bind fun r12 => (bif (!r12) then (some false) else ((f_16 N x1 x2 x3).bind fun r13 => (bif (!r13) then ((f_18 N r8.2.2).bind fun r14 => (bif (r14 == 1) then ((f_18 N r9.2).bind fun r15 => (bif (r15 == 1) then (bif (r8.1 == 0) then (bif ((ByteArray.toList r8.2.1) == (ByteArray.toList (⟨#[]⟩ : ByteArray))) then (bif (r9.1 == 0) then ((f_11 N).bind fun r16 => (some r16)) else (some false)) else (some false)) else (some false)) else (some false))) else (some false))) else ((f_19 N x1 x2 x3 x4).bind fun r17 => ((f_20 N x1 x2 x3 x4).bind fun r18 => (bif (Option.isNone r8.2.2) then (bif (r8.1 == r17.1) then (bif ((ByteArray.toList r8.2.1) == (ByteArray.toList r17.2)) then (bif (r9.1 == r18.1) then ((f_18 N r9.2).bind fun r19 => (bif (r19 == r18.2) then ((f_11 N).bind fun r20 => (some r20)) else (some false))) else (some false)) else (some false)) else (some false)) else (some false))))))))))))))))
theorem ok_3 (N : Nat) (x1 : ByteArray) (x2 : Int) (x3 : List (Int × Int × ByteArray)) (x4 : Int) : f_3 N x1 x2 x3 x4 = exec (X_3 N) Go.Proofs.Tryd.f3.ntmps (lp_3 N) c_3 0 (fnK (X_3 N) Go.Proofs.Tryd.f3.results.toList 0 [.one (.d (.bool))]) (fnSt 2 0 [.agg [.d (.str), .d (.int .i64), .d (.sl [.int .i64, .int .i64, .str])], .one (.d (.int .i64))] ((x1, x2, x3), x4)) := by kernel_rfl
noncomputable def S_3 (N : Nat) : Sum := fnSum 2 0 1 [.agg [.d (.str), .d (.int .i64), .d (.sl [.int .i64, .int .i64, .str])], .one (.d (.int .i64))] [.one (.d (.bool))] (fun p => f_3 N p.1.1 p.1.2.1 p.1.2.2 p.2)
theorem s_3 (N : Nat) : SumOk Go.Proofs.Tryd.prog laidL 3 (S_3 N) :=
  fn_ok (lp := lp_3 N) (x_3 N) Go.Proofs.Tryd.func3 (c := c_3) (by kernel_rfl) (by kernel_rfl) rfl (fun p => ok_3 N p.1.1 p.1.2.1 p.1.2.2 p.2) (loopsAll (by kernel_rfl) (lookOk_nil))
/-! ### fusee/fuseelaw10.ZoneSpans -/
noncomputable def X_4 (N : Nat) : Ctx := ⟨tyT, lookF [(12, (S_12 N)), (10, (S_10 N)), (11, (S_11 N)), (15, (S_15 N)), (13, (S_13 N)), (14, (S_14 N))], eqT⟩
noncomputable def c_4 : Code := bodyOf Go.Proofs.Tryd.f4
theorem x_4 (N : Nat) : CtxOk Go.Proofs.Tryd.prog laidL (X_4 N) := ⟨tyOk, eqOk, fun _ _ => (fnsOk_cons (s_12 N) (fnsOk_cons (s_10 N) (fnsOk_cons (s_11 N) (fnsOk_cons (s_15 N) (fnsOk_cons (s_13 N) (fnsOk_cons (s_14 N) fnsOk_nil)))))).get, by kernel_rfl⟩
noncomputable def nd_4_0 : Code := loopAt 0 0 c_4
noncomputable def cb_4_0 : Code := unloop nd_4_0
theorem ne_4_0 : nd_4_0 = .loop cb_4_0 := by kernel_rfl
noncomputable def sh_4_0 : List ShA := [.one (.ptr 240 0), .one (.d (.int .i64)), .one (.d (.str)), .one (.d (.err 95)), .one (.d (.int .i64)), .one (.d (.int .i64)), .one (.d (.int .i64)), .one (.d (.err 95)), .one (.d (.bool)), .one (.d (.int .i64)), .agg [.d (.str), .d (.int .i64), .slt [.int .i64, .int .i64, .str] 47 3]]
noncomputable def o_4_0 : OutK 0 (TAs [.one (.ptr 240 0), .one (.d (.int .i64)), .one (.d (.str)), .one (.d (.err 95)), .one (.d (.int .i64)), .one (.d (.err 95)), .one (.d (.bool)), .agg [.d (.str), .d (.int .i64), .slt [.int .i64, .int .i64, .str] 47 3]]) := (outOne 0 (.exit 0) [7, 8, 9, 10, 13, 16, 17] [240] [.one (.ptr 240 0), .one (.d (.int .i64)), .one (.d (.str)), .one (.d (.err 95)), .one (.d (.int .i64)), .one (.d (.err 95)), .one (.d (.bool)), .agg [.d (.str), .d (.int .i64), .slt [.int .i64, .int .i64, .str] 47 3]])
noncomputable def b_4_0 (_ : Nat) (ih : TAs sh_4_0 → Option (TAs [.one (.ptr 240 0), .one (.d (.int .i64)), .one (.d (.str)), .one (.d (.err 95)), .one (.d (.int .i64)), .one (.d (.err 95)), .one (.d (.bool)), .agg [.d (.str), .d (.int .i64), .slt [.int .i64, .int .i64, .str] 47 3]])) : TAs sh_4_0 → Option (TAs [.one (.ptr 240 0), .one (.d (.int .i64)), .one (.d (.str)), .one (.d (.err 95)), .one (.d (.int .i64)), .one (.d (.err 95)), .one (.d (.bool)), .agg [.d (.str), .d (.int .i64), .slt [.int .i64, .int .i64, .str] 47 3]]) := fun (_, y16, y17, y18, y19, y20, y21, y22, y23, y24, (y25, y26, y27)) =>
  (bif (decide (y24 < (List.length y27 : Int))) then (bif y23 then (ih ((), y16, y17, y18, y19, y20, y21, y22, true, (IntKind.i64.wrap (y24 + 1)), (y25, y26, y27))) else (bif (decide (0 ≤ y24 ∧ y24 < (List.length y27 : Int))) then (bif ((List.getD y27 (Int.toNat y24) (0, 0, ByteArray.empty)).1 == y19) then (bif (decide (0 ≤ y24 ∧ y24 < (List.length y27 : Int))) then (ih ((), y16, y17, y18, y19, y20, y21, y22, ((List.getD y27 (Int.toNat y24) (0, 0, ByteArray.empty)).2.1 == y21), (IntKind.i64.wrap (y24 + 1)), (y25, y26, y27))) else none) else (ih ((), y16, y17, y18, y19, y20, y21, y22, false, (IntKind.i64.wrap (y24 + 1)), (y25, y26, y27)))) else none)) else (some (((), y16, y17, y18, y20, y22, y23, (y25, y26, y27)))))
noncomputable def l_4_0 (N : Nat) : TAs sh_4_0 → Option (TAs [.one (.ptr 240 0), .one (.d (.int .i64)), .one (.d (.str)), .one (.d (.err 95)), .one (.d (.int .i64)), .one (.d (.err 95)), .one (.d (.bool)), .agg [.d (.str), .d (.int .i64), .slt [.int .i64, .int .i64, .str] 47 3]]) := iter (b_4_0 N) N
noncomputable def lp_4_0 (_ : Nat) : Nat → Option LSum := lookL []
noncomputable def L_4_0 (N : Nat) : LSum := loopSum [7, 8, 9, 10, 11, 13, 14, 16, 17, 18] [240] sh_4_0 o_4_0 (l_4_0 N)
theorem b_ok_4_0 (N : Nat) (ih : TAs sh_4_0 → Option (TAs [.one (.ptr 240 0), .one (.d (.int .i64)), .one (.d (.str)), .one (.d (.err 95)), .one (.d (.int .i64)), .one (.d (.err 95)), .one (.d (.bool)), .agg [.d (.str), .d (.int .i64), .slt [.int .i64, .int .i64, .str] 47 3]])) (p : TAs sh_4_0) : b_4_0 N ih p = exec (X_4 N) Go.Proofs.Tryd.f4.ntmps (lp_4_0 N) cb_4_0 0 (roundK [7, 8, 9, 10, 11, 13, 14, 16, 17, 18] [240] sh_4_0 o_4_0 ih) (stOf [7, 8, 9, 10, 11, 13, 14, 16, 17, 18] [240] sh_4_0 p) := by kernel_rfl
theorem L_ok_4_0 (N : Nat) : SegOk Go.Proofs.Tryd.prog laidL 0 Go.Proofs.Tryd.f4.ntmps nd_4_0 (L_4_0 N) :=
  ne_4_0 ▸ loop_ok (cur := 0) (lp := lp_4_0 N) (x_4 N) (fun n => iter (b_4_0 N) n) (fun _ => rfl) (fun n p => b_ok_4_0 N (iter (b_4_0 N) n) p) (loopsAll (by kernel_rfl) (lookOk_nil)) N
noncomputable def lp_4 (N : Nat) : Nat → Option LSum := lookL [(0, L_4_0 N)]
noncomputable def f_4 (N : Nat) (x1 : ByteArray) (x2 : Int) (x3 : List (Int × Int × ByteArray)) (x4 : Int) (x5 : Int) : Option (TAs [.one (.d (.bool))]) :=
  ((f_12 N x1 x2 x3).bind fun r6 => ((f_10 N x1 x2 x3).bind fun r7 => (bif r7 then ((f_11 N).bind fun r8 => (some r8)) else ((f_15 N r6.1 r6.2.1 r6.2.2).bind fun r9 => (bif (!(Option.isNone r9)) then ((f_11 N).bind fun r10 => (some r10)) else (bif (decide (x4 < (-1125899906842624))) then ((f_11 N).bind fun r11 => (some r11)) else (bif (decide (x4 > 1125899906842624)) then ((f_11 N).bind fun r12 => (some r12)) else ((f_13 N r6.1 r6.2.1 r6.2.2 x4).bind fun r13 => ((f_14 N r6.1 r6.2.1 r6.2.2 x4).bind fun r14 => (bif (Option.isNone r14.2) then (bif (decide (r14.1 ≤ x4)) then (some false) else ((f_13 N r6.1 r6.2.1 r6.2.2 r14.1).bind fun r15 => ((l_4_0 N ((), r13.1, r13.2.1, r13.2.2, r14.1, (if (IntKind.i64.wrap (r14.1 - 1)) < (IntKind.i64.wrap (x4 + (IntKind.i64.wrap x5))) then (IntKind.i64.wrap (r14.1 - 1)) else (IntKind.i64.wrap (x4 + (IntKind.i64.wrap x5)))), r15.1, r15.2.2, false, 0, (r6.1, r6.2.1, r6.2.2))).bind fun q28 => (bif (!(Option.isNone q28.2.2.2.2.2.1)) then (some false) else (bif (!q28.2.2.2.2.2.2.1) then (some false) else ((f_13 N q28.2.2.2.2.2.2.2.1 q28.2.2.2.2.2.2.2.2.1 q28.2.2.2.2.2.2.2.2.2 q28.2.2.2.2.1).bind fun r29 => (bif (Option.isNone q28.2.2.2.1) then (bif (Option.isNone r29.2.2) then (bif (q28.2.1 == r29.1) then (bif ((ByteArray.toList q28.2.2.1) == (ByteArray.toList r29.2.1)) then ((f_11 N).bind fun r30 => (some r30)) else (some false)) else (some false)) else (some false)) else (some false)))))))) else ((f_13 N r6.1 r6.2.1 r6.2.2 (IntKind.i64.wrap (x4 + (IntKind.i64.wrap x5)))).bind fun r31 => (bif (Option.isNone r13.2.2) then (bif (Option.isNone r31.2.2) then (bif (r13.1 == r31.1) then (bif ((ByteArray.toList r13.2.1) == (ByteArray.toList r31.2.1)) then ((f_11 N).bind fun r32 => (some r32)) else (some false)) else (some false)) else (some false)) else (some false)))))))))))))
theorem ok_4 (N : Nat) (x1 : ByteArray) (x2 : Int) (x3 : List (Int × Int × ByteArray)) (x4 : Int) (x5 : Int) : f_4 N x1 x2 x3 x4 x5 = exec (X_4 N) Go.Proofs.Tryd.f4.ntmps (lp_4 N) c_4 0 (fnK (X_4 N) Go.Proofs.Tryd.f4.results.toList 0 [.one (.d (.bool))]) (fnSt 3 0 [.agg [.d (.str), .d (.int .i64), .d (.sl [.int .i64, .int .i64, .str])], .one (.d (.int .i64)), .one (.d (.int .u32))] ((x1, x2, x3), x4, x5)) := by kernel_rfl
noncomputable def S_4 (N : Nat) : Sum := fnSum 3 0 1 [.agg [.d (.str), .d (.int .i64), .d (.sl [.int .i64, .int .i64, .str])], .one (.d (.int .i64)), .one (.d (.int .u32))] [.one (.d (.bool))] (fun p => f_4 N p.1.1 p.1.2.1 p.1.2.2 p.2.1 p.2.2)
theorem s_4 (N : Nat) : SumOk Go.Proofs.Tryd.prog laidL 4 (S_4 N) :=
  fn_ok (lp := lp_4 N) (x_4 N) Go.Proofs.Tryd.func4 (c := c_4) (by kernel_rfl) (by kernel_rfl) rfl (fun p => ok_4 N p.1.1 p.1.2.1 p.1.2.2 p.2.1 p.2.2) (loopsAll (by kernel_rfl) ((lookOk_cons (L_ok_4_0 N) lookOk_nil)))
end Go.Proofs.YtmdnnlfoljdfpaaDoor.Mir
