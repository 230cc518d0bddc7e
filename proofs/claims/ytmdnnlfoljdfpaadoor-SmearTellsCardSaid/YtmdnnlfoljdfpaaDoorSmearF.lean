/- The mirror's functions. -/
import Derived.Test.YtmdnnlfoljdfpaaDoorSmearT
namespace Go.Proofs.YtmdnnlfoljdfpaaDoor.Mir
open Go Go.RowKit
set_option maxRecDepth 100000
/-! ### fusee/smear.Check -/
noncomputable def X_26 (_ : Nat) : Ctx := ⟨tyT, lookF [], eqT⟩
noncomputable def c_26 : Code := bodyOf Go.Proofs.Tryd.f26
theorem x_26 (N : Nat) : CtxOk Go.Proofs.Tryd.prog laidL (X_26 N) := ⟨tyOk, eqOk, fun _ _ => fnsOk_nil.get, by kernel_rfl⟩
noncomputable def lp_26 (_ : Nat) : Nat → Option LSum := lookL []
noncomputable def f_26 (_ : Nat) (x1 : Int) (x2 : Int) (x3 : Int) : Option (TAs [.one (.d (.err 95))]) :=
  (bif (decide (x2 < 0)) then (some (some 1)) else (bif (decide (x2 > 43200)) then (some (some 1)) else (bif (decide (x3 < 0)) then (some (some 1)) else (bif (decide (x3 > 43200)) then (some (some 1)) else (bif (x1 == 0) then (bif ((IntKind.i64.wrap (x2 + x3)) == 0) then (some none) else (some (some 1))) else (bif (x1 == 1) then (bif (decide ((IntKind.i64.wrap (x2 + x3)) > 0)) then (some none) else (some (some 1))) else (bif (x1 == 2) then (bif (decide ((IntKind.i64.wrap (x2 + x3)) ≥ 3600)) then (some none) else (some (some 1))) else (some (some 1)))))))))
theorem ok_26 (N : Nat) (x1 : Int) (x2 : Int) (x3 : Int) : f_26 N x1 x2 x3 = exec (X_26 N) Go.Proofs.Tryd.f26.ntmps (lp_26 N) c_26 0 (fnK (X_26 N) Go.Proofs.Tryd.f26.results.toList 0 [.one (.d (.err 95))]) (fnSt 1 0 [.agg [.d (.int .i64), .d (.int .i64), .d (.int .i64)]] (x1, x2, x3)) := by kernel_rfl
noncomputable def S_26 (N : Nat) : Sum := fnSum 1 0 1 [.agg [.d (.int .i64), .d (.int .i64), .d (.int .i64)]] [.one (.d (.err 95))] (fun p => f_26 N p.1 p.2.1 p.2.2)
theorem s_26 (N : Nat) : SumOk Go.Proofs.Tryd.prog laidL 26 (S_26 N) :=
  fn_ok (lp := lp_26 N) (x_26 N) Go.Proofs.Tryd.func26 (c := c_26) (by kernel_rfl) (by kernel_rfl) rfl (fun p => ok_26 N p.1 p.2.1 p.2.2) (loopsAll (by kernel_rfl) (lookOk_nil))
/-! ### fusee/fuseeref12.May -/
noncomputable def X_27 (_ : Nat) : Ctx := ⟨tyT, lookF [], eqT⟩
noncomputable def c_27 : Code := bodyOf Go.Proofs.Tryd.f27
theorem x_27 (N : Nat) : CtxOk Go.Proofs.Tryd.prog laidL (X_27 N) := ⟨tyOk, eqOk, fun _ _ => fnsOk_nil.get, by kernel_rfl⟩
noncomputable def lp_27 (_ : Nat) : Nat → Option LSum := lookL []
noncomputable def f_27 (_ : Nat) (x1 : Int) (x2 : Int) (x3 : Int) : Option (TAs [.one (.d (.bool))]) :=
  (bif (decide (x2 < 0)) then (some false) else (bif (decide (x2 > 43200)) then (some false) else (bif (decide (x3 < 0)) then (some false) else (bif (decide (x3 > 43200)) then (some false) else (bif (x1 == 0) then (bif ((IntKind.i64.wrap (x2 + x3)) == 0) then (some true) else (bif (x1 == 1) then (bif (decide ((IntKind.i64.wrap (x2 + x3)) ≥ 1)) then (some true) else (bif (x1 == 2) then (some (decide ((IntKind.i64.wrap (x2 + x3)) ≥ 3600))) else (some false))) else (bif (x1 == 2) then (some (decide ((IntKind.i64.wrap (x2 + x3)) ≥ 3600))) else (some false)))) else (bif (x1 == 1) then (bif (decide ((IntKind.i64.wrap (x2 + x3)) ≥ 1)) then (some true) else (bif (x1 == 2) then (some (decide ((IntKind.i64.wrap (x2 + x3)) ≥ 3600))) else (some false))) else (bif (x1 == 2) then (some (decide ((IntKind.i64.wrap (x2 + x3)) ≥ 3600))) else (some false))))))))
theorem ok_27 (N : Nat) (x1 : Int) (x2 : Int) (x3 : Int) : f_27 N x1 x2 x3 = exec (X_27 N) Go.Proofs.Tryd.f27.ntmps (lp_27 N) c_27 0 (fnK (X_27 N) Go.Proofs.Tryd.f27.results.toList 0 [.one (.d (.bool))]) (fnSt 1 0 [.agg [.d (.int .i64), .d (.int .i64), .d (.int .i64)]] (x1, x2, x3)) := by kernel_rfl
noncomputable def S_27 (N : Nat) : Sum := fnSum 1 0 1 [.agg [.d (.int .i64), .d (.int .i64), .d (.int .i64)]] [.one (.d (.bool))] (fun p => f_27 N p.1 p.2.1 p.2.2)
theorem s_27 (N : Nat) : SumOk Go.Proofs.Tryd.prog laidL 27 (S_27 N) :=
  fn_ok (lp := lp_27 N) (x_27 N) Go.Proofs.Tryd.func27 (c := c_27) (by kernel_rfl) (by kernel_rfl) rfl (fun p => ok_27 N p.1 p.2.1 p.2.2) (loopsAll (by kernel_rfl) (lookOk_nil))
/-! ### fusee/fuseelaw12.num -/
noncomputable def X_28 (_ : Nat) : Ctx := ⟨tyT, lookF [(47, asS)], eqT⟩
noncomputable def c_28 : Code := bodyOf Go.Proofs.Tryd.f28
theorem x_28 (N : Nat) : CtxOk Go.Proofs.Tryd.prog laidL (X_28 N) := ⟨tyOk, eqOk, fun _ _ => (fnsOk_cons asS_ok fnsOk_nil).get, by kernel_rfl⟩
noncomputable def lp_28 (_ : Nat) : Nat → Option LSum := lookL []
noncomputable def f_28 (_ : Nat) (x1 : Option Int) : Option (TAs [.one (.d (.int .i64))]) :=
  (bif (Option.isNone x1) then (some 0) else ((some (x1, (0 : Int)) : Option (Option Int × Int)).bind fun r2 => (bif (Option.isSome r2.1) then (some (asVal r2.2 r2.1)) else (some (-1)))))
theorem ok_28 (N : Nat) (x1 : Option Int) : f_28 N x1 = exec (X_28 N) Go.Proofs.Tryd.f28.ntmps (lp_28 N) c_28 0 (fnK (X_28 N) Go.Proofs.Tryd.f28.results.toList 0 [.one (.d (.int .i64))]) (fnSt 1 0 [.one (.d (.err 95))] x1) := by kernel_rfl
noncomputable def S_28 (N : Nat) : Sum := fnSum 1 0 1 [.one (.d (.err 95))] [.one (.d (.int .i64))] (fun p => f_28 N p)
theorem s_28 (N : Nat) : SumOk Go.Proofs.Tryd.prog laidL 28 (S_28 N) :=
  fn_ok (lp := lp_28 N) (x_28 N) Go.Proofs.Tryd.func28 (c := c_28) (by kernel_rfl) (by kernel_rfl) rfl (fun p => ok_28 N p) (loopsAll (by kernel_rfl) (lookOk_nil))
/-! ### (fusee/smear.Smear).length -/
noncomputable def X_48 (_ : Nat) : Ctx := ⟨tyT, lookF [], eqT⟩
noncomputable def c_48 : Code := bodyOf Go.Proofs.Tryd.f48
theorem x_48 (N : Nat) : CtxOk Go.Proofs.Tryd.prog laidL (X_48 N) := ⟨tyOk, eqOk, fun _ _ => fnsOk_nil.get, by kernel_rfl⟩
noncomputable def lp_48 (_ : Nat) : Nat → Option LSum := lookL []
noncomputable def f_48 (_ : Nat) (_x1 : Int) (x2 : Int) (x3 : Int) : Option (TAs [.one (.d (.int .i64))]) :=
  (some (IntKind.i64.wrap ((IntKind.i64.wrap ((IntKind.i64.wrap (x2 + 1)) + x3)) * 1000000000)))
theorem ok_48 (N : Nat) (x1 : Int) (x2 : Int) (x3 : Int) : f_48 N x1 x2 x3 = exec (X_48 N) Go.Proofs.Tryd.f48.ntmps (lp_48 N) c_48 0 (fnK (X_48 N) Go.Proofs.Tryd.f48.results.toList 0 [.one (.d (.int .i64))]) (fnSt 1 0 [.agg [.d (.int .i64), .d (.int .i64), .d (.int .i64)]] (x1, x2, x3)) := by kernel_rfl
noncomputable def S_48 (N : Nat) : Sum := fnSum 1 0 1 [.agg [.d (.int .i64), .d (.int .i64), .d (.int .i64)]] [.one (.d (.int .i64))] (fun p => f_48 N p.1 p.2.1 p.2.2)
theorem s_48 (N : Nat) : SumOk Go.Proofs.Tryd.prog laidL 48 (S_48 N) :=
  fn_ok (lp := lp_48 N) (x_48 N) Go.Proofs.Tryd.func48 (c := c_48) (by kernel_rfl) (by kernel_rfl) rfl (fun p => ok_48 N p.1 p.2.1 p.2.2) (loopsAll (by kernel_rfl) (lookOk_nil))
/-! ### fusee/smear.soft -/
noncomputable def X_50 (_ : Nat) : Ctx := ⟨tyT, lookF [(49, mdS), (90, wmulS), (89, wdivS), (91, wintS)], eqT⟩
noncomputable def c_50 : Code := bodyOf Go.Proofs.Tryd.f50
theorem x_50 (N : Nat) : CtxOk Go.Proofs.Tryd.prog laidL (X_50 N) := ⟨tyOk, eqOk, fun _ _ => (fnsOk_cons mdS_ok (fnsOk_cons wmulS_ok (fnsOk_cons wdivS_ok (fnsOk_cons wintS_ok fnsOk_nil)))).get, by kernel_rfl⟩
noncomputable def lp_50 (_ : Nat) : Nat → Option LSum := lookL []
noncomputable def f_50 (_ : Nat) (x1 : Int) (x2 : Int) : Option (TAs [.one (.d (.int .i64)), .one (.d (.int .i64)), .one (.d (.err 95))]) :=
  ((mdF 2000000000 x1 x2).bind fun r3 => (bif (!(Option.isNone r3.2)) then (some (0, 0, r3.2)) else ((wmulF x1 r3.1).bind fun r4 => ((wdivF ((r4.1, r4.2), x2)).bind fun r5 => (bif (!(Option.isNone r5.2.2)) then (some (0, 0, r5.2.2)) else ((wintF (r5.1.1, r5.1.2)).bind fun r6 => (some (r6.1, r5.2.1, r6.2))))))))
theorem ok_50 (N : Nat) (x1 : Int) (x2 : Int) : f_50 N x1 x2 = exec (X_50 N) Go.Proofs.Tryd.f50.ntmps (lp_50 N) c_50 0 (fnK (X_50 N) Go.Proofs.Tryd.f50.results.toList 0 [.one (.d (.int .i64)), .one (.d (.int .i64)), .one (.d (.err 95))]) (fnSt 2 0 [.one (.d (.int .i64)), .one (.d (.int .i64))] (x1, x2)) := by kernel_rfl
noncomputable def S_50 (N : Nat) : Sum := fnSum 2 0 3 [.one (.d (.int .i64)), .one (.d (.int .i64))] [.one (.d (.int .i64)), .one (.d (.int .i64)), .one (.d (.err 95))] (fun p => f_50 N p.1 p.2)
theorem s_50 (N : Nat) : SumOk Go.Proofs.Tryd.prog laidL 50 (S_50 N) :=
  fn_ok (lp := lp_50 N) (x_50 N) Go.Proofs.Tryd.func50 (c := c_50) (by kernel_rfl) (by kernel_rfl) rfl (fun p => ok_50 N p.1 p.2) (loopsAll (by kernel_rfl) (lookOk_nil))
/-! ### fusee/fuseeref12.up -/
noncomputable def X_51 (_ : Nat) : Ctx := ⟨tyT, lookF [(52, rmdS)], eqT⟩
noncomputable def c_51 : Code := bodyOf Go.Proofs.Tryd.f51
theorem x_51 (N : Nat) : CtxOk Go.Proofs.Tryd.prog laidL (X_51 N) := ⟨tyOk, eqOk, fun _ _ => (fnsOk_cons rmdS_ok fnsOk_nil).get, by kernel_rfl⟩
noncomputable def lp_51 (_ : Nat) : Nat → Option LSum := lookL []
noncomputable def f_51 (_ : Nat) (x1 : Int) (x2 : Int) (x3 : Int) : Option (TAs [.one (.d (.int .i64))]) :=
  ((rmdF (IntKind.i64.wrap (0 - x1)) x2 x3).bind fun r4 => (some (IntKind.i64.wrap (0 - r4.1))))
theorem ok_51 (N : Nat) (x1 : Int) (x2 : Int) (x3 : Int) : f_51 N x1 x2 x3 = exec (X_51 N) Go.Proofs.Tryd.f51.ntmps (lp_51 N) c_51 0 (fnK (X_51 N) Go.Proofs.Tryd.f51.results.toList 0 [.one (.d (.int .i64))]) (fnSt 3 0 [.one (.d (.int .i64)), .one (.d (.int .i64)), .one (.d (.int .i64))] (x1, x2, x3)) := by kernel_rfl
noncomputable def S_51 (N : Nat) : Sum := fnSum 3 0 1 [.one (.d (.int .i64)), .one (.d (.int .i64)), .one (.d (.int .i64))] [.one (.d (.int .i64))] (fun p => f_51 N p.1 p.2.1 p.2.2)
theorem s_51 (N : Nat) : SumOk Go.Proofs.Tryd.prog laidL 51 (S_51 N) :=
  fn_ok (lp := lp_51 N) (x_51 N) Go.Proofs.Tryd.func51 (c := c_51) (by kernel_rfl) (by kernel_rfl) rfl (fun p => ok_51 N p.1 p.2.1 p.2.2) (loopsAll (by kernel_rfl) (lookOk_nil))
/-! ### fusee/fuseeref09.May -/
noncomputable def X_53 (_ : Nat) : Ctx := ⟨tyT, lookF [], eqT⟩
noncomputable def c_53 : Code := bodyOf Go.Proofs.Tryd.f53
theorem x_53 (N : Nat) : CtxOk Go.Proofs.Tryd.prog laidL (X_53 N) := ⟨tyOk, eqOk, fun _ _ => fnsOk_nil.get, by kernel_rfl⟩
noncomputable def nd_53_0 : Code := loopAt 0 0 c_53
noncomputable def cb_53_0 : Code := unloop nd_53_0
theorem ne_53_0 : nd_53_0 = .loop cb_53_0 := by kernel_rfl
noncomputable def sh_53_0 : List ShA := [.one (.ptr 144 0), .one (.d (.int .i64)), .agg [.d (.int .i64), .d (.int .i64), .d (.sl [.int .i64])]]
noncomputable def o_53_0 : OutK 0 (((TAs [.one (.d (.bool))]) ⊕ (TAs [.one (.ptr 144 0), .agg [.d (.int .i64), .d (.int .i64), .d (.sl [.int .i64])]]))) := (outTwo (outOne 0 .ret [2] [] [.one (.d (.bool))]) (outOne 0 (.exit 0) [1] [144] [.one (.ptr 144 0), .agg [.d (.int .i64), .d (.int .i64), .d (.sl [.int .i64])]]))
noncomputable def b_53_0 (_ : Nat) (ih : TAs sh_53_0 → Option (((TAs [.one (.d (.bool))]) ⊕ (TAs [.one (.ptr 144 0), .agg [.d (.int .i64), .d (.int .i64), .d (.sl [.int .i64])]])))) : TAs sh_53_0 → Option (((TAs [.one (.d (.bool))]) ⊕ (TAs [.one (.ptr 144 0), .agg [.d (.int .i64), .d (.int .i64), .d (.sl [.int .i64])]]))) := fun (_, y4, (y5, y6, y7)) =>
  (bif (decide (y4 < (List.length y7 : Int))) then (bif (decide (0 ≤ y4 ∧ y4 < (List.length y7 : Int))) then (bif (decide ((List.getD y7 (Int.toNat y4) 0) < (-50000))) then (some (.inl false)) else (bif (decide (0 ≤ y4 ∧ y4 < (List.length y7 : Int))) then (bif (decide ((List.getD y7 (Int.toNat y4) 0) ≥ y6)) then (some (.inl false)) else (bif (decide (y4 > 0)) then (bif (decide (0 ≤ y4 ∧ y4 < (List.length y7 : Int))) then (bif (decide (0 ≤ (IntKind.i64.wrap (y4 - 1)) ∧ (IntKind.i64.wrap (y4 - 1)) < (List.length y7 : Int))) then (bif (decide ((List.getD y7 (Int.toNat y4) 0) ≤ (List.getD y7 (Int.toNat (IntKind.i64.wrap (y4 - 1))) 0))) then (some (.inl false)) else (ih ((), (IntKind.i64.wrap (y4 + 1)), (y5, y6, y7)))) else none) else none) else (ih ((), (IntKind.i64.wrap (y4 + 1)), (y5, y6, y7))))) else none)) else none) else (some (.inr ((), (y5, y6, y7)))))
noncomputable def l_53_0 (N : Nat) : TAs sh_53_0 → Option (((TAs [.one (.d (.bool))]) ⊕ (TAs [.one (.ptr 144 0), .agg [.d (.int .i64), .d (.int .i64), .d (.sl [.int .i64])]]))) := iter (b_53_0 N) N
noncomputable def lp_53_0 (_ : Nat) : Nat → Option LSum := lookL []
noncomputable def L_53_0 (N : Nat) : LSum := loopSum [1, 3] [144] sh_53_0 o_53_0 (l_53_0 N)
theorem b_ok_53_0 (N : Nat) (ih : TAs sh_53_0 → Option (((TAs [.one (.d (.bool))]) ⊕ (TAs [.one (.ptr 144 0), .agg [.d (.int .i64), .d (.int .i64), .d (.sl [.int .i64])]])))) (p : TAs sh_53_0) : b_53_0 N ih p = exec (X_53 N) Go.Proofs.Tryd.f53.ntmps (lp_53_0 N) cb_53_0 0 (roundK [1, 3] [144] sh_53_0 o_53_0 ih) (stOf [1, 3] [144] sh_53_0 p) := by kernel_rfl
theorem L_ok_53_0 (N : Nat) : SegOk Go.Proofs.Tryd.prog laidL 0 Go.Proofs.Tryd.f53.ntmps nd_53_0 (L_53_0 N) :=
  ne_53_0 ▸ loop_ok (cur := 0) (lp := lp_53_0 N) (x_53 N) (fun n => iter (b_53_0 N) n) (fun _ => rfl) (fun n p => b_ok_53_0 N (iter (b_53_0 N) n) p) (loopsAll (by kernel_rfl) (lookOk_nil)) N
noncomputable def lp_53 (N : Nat) : Nat → Option LSum := lookL [(0, L_53_0 N)]
noncomputable def f_53 (N : Nat) (x1 : Int) (x2 : Int) (x3 : List Int) : Option (TAs [.one (.d (.bool))]) :=
  ((l_53_0 N ((), 0, (x1, x2, x3))).bind fun q => (match q with | .inl q8 => (some q8) | .inr q9 => (bif (decide (q9.2.1 ≥ 0)) then (bif (decide (q9.2.1 ≤ 100)) then (bif (decide (q9.2.2.1 ≥ (-50000))) then (bif (decide (q9.2.2.1 ≤ 50000)) then (some (decide ((List.length q9.2.2.2 : Int) ≤ 32))) else (some false)) else (some false)) else (some false)) else (some false))))
theorem ok_53 (N : Nat) (x1 : Int) (x2 : Int) (x3 : List Int) : f_53 N x1 x2 x3 = exec (X_53 N) Go.Proofs.Tryd.f53.ntmps (lp_53 N) c_53 0 (fnK (X_53 N) Go.Proofs.Tryd.f53.results.toList 0 [.one (.d (.bool))]) (fnSt 1 0 [.agg [.d (.int .i64), .d (.int .i64), .d (.sl [.int .i64])]] (x1, x2, x3)) := by kernel_rfl
noncomputable def S_53 (N : Nat) : Sum := fnSum 1 0 1 [.agg [.d (.int .i64), .d (.int .i64), .d (.sl [.int .i64])]] [.one (.d (.bool))] (fun p => f_53 N p.1 p.2.1 p.2.2)
theorem s_53 (N : Nat) : SumOk Go.Proofs.Tryd.prog laidL 53 (S_53 N) :=
  fn_ok (lp := lp_53 N) (x_53 N) Go.Proofs.Tryd.func53 (c := c_53) (by kernel_rfl) (by kernel_rfl) rfl (fun p => ok_53 N p.1 p.2.1 p.2.2) (loopsAll (by kernel_rfl) ((lookOk_cons (L_ok_53_0 N) lookOk_nil)))
/-! ### (fusee/smear.Smear).window -/
noncomputable def X_54 (_ : Nat) : Ctx := ⟨tyT, lookF [], eqT⟩
noncomputable def c_54 : Code := bodyOf Go.Proofs.Tryd.f54
theorem x_54 (N : Nat) : CtxOk Go.Proofs.Tryd.prog laidL (X_54 N) := ⟨tyOk, eqOk, fun _ _ => fnsOk_nil.get, by kernel_rfl⟩
noncomputable def lp_54 (_ : Nat) : Nat → Option LSum := lookL []
noncomputable def f_54 (_ : Nat) (_x1 : Int) (x2 : Int) (x3 : Int) (x4 : Int) (_x5 : Int) (x6 : List Int) (x7 : Int) : Option (TAs [.one (.d (.int .i64)), .one (.d (.int .i64))]) :=
  (bif (decide (0 ≤ x7 ∧ x7 < (List.length x6 : Int))) then (some ((IntKind.i64.wrap ((IntKind.i64.wrap ((IntKind.i64.wrap ((IntKind.i64.wrap ((IntKind.i64.wrap ((IntKind.i64.wrap ((IntKind.i64.wrap ((List.getD x6 (Int.toNat x7) 0) + 1)) * 86400)) + x4)) + x7)) + 1)) - 1)) - x2)), (IntKind.i64.wrap ((IntKind.i64.wrap ((IntKind.i64.wrap ((IntKind.i64.wrap ((IntKind.i64.wrap ((IntKind.i64.wrap ((List.getD x6 (Int.toNat x7) 0) + 1)) * 86400)) + x4)) + x7)) + 1)) + x3)))) else none)
theorem ok_54 (N : Nat) (x1 : Int) (x2 : Int) (x3 : Int) (x4 : Int) (x5 : Int) (x6 : List Int) (x7 : Int) : f_54 N x1 x2 x3 x4 x5 x6 x7 = exec (X_54 N) Go.Proofs.Tryd.f54.ntmps (lp_54 N) c_54 0 (fnK (X_54 N) Go.Proofs.Tryd.f54.results.toList 0 [.one (.d (.int .i64)), .one (.d (.int .i64))]) (fnSt 3 0 [.agg [.d (.int .i64), .d (.int .i64), .d (.int .i64)], .agg [.d (.int .i64), .d (.int .i64), .d (.sl [.int .i64])], .one (.d (.int .i64))] ((x1, x2, x3), (x4, x5, x6), x7)) := by kernel_rfl
noncomputable def S_54 (N : Nat) : Sum := fnSum 3 0 2 [.agg [.d (.int .i64), .d (.int .i64), .d (.int .i64)], .agg [.d (.int .i64), .d (.int .i64), .d (.sl [.int .i64])], .one (.d (.int .i64))] [.one (.d (.int .i64)), .one (.d (.int .i64))] (fun p => f_54 N p.1.1 p.1.2.1 p.1.2.2 p.2.1.1 p.2.1.2.1 p.2.1.2.2 p.2.2)
theorem s_54 (N : Nat) : SumOk Go.Proofs.Tryd.prog laidL 54 (S_54 N) :=
  fn_ok (lp := lp_54 N) (x_54 N) Go.Proofs.Tryd.func54 (c := c_54) (by kernel_rfl) (by kernel_rfl) rfl (fun p => ok_54 N p.1.1 p.1.2.1 p.1.2.2 p.2.1.1 p.2.1.2.1 p.2.1.2.2 p.2.2) (loopsAll (by kernel_rfl) (lookOk_nil))
/-! ### fusee/leap.Check -/
noncomputable def X_55 (_ : Nat) : Ctx := ⟨tyT, lookF [], eqT⟩
noncomputable def c_55 : Code := bodyOf Go.Proofs.Tryd.f55
theorem x_55 (N : Nat) : CtxOk Go.Proofs.Tryd.prog laidL (X_55 N) := ⟨tyOk, eqOk, fun _ _ => fnsOk_nil.get, by kernel_rfl⟩
noncomputable def nd_55_0 : Code := loopAt 0 0 c_55
noncomputable def cb_55_0 : Code := unloop nd_55_0
theorem ne_55_0 : nd_55_0 = .loop cb_55_0 := by kernel_rfl
noncomputable def sh_55_0 : List ShA := [.one (.ptr 144 0), .one (.d (.sl [.int .i64])), .one (.d (.int .i64)), .one (.d (.int .i64)), .agg [.d (.int .i64), .d (.int .i64), .d (.sl [.int .i64])]]
noncomputable def o_55_0 : OutK 0 (((TAs [.one (.d (.err 95))]) ⊕ (TAs []))) := (outTwo (outOne 0 .ret [2] [] [.one (.d (.err 95))]) (outOne 0 (.exit 0) [] [] []))
noncomputable def b_55_0 (_ : Nat) (ih : TAs sh_55_0 → Option (((TAs [.one (.d (.err 95))]) ⊕ (TAs [])))) : TAs sh_55_0 → Option (((TAs [.one (.d (.err 95))]) ⊕ (TAs []))) := fun (_, y4, y5, y6, (y7, y8, y9)) =>
  (bif (decide (y6 < y5)) then (bif (decide (0 ≤ y6 ∧ y6 < (List.length y4 : Int))) then (bif (decide ((List.getD y4 (Int.toNat y6) 0) < (-50000))) then (some (.inl (some 1))) else (bif (decide ((List.getD y4 (Int.toNat y6) 0) ≥ y8)) then (some (.inl (some 1))) else (bif (decide (y6 > 0)) then (bif (decide (0 ≤ (IntKind.i64.wrap (y6 - 1)) ∧ (IntKind.i64.wrap (y6 - 1)) < (List.length y9 : Int))) then (bif (decide ((List.getD y9 (Int.toNat (IntKind.i64.wrap (y6 - 1))) 0) ≥ (List.getD y4 (Int.toNat y6) 0))) then (some (.inl (some 1))) else (ih ((), y4, y5, (IntKind.i64.wrap (y6 + 1)), (y7, y8, y9)))) else none) else (ih ((), y4, y5, (IntKind.i64.wrap (y6 + 1)), (y7, y8, y9)))))) else none) else (some (.inr ())))
noncomputable def l_55_0 (N : Nat) : TAs sh_55_0 → Option (((TAs [.one (.d (.err 95))]) ⊕ (TAs []))) := iter (b_55_0 N) N
noncomputable def lp_55_0 (_ : Nat) : Nat → Option LSum := lookL []
noncomputable def L_55_0 (N : Nat) : LSum := loopSum [1, 31, 32, 33] [144] sh_55_0 o_55_0 (l_55_0 N)
theorem b_ok_55_0 (N : Nat) (ih : TAs sh_55_0 → Option (((TAs [.one (.d (.err 95))]) ⊕ (TAs [])))) (p : TAs sh_55_0) : b_55_0 N ih p = exec (X_55 N) Go.Proofs.Tryd.f55.ntmps (lp_55_0 N) cb_55_0 0 (roundK [1, 31, 32, 33] [144] sh_55_0 o_55_0 ih) (stOf [1, 31, 32, 33] [144] sh_55_0 p) := by kernel_rfl
theorem L_ok_55_0 (N : Nat) : SegOk Go.Proofs.Tryd.prog laidL 0 Go.Proofs.Tryd.f55.ntmps nd_55_0 (L_55_0 N) :=
  ne_55_0 ▸ loop_ok (cur := 0) (lp := lp_55_0 N) (x_55 N) (fun n => iter (b_55_0 N) n) (fun _ => rfl) (fun n p => b_ok_55_0 N (iter (b_55_0 N) n) p) (loopsAll (by kernel_rfl) (lookOk_nil)) N
noncomputable def lp_55 (N : Nat) : Nat → Option LSum := lookL [(0, L_55_0 N)]
noncomputable def f_55 (N : Nat) (x1 : Int) (x2 : Int) (x3 : List Int) : Option (TAs [.one (.d (.err 95))]) :=
  (bif (decide (x1 < 0)) then (some (some 1)) else (bif (decide (x1 > 100)) then (some (some 1)) else (bif (decide (x2 < (-50000))) then (some (some 1)) else (bif (decide (x2 > 50000)) then (some (some 1)) else (bif (decide ((List.length x3 : Int) > 32)) then (some (some 1)) else ((l_55_0 N ((), x3, (List.length x3 : Int), 0, (x1, x2, x3))).bind fun q => (match q with | .inl q10 => (some q10) | .inr q11 => (some none))))))))
theorem ok_55 (N : Nat) (x1 : Int) (x2 : Int) (x3 : List Int) : f_55 N x1 x2 x3 = exec (X_55 N) Go.Proofs.Tryd.f55.ntmps (lp_55 N) c_55 0 (fnK (X_55 N) Go.Proofs.Tryd.f55.results.toList 0 [.one (.d (.err 95))]) (fnSt 1 0 [.agg [.d (.int .i64), .d (.int .i64), .d (.sl [.int .i64])]] (x1, x2, x3)) := by kernel_rfl
noncomputable def S_55 (N : Nat) : Sum := fnSum 1 0 1 [.agg [.d (.int .i64), .d (.int .i64), .d (.sl [.int .i64])]] [.one (.d (.err 95))] (fun p => f_55 N p.1 p.2.1 p.2.2)
theorem s_55 (N : Nat) : SumOk Go.Proofs.Tryd.prog laidL 55 (S_55 N) :=
  fn_ok (lp := lp_55 N) (x_55 N) Go.Proofs.Tryd.func55 (c := c_55) (by kernel_rfl) (by kernel_rfl) rfl (fun p => ok_55 N p.1 p.2.1 p.2.2) (loopsAll (by kernel_rfl) ((lookOk_cons (L_ok_55_0 N) lookOk_nil)))
/-! ### fusee/fuseeref09.Second -/
noncomputable def X_56 (_ : Nat) : Ctx := ⟨tyT, lookF [], eqT⟩
noncomputable def c_56 : Code := bodyOf Go.Proofs.Tryd.f56
theorem x_56 (N : Nat) : CtxOk Go.Proofs.Tryd.prog laidL (X_56 N) := ⟨tyOk, eqOk, fun _ _ => fnsOk_nil.get, by kernel_rfl⟩
noncomputable def nd_56_0 : Code := loopAt 0 0 c_56
noncomputable def cb_56_0 : Code := unloop nd_56_0
theorem ne_56_0 : nd_56_0 = .loop cb_56_0 := by kernel_rfl
noncomputable def sh_56_0 : List ShA := [.one (.d (.int .i64)), .one (.ptr 160 0), .one (.d (.int .i64)), .one (.d (.int .i64)), .agg [.d (.int .i64), .d (.int .i64), .d (.sl [.int .i64])]]
noncomputable def o_56_0 : OutK 0 (TAs [.one (.d (.int .i64))]) := (outOne 0 (.exit 0) [5] [] [.one (.d (.int .i64))])
noncomputable def b_56_0 (_ : Nat) (ih : TAs sh_56_0 → Option (TAs [.one (.d (.int .i64))])) : TAs sh_56_0 → Option (TAs [.one (.d (.int .i64))]) := fun (y5, _, y6, y7, (y8, y9, y10)) =>
  (bif (decide (y7 < (List.length y10 : Int))) then (bif (decide (0 ≤ y7 ∧ y7 < (List.length y10 : Int))) then (bif (decide ((List.getD y10 (Int.toNat y7) 0) < y5)) then (ih (y5, (), (IntKind.i64.wrap (y6 + 1)), (IntKind.i64.wrap (y7 + 1)), (y8, y9, y10))) else (ih (y5, (), y6, (IntKind.i64.wrap (y7 + 1)), (y8, y9, y10)))) else none) else (some (y6)))
noncomputable def l_56_0 (N : Nat) : TAs sh_56_0 → Option (TAs [.one (.d (.int .i64))]) := iter (b_56_0 N) N
noncomputable def lp_56_0 (_ : Nat) : Nat → Option LSum := lookL []
noncomputable def L_56_0 (N : Nat) : LSum := loopSum [1, 2, 5, 6] [160] sh_56_0 o_56_0 (l_56_0 N)
theorem b_ok_56_0 (N : Nat) (ih : TAs sh_56_0 → Option (TAs [.one (.d (.int .i64))])) (p : TAs sh_56_0) : b_56_0 N ih p = exec (X_56 N) Go.Proofs.Tryd.f56.ntmps (lp_56_0 N) cb_56_0 0 (roundK [1, 2, 5, 6] [160] sh_56_0 o_56_0 ih) (stOf [1, 2, 5, 6] [160] sh_56_0 p) := by kernel_rfl
theorem L_ok_56_0 (N : Nat) : SegOk Go.Proofs.Tryd.prog laidL 0 Go.Proofs.Tryd.f56.ntmps nd_56_0 (L_56_0 N) :=
  ne_56_0 ▸ loop_ok (cur := 0) (lp := lp_56_0 N) (x_56 N) (fun n => iter (b_56_0 N) n) (fun _ => rfl) (fun n p => b_ok_56_0 N (iter (b_56_0 N) n) p) (loopsAll (by kernel_rfl) (lookOk_nil)) N
noncomputable def lp_56 (N : Nat) : Nat → Option LSum := lookL [(0, L_56_0 N)]
noncomputable def f_56 (N : Nat) (x1 : Int) (x2 : Int) (x3 : List Int) (x4 : Int) : Option (TAs [.one (.d (.int .i64))]) :=
  ((l_56_0 N (x4, (), (IntKind.i64.wrap ((IntKind.i64.wrap (86400 * x4)) + x1)), 0, (x1, x2, x3))).bind fun q11 => (some q11))
theorem ok_56 (N : Nat) (x1 : Int) (x2 : Int) (x3 : List Int) (x4 : Int) : f_56 N x1 x2 x3 x4 = exec (X_56 N) Go.Proofs.Tryd.f56.ntmps (lp_56 N) c_56 0 (fnK (X_56 N) Go.Proofs.Tryd.f56.results.toList 0 [.one (.d (.int .i64))]) (fnSt 2 0 [.agg [.d (.int .i64), .d (.int .i64), .d (.sl [.int .i64])], .one (.d (.int .i64))] ((x1, x2, x3), x4)) := by kernel_rfl
noncomputable def S_56 (N : Nat) : Sum := fnSum 2 0 1 [.agg [.d (.int .i64), .d (.int .i64), .d (.sl [.int .i64])], .one (.d (.int .i64))] [.one (.d (.int .i64))] (fun p => f_56 N p.1.1 p.1.2.1 p.1.2.2 p.2)
theorem s_56 (N : Nat) : SumOk Go.Proofs.Tryd.prog laidL 56 (S_56 N) :=
  fn_ok (lp := lp_56 N) (x_56 N) Go.Proofs.Tryd.func56 (c := c_56) (by kernel_rfl) (by kernel_rfl) rfl (fun p => ok_56 N p.1.1 p.1.2.1 p.1.2.2 p.2) (loopsAll (by kernel_rfl) ((lookOk_cons (L_ok_56_0 N) lookOk_nil)))
/-! ### fusee/fuseeref09.UTC -/
noncomputable def X_58 (N : Nat) : Ctx := ⟨tyT, lookF [(53, (S_53 N)), (56, (S_56 N))], eqT⟩
noncomputable def c_58 : Code := bodyOf Go.Proofs.Tryd.f58
theorem x_58 (N : Nat) : CtxOk Go.Proofs.Tryd.prog laidL (X_58 N) := ⟨tyOk, eqOk, fun _ _ => (fnsOk_cons (s_53 N) (fnsOk_cons (s_56 N) fnsOk_nil)).get, by kernel_rfl⟩
noncomputable def nd_58_0 : Code := loopAt 0 0 c_58
noncomputable def cb_58_0 : Code := unloop nd_58_0
theorem ne_58_0 : nd_58_0 = .loop cb_58_0 := by kernel_rfl
noncomputable def sh_58_0 : List ShA := [.one (.d (.int .i64)), .one (.ptr 160 0), .one (.ptr 192 0), .one (.d (.int .i64)), .one (.d (.int .i64)), .one (.d (.int .i64)), .agg [.d (.int .i64), .d (.int .i64), .d (.sl [.int .i64])], .agg [.d (.int .i64), .d (.int .i64), .d (.int .i64)]]
noncomputable def o_58_0 : OutK 0 (TAs [.one (.d (.int .i64)), .one (.ptr 160 0), .one (.ptr 192 0), .one (.d (.int .i64)), .one (.d (.int .i64)), .agg [.d (.int .i64), .d (.int .i64), .d (.sl [.int .i64])], .agg [.d (.int .i64), .d (.int .i64), .d (.int .i64)]]) := (outOne 0 (.exit 0) [1, 2, 4, 6, 7] [160, 192] [.one (.d (.int .i64)), .one (.ptr 160 0), .one (.ptr 192 0), .one (.d (.int .i64)), .one (.d (.int .i64)), .agg [.d (.int .i64), .d (.int .i64), .d (.sl [.int .i64])], .agg [.d (.int .i64), .d (.int .i64), .d (.int .i64)]])
noncomputable def b_58_0 (N : Nat) (ih : TAs sh_58_0 → Option (TAs [.one (.d (.int .i64)), .one (.ptr 160 0), .one (.ptr 192 0), .one (.d (.int .i64)), .one (.d (.int .i64)), .agg [.d (.int .i64), .d (.int .i64), .d (.sl [.int .i64])], .agg [.d (.int .i64), .d (.int .i64), .d (.int .i64)]])) : TAs sh_58_0 → Option (TAs [.one (.d (.int .i64)), .one (.ptr 160 0), .one (.ptr 192 0), .one (.d (.int .i64)), .one (.d (.int .i64)), .agg [.d (.int .i64), .d (.int .i64), .d (.sl [.int .i64])], .agg [.d (.int .i64), .d (.int .i64), .d (.int .i64)]]) := fun (y8, _, _, y9, y10, y11, (y12, y13, y14), (y15, y16, y17)) =>
  (bif (decide ((IntKind.i64.wrap (y11 - y10)) > 1)) then ((f_56 N y12 y13 y14 (IntKind.i64.wrap (Int.tdiv (IntKind.i64.wrap (y10 + y11)) 2))).bind fun r18 => (bif (decide (r18 ≤ y9)) then (ih (y8, (), (), y9, (IntKind.i64.wrap (Int.tdiv (IntKind.i64.wrap (y10 + y11)) 2)), y11, (y12, y13, y14), (y15, y16, y17))) else (ih (y8, (), (), y9, y10, (IntKind.i64.wrap (Int.tdiv (IntKind.i64.wrap (y10 + y11)) 2)), (y12, y13, y14), (y15, y16, y17))))) else (some ((y8, (), (), y9, y10, (y12, y13, y14), (y15, y16, y17)))))
noncomputable def l_58_0 (N : Nat) : TAs sh_58_0 → Option (TAs [.one (.d (.int .i64)), .one (.ptr 160 0), .one (.ptr 192 0), .one (.d (.int .i64)), .one (.d (.int .i64)), .agg [.d (.int .i64), .d (.int .i64), .d (.sl [.int .i64])], .agg [.d (.int .i64), .d (.int .i64), .d (.int .i64)]]) := iter (b_58_0 N) N
noncomputable def lp_58_0 (_ : Nat) : Nat → Option LSum := lookL []
noncomputable def L_58_0 (N : Nat) : LSum := loopSum [1, 2, 4, 6, 7, 8] [160, 192] sh_58_0 o_58_0 (l_58_0 N)
theorem b_ok_58_0 (N : Nat) (ih : TAs sh_58_0 → Option (TAs [.one (.d (.int .i64)), .one (.ptr 160 0), .one (.ptr 192 0), .one (.d (.int .i64)), .one (.d (.int .i64)), .agg [.d (.int .i64), .d (.int .i64), .d (.sl [.int .i64])], .agg [.d (.int .i64), .d (.int .i64), .d (.int .i64)]])) (p : TAs sh_58_0) : b_58_0 N ih p = exec (X_58 N) Go.Proofs.Tryd.f58.ntmps (lp_58_0 N) cb_58_0 0 (roundK [1, 2, 4, 6, 7, 8] [160, 192] sh_58_0 o_58_0 ih) (stOf [1, 2, 4, 6, 7, 8] [160, 192] sh_58_0 p) := by kernel_rfl
theorem L_ok_58_0 (N : Nat) : SegOk Go.Proofs.Tryd.prog laidL 0 Go.Proofs.Tryd.f58.ntmps nd_58_0 (L_58_0 N) :=
  ne_58_0 ▸ loop_ok (cur := 0) (lp := lp_58_0 N) (x_58 N) (fun n => iter (b_58_0 N) n) (fun _ => rfl) (fun n p => b_ok_58_0 N (iter (b_58_0 N) n) p) (loopsAll (by kernel_rfl) (lookOk_nil)) N
noncomputable def lp_58 (N : Nat) : Nat → Option LSum := lookL [(0, L_58_0 N)]
noncomputable def f_58 (N : Nat) (x1 : Int) (x2 : Int) (x3 : List Int) (x4 : Int) : Option (TAs [.agg [.d (.int .i64), .d (.int .i64), .d (.int .i64)], .one (.d (.int .i64))]) :=
  ((f_53 N x1 x2 x3).bind fun r5 => (bif (!r5) then (some ((0, 0, 0), 1)) else (bif (decide (x4 ≤ (-4611686018427387904))) then (some ((0, 0, 0), 2)) else (bif (decide (x4 ≥ 4611686018427387904)) then (some ((0, 0, 0), 2)) else (bif (decide (x4 < 0)) then (bif ((IntKind.i64.wrap ((IntKind.i64.wrap (Int.tdiv x4 1000000000)) * 1000000000)) != x4) then ((f_56 N x1 x2 x3 (-50000)).bind fun r6 => (bif (decide ((IntKind.i64.wrap ((IntKind.i64.wrap (Int.tdiv x4 1000000000)) - 1)) < r6)) then (some ((0, 0, 0), 2)) else ((f_56 N x1 x2 x3 x2).bind fun r7 => (bif (decide ((IntKind.i64.wrap ((IntKind.i64.wrap (Int.tdiv x4 1000000000)) - 1)) ≥ r7)) then (some ((0, 0, 0), 10)) else ((l_58_0 N (x4, (), (), (IntKind.i64.wrap ((IntKind.i64.wrap (Int.tdiv x4 1000000000)) - 1)), (-50000), x2, (x1, x2, x3), (0, 0, 0))).bind fun q19 => ((f_56 N q19.2.2.2.2.2.1.1 q19.2.2.2.2.2.1.2.1 q19.2.2.2.2.2.1.2.2 q19.2.2.2.2.1).bind fun r20 => (some ((q19.2.2.2.2.1, (IntKind.i64.wrap (q19.2.2.2.1 - r20)), (IntKind.i64.wrap (q19.1 - (IntKind.i64.wrap (q19.2.2.2.1 * 1000000000))))), 0)))))))) else ((f_56 N x1 x2 x3 (-50000)).bind fun r21 => (bif (decide ((IntKind.i64.wrap (Int.tdiv x4 1000000000)) < r21)) then (some ((0, 0, 0), 2)) else ((f_56 N x1 x2 x3 x2).bind fun r22 => (bif (decide ((IntKind.i64.wrap (Int.tdiv x4 1000000000)) ≥ r22)) then (some ((0, 0, 0), 10)) else ((l_58_0 N (x4, (), (), (IntKind.i64.wrap (Int.tdiv x4 1000000000)), (-50000), x2, (x1, x2, x3), (0, 0, 0))).bind fun q23 => ((f_56 N q23.2.2.2.2.2.1.1 q23.2.2.2.2.2.1.2.1 q23.2.2.2.2.2.1.2.2 q23.2.2.2.2.1).bind fun r24 => (some ((q23.2.2.2.2.1, (IntKind.i64.wrap (q23.2.2.2.1 - r24)), (IntKind.i64.wrap (q23.1 - (IntKind.i64.wrap (q23.2.2.2.1 * 1000000000))))), 0))))))))) else ((f_56 N x1 x2 x3 (-50000)).bind fun r25 => (bif (decide ((IntKind.i64.wrap (Int.tdiv x4 1000000000)) < r25)) then (some ((0, 0, 0), 2)) else ((f_56 N x1 x2 x3 x2).bind fun r26 => (bif (decide ((IntKind.i64.wrap (Int.tdiv x4 1000000000)) ≥ r26)) then (some ((0, 0, 0), 10)) else ((l_58_0 N (x4, (), (), (IntKind.i64.wrap (Int.tdiv x4 1000000000)), (-50000), x2, (x1, x2, x3), (0, 0, 0))).bind fun q27 => ((f_56 N q27.2.2.2.2.2.1.1 q27.2.2.2.2.2.1.2.1 q27.2.2.2.2.2.1.2.2 q27.2.2.2.2.1).bind fun r28 => (some ((q27.2.2.2.2.1, (IntKind.i64.wrap (q27.2.2.2.1 - r28)), (IntKind.i64.wrap (q27.1 - (IntKind.i64.wrap (q27.2.2.2.1 * 1000000000))))), 0)))))))))))))
theorem ok_58 (N : Nat) (x1 : Int) (x2 : Int) (x3 : List Int) (x4 : Int) : f_58 N x1 x2 x3 x4 = exec (X_58 N) Go.Proofs.Tryd.f58.ntmps (lp_58 N) c_58 0 (fnK (X_58 N) Go.Proofs.Tryd.f58.results.toList 0 [.agg [.d (.int .i64), .d (.int .i64), .d (.int .i64)], .one (.d (.int .i64))]) (fnSt 2 0 [.agg [.d (.int .i64), .d (.int .i64), .d (.sl [.int .i64])], .one (.d (.int .i64))] ((x1, x2, x3), x4)) := by kernel_rfl
noncomputable def S_58 (N : Nat) : Sum := fnSum 2 0 2 [.agg [.d (.int .i64), .d (.int .i64), .d (.sl [.int .i64])], .one (.d (.int .i64))] [.agg [.d (.int .i64), .d (.int .i64), .d (.int .i64)], .one (.d (.int .i64))] (fun p => f_58 N p.1.1 p.1.2.1 p.1.2.2 p.2)
theorem s_58 (N : Nat) : SumOk Go.Proofs.Tryd.prog laidL 58 (S_58 N) :=
  fn_ok (lp := lp_58 N) (x_58 N) Go.Proofs.Tryd.func58 (c := c_58) (by kernel_rfl) (by kernel_rfl) rfl (fun p => ok_58 N p.1.1 p.1.2.1 p.1.2.2 p.2) (loopsAll (by kernel_rfl) ((lookOk_cons (L_ok_58_0 N) lookOk_nil)))
/-! ### fusee/num.Div -/
noncomputable def X_59 (_ : Nat) : Ctx := ⟨tyT, lookF [], eqT⟩
noncomputable def c_59 : Code := bodyOf Go.Proofs.Tryd.f59
theorem x_59 (N : Nat) : CtxOk Go.Proofs.Tryd.prog laidL (X_59 N) := ⟨tyOk, eqOk, fun _ _ => fnsOk_nil.get, by kernel_rfl⟩
noncomputable def lp_59 (_ : Nat) : Nat → Option LSum := lookL []
noncomputable def f_59 (_ : Nat) (x1 : Int) (x2 : Int) : Option (TAs [.one (.d (.int .i64)), .one (.d (.int .i64)), .one (.d (.err 95))]) :=
  (bif (decide (x2 < 1)) then (some (0, 0, (some 1))) else (bif (decide (x2 = 0)) then none else (bif (decide (x2 = 0)) then none else (bif (decide ((Int.tmod x1 x2) < 0)) then (some ((IntKind.i64.wrap ((IntKind.i64.wrap (Int.tdiv x1 x2)) - 1)), (IntKind.i64.wrap ((Int.tmod x1 x2) + x2)), none)) else (some ((IntKind.i64.wrap (Int.tdiv x1 x2)), (Int.tmod x1 x2), none))))))
theorem ok_59 (N : Nat) (x1 : Int) (x2 : Int) : f_59 N x1 x2 = exec (X_59 N) Go.Proofs.Tryd.f59.ntmps (lp_59 N) c_59 0 (fnK (X_59 N) Go.Proofs.Tryd.f59.results.toList 0 [.one (.d (.int .i64)), .one (.d (.int .i64)), .one (.d (.err 95))]) (fnSt 2 0 [.one (.d (.int .i64)), .one (.d (.int .i64))] (x1, x2)) := by kernel_rfl
noncomputable def S_59 (N : Nat) : Sum := fnSum 2 0 3 [.one (.d (.int .i64)), .one (.d (.int .i64))] [.one (.d (.int .i64)), .one (.d (.int .i64)), .one (.d (.err 95))] (fun p => f_59 N p.1 p.2)
theorem s_59 (N : Nat) : SumOk Go.Proofs.Tryd.prog laidL 59 (S_59 N) :=
  fn_ok (lp := lp_59 N) (x_59 N) Go.Proofs.Tryd.func59 (c := c_59) (by kernel_rfl) (by kernel_rfl) rfl (fun p => ok_59 N p.1 p.2) (loopsAll (by kernel_rfl) (lookOk_nil))
/-! ### fusee/leap.known -/
noncomputable def X_61 (N : Nat) : Ctx := ⟨tyT, lookF [(55, (S_55 N))], eqT⟩
noncomputable def c_61 : Code := bodyOf Go.Proofs.Tryd.f61
theorem x_61 (N : Nat) : CtxOk Go.Proofs.Tryd.prog laidL (X_61 N) := ⟨tyOk, eqOk, fun _ _ => (fnsOk_cons (s_55 N) fnsOk_nil).get, by kernel_rfl⟩
noncomputable def lp_61 (_ : Nat) : Nat → Option LSum := lookL []
noncomputable def f_61 (N : Nat) (x1 : Int) (x2 : Int) (x3 : List Int) (x4 : Int) : Option (TAs [.one (.d (.err 95))]) :=
  ((f_55 N x1 x2 x3).bind fun r5 => (bif (!(Option.isNone r5)) then (some (some 1)) else (bif (decide (x4 < (-50000))) then (some (some 2)) else (bif (decide (x4 ≥ x2)) then (some (some 10)) else (some none)))))
theorem ok_61 (N : Nat) (x1 : Int) (x2 : Int) (x3 : List Int) (x4 : Int) : f_61 N x1 x2 x3 x4 = exec (X_61 N) Go.Proofs.Tryd.f61.ntmps (lp_61 N) c_61 0 (fnK (X_61 N) Go.Proofs.Tryd.f61.results.toList 0 [.one (.d (.err 95))]) (fnSt 2 0 [.agg [.d (.int .i64), .d (.int .i64), .d (.sl [.int .i64])], .one (.d (.int .i64))] ((x1, x2, x3), x4)) := by kernel_rfl
noncomputable def S_61 (N : Nat) : Sum := fnSum 2 0 1 [.agg [.d (.int .i64), .d (.int .i64), .d (.sl [.int .i64])], .one (.d (.int .i64))] [.one (.d (.err 95))] (fun p => f_61 N p.1.1 p.1.2.1 p.1.2.2 p.2)
theorem s_61 (N : Nat) : SumOk Go.Proofs.Tryd.prog laidL 61 (S_61 N) :=
  fn_ok (lp := lp_61 N) (x_61 N) Go.Proofs.Tryd.func61 (c := c_61) (by kernel_rfl) (by kernel_rfl) rfl (fun p => ok_61 N p.1.1 p.1.2.1 p.1.2.2 p.2) (loopsAll (by kernel_rfl) (lookOk_nil))
/-! ### cmp.isNaN[int64] -/
noncomputable def X_108 (_ : Nat) : Ctx := ⟨tyT, lookF [], eqT⟩
noncomputable def c_108 : Code := bodyOf Go.Proofs.Tryd.f108
theorem x_108 (N : Nat) : CtxOk Go.Proofs.Tryd.prog laidL (X_108 N) := ⟨tyOk, eqOk, fun _ _ => fnsOk_nil.get, by kernel_rfl⟩
noncomputable def lp_108 (_ : Nat) : Nat → Option LSum := lookL []
noncomputable def f_108 (_ : Nat) (x1 : Int) : Option (TAs [.one (.d (.bool))]) :=
  (some (x1 != x1))
theorem ok_108 (N : Nat) (x1 : Int) : f_108 N x1 = exec (X_108 N) Go.Proofs.Tryd.f108.ntmps (lp_108 N) c_108 0 (fnK (X_108 N) Go.Proofs.Tryd.f108.results.toList 0 [.one (.d (.bool))]) (fnSt 1 0 [.one (.d (.int .i64))] x1) := by kernel_rfl
noncomputable def S_108 (N : Nat) : Sum := fnSum 1 0 1 [.one (.d (.int .i64))] [.one (.d (.bool))] (fun p => f_108 N p)
theorem s_108 (N : Nat) : SumOk Go.Proofs.Tryd.prog laidL 108 (S_108 N) :=
  fn_ok (lp := lp_108 N) (x_108 N) Go.Proofs.Tryd.func108 (c := c_108) (by kernel_rfl) (by kernel_rfl) rfl (fun p => ok_108 N p) (loopsAll (by kernel_rfl) (lookOk_nil))
/-! ### cmp.Less[int64] -/
noncomputable def X_126 (N : Nat) : Ctx := ⟨tyT, lookF [(108, (S_108 N))], eqT⟩
noncomputable def c_126 : Code := bodyOf Go.Proofs.Tryd.f126
theorem x_126 (N : Nat) : CtxOk Go.Proofs.Tryd.prog laidL (X_126 N) := ⟨tyOk, eqOk, fun _ _ => (fnsOk_cons (s_108 N) fnsOk_nil).get, by kernel_rfl⟩
noncomputable def lp_126 (_ : Nat) : Nat → Option LSum := lookL []
noncomputable def f_126 (N : Nat) (x1 : Int) (x2 : Int) : Option (TAs [.one (.d (.bool))]) :=
  ((f_108 N x1).bind fun r3 => (bif r3 then ((f_108 N x2).bind fun r4 => (bif (!r4) then (some true) else (some (decide (x1 < x2))))) else (some (decide (x1 < x2)))))
theorem ok_126 (N : Nat) (x1 : Int) (x2 : Int) : f_126 N x1 x2 = exec (X_126 N) Go.Proofs.Tryd.f126.ntmps (lp_126 N) c_126 0 (fnK (X_126 N) Go.Proofs.Tryd.f126.results.toList 0 [.one (.d (.bool))]) (fnSt 2 0 [.one (.d (.int .i64)), .one (.d (.int .i64))] (x1, x2)) := by kernel_rfl
noncomputable def S_126 (N : Nat) : Sum := fnSum 2 0 1 [.one (.d (.int .i64)), .one (.d (.int .i64))] [.one (.d (.bool))] (fun p => f_126 N p.1 p.2)
theorem s_126 (N : Nat) : SumOk Go.Proofs.Tryd.prog laidL 126 (S_126 N) :=
  fn_ok (lp := lp_126 N) (x_126 N) Go.Proofs.Tryd.func126 (c := c_126) (by kernel_rfl) (by kernel_rfl) rfl (fun p => ok_126 N p.1 p.2) (loopsAll (by kernel_rfl) (lookOk_nil))
/-! ### slices.isNaN[int64] -/
noncomputable def X_127 (_ : Nat) : Ctx := ⟨tyT, lookF [], eqT⟩
noncomputable def c_127 : Code := bodyOf Go.Proofs.Tryd.f127
theorem x_127 (N : Nat) : CtxOk Go.Proofs.Tryd.prog laidL (X_127 N) := ⟨tyOk, eqOk, fun _ _ => fnsOk_nil.get, by kernel_rfl⟩
noncomputable def lp_127 (_ : Nat) : Nat → Option LSum := lookL []
noncomputable def f_127 (_ : Nat) (x1 : Int) : Option (TAs [.one (.d (.bool))]) :=
  (some (x1 != x1))
theorem ok_127 (N : Nat) (x1 : Int) : f_127 N x1 = exec (X_127 N) Go.Proofs.Tryd.f127.ntmps (lp_127 N) c_127 0 (fnK (X_127 N) Go.Proofs.Tryd.f127.results.toList 0 [.one (.d (.bool))]) (fnSt 1 0 [.one (.d (.int .i64))] x1) := by kernel_rfl
noncomputable def S_127 (N : Nat) : Sum := fnSum 1 0 1 [.one (.d (.int .i64))] [.one (.d (.bool))] (fun p => f_127 N p)
theorem s_127 (N : Nat) : SumOk Go.Proofs.Tryd.prog laidL 127 (S_127 N) :=
  fn_ok (lp := lp_127 N) (x_127 N) Go.Proofs.Tryd.func127 (c := c_127) (by kernel_rfl) (by kernel_rfl) rfl (fun p => ok_127 N p) (loopsAll (by kernel_rfl) (lookOk_nil))
/-! ### fusee/smear.Lag -/
noncomputable def X_22 (N : Nat) : Ctx := ⟨tyT, lookF [(48, (S_48 N)), (26, (S_26 N)), (49, mdS), (50, (S_50 N))], eqT⟩
noncomputable def c_22 : Code := bodyOf Go.Proofs.Tryd.f22
theorem x_22 (N : Nat) : CtxOk Go.Proofs.Tryd.prog laidL (X_22 N) := ⟨tyOk, eqOk, fun _ _ => (fnsOk_cons (s_48 N) (fnsOk_cons (s_26 N) (fnsOk_cons mdS_ok (fnsOk_cons (s_50 N) fnsOk_nil)))).get, by kernel_rfl⟩
noncomputable def lp_22 (_ : Nat) : Nat → Option LSum := lookL []
noncomputable def f_22 (N : Nat) (x1 : Int) (x2 : Int) (x3 : Int) (x4 : Int) : Option (TAs [.one (.d (.int .i64)), .one (.d (.err 95))]) :=
  ((f_48 N x1 x2 x3).bind fun r5 => ((f_26 N x1 x2 x3).bind fun r6 => (bif (!(Option.isNone r6)) then (some (0, (some 1))) else (bif (x1 == 0) then (some (0, (some 1))) else (bif (decide (x4 < 0)) then (some (0, (some 1))) else (bif (decide (x4 > r5)) then (some (0, (some 1))) else (bif (x1 == 1) then ((mdF (IntKind.i64.wrap (r5 - x4)) 1000000000 r5).bind fun r7 => (some ((IntKind.i64.wrap (1000000000 - r7.1)), r7.2))) else (bif (decide (x4 ≥ (IntKind.i64.wrap (Int.tdiv r5 2)))) then ((f_50 N (IntKind.i64.wrap (r5 - x4)) r5).bind fun r8 => (some ((IntKind.i64.wrap (1000000000 - r8.1)), r8.2.2))) else ((f_50 N x4 r5).bind fun r9 => (bif (decide (r9.2.1 > 0)) then (some ((IntKind.i64.wrap (r9.1 + 1)), r9.2.2)) else (some (r9.1, r9.2.2))))))))))))
theorem ok_22 (N : Nat) (x1 : Int) (x2 : Int) (x3 : Int) (x4 : Int) : f_22 N x1 x2 x3 x4 = exec (X_22 N) Go.Proofs.Tryd.f22.ntmps (lp_22 N) c_22 0 (fnK (X_22 N) Go.Proofs.Tryd.f22.results.toList 0 [.one (.d (.int .i64)), .one (.d (.err 95))]) (fnSt 2 0 [.agg [.d (.int .i64), .d (.int .i64), .d (.int .i64)], .one (.d (.int .i64))] ((x1, x2, x3), x4)) := by kernel_rfl
noncomputable def S_22 (N : Nat) : Sum := fnSum 2 0 2 [.agg [.d (.int .i64), .d (.int .i64), .d (.int .i64)], .one (.d (.int .i64))] [.one (.d (.int .i64)), .one (.d (.err 95))] (fun p => f_22 N p.1.1 p.1.2.1 p.1.2.2 p.2)
theorem s_22 (N : Nat) : SumOk Go.Proofs.Tryd.prog laidL 22 (S_22 N) :=
  fn_ok (lp := lp_22 N) (x_22 N) Go.Proofs.Tryd.func22 (c := c_22) (by kernel_rfl) (by kernel_rfl) rfl (fun p => ok_22 N p.1.1 p.1.2.1 p.1.2.2 p.2) (loopsAll (by kernel_rfl) (lookOk_nil))
/-! ### fusee/fuseeref12.Lag -/
noncomputable def X_23 (N : Nat) : Ctx := ⟨tyT, lookF [(27, (S_27 N)), (51, (S_51 N)), (52, rmdS)], eqT⟩
noncomputable def c_23 : Code := bodyOf Go.Proofs.Tryd.f23
theorem x_23 (N : Nat) : CtxOk Go.Proofs.Tryd.prog laidL (X_23 N) := ⟨tyOk, eqOk, fun _ _ => (fnsOk_cons (s_27 N) (fnsOk_cons (s_51 N) (fnsOk_cons rmdS_ok fnsOk_nil))).get, by kernel_rfl⟩
noncomputable def lp_23 (_ : Nat) : Nat → Option LSum := lookL []
noncomputable def f_23 (N : Nat) (x1 : Int) (x2 : Int) (x3 : Int) (x4 : Int) : Option (TAs [.one (.d (.int .i64)), .one (.d (.int .i64))]) :=
  ((f_27 N x1 x2 x3).bind fun r5 => (bif (!r5) then (some (0, 1)) else (bif (x1 == 0) then (some (0, 1)) else (bif (decide (x4 < 0)) then (some (0, 1)) else (bif (decide (x4 > (IntKind.i64.wrap ((IntKind.i64.wrap ((IntKind.i64.wrap (x2 + x3)) + 1)) * 1000000000)))) then (some (0, 1)) else (bif (x1 == 1) then ((f_51 N x4 1000000000 (IntKind.i64.wrap ((IntKind.i64.wrap ((IntKind.i64.wrap (x2 + x3)) + 1)) * 1000000000))).bind fun r6 => (some (r6, 0))) else (bif (decide (x4 < (IntKind.i64.wrap (Int.tdiv (IntKind.i64.wrap ((IntKind.i64.wrap ((IntKind.i64.wrap (x2 + x3)) + 1)) * 1000000000)) 2)))) then ((rmdF x4 2000000000 (IntKind.i64.wrap ((IntKind.i64.wrap ((IntKind.i64.wrap (x2 + x3)) + 1)) * 1000000000))).bind fun r7 => ((f_51 N x4 r7.1 (IntKind.i64.wrap ((IntKind.i64.wrap ((IntKind.i64.wrap (x2 + x3)) + 1)) * 1000000000))).bind fun r8 => (some (r8, 0)))) else ((rmdF (IntKind.i64.wrap ((IntKind.i64.wrap ((IntKind.i64.wrap ((IntKind.i64.wrap (x2 + x3)) + 1)) * 1000000000)) - x4)) 2000000000 (IntKind.i64.wrap ((IntKind.i64.wrap ((IntKind.i64.wrap (x2 + x3)) + 1)) * 1000000000))).bind fun r9 => ((rmdF (IntKind.i64.wrap ((IntKind.i64.wrap ((IntKind.i64.wrap ((IntKind.i64.wrap (x2 + x3)) + 1)) * 1000000000)) - x4)) r9.1 (IntKind.i64.wrap ((IntKind.i64.wrap ((IntKind.i64.wrap (x2 + x3)) + 1)) * 1000000000))).bind fun r10 => (some ((IntKind.i64.wrap (1000000000 - r10.1)), 0)))))))))))
theorem ok_23 (N : Nat) (x1 : Int) (x2 : Int) (x3 : Int) (x4 : Int) : f_23 N x1 x2 x3 x4 = exec (X_23 N) Go.Proofs.Tryd.f23.ntmps (lp_23 N) c_23 0 (fnK (X_23 N) Go.Proofs.Tryd.f23.results.toList 0 [.one (.d (.int .i64)), .one (.d (.int .i64))]) (fnSt 2 0 [.agg [.d (.int .i64), .d (.int .i64), .d (.int .i64)], .one (.d (.int .i64))] ((x1, x2, x3), x4)) := by kernel_rfl
noncomputable def S_23 (N : Nat) : Sum := fnSum 2 0 2 [.agg [.d (.int .i64), .d (.int .i64), .d (.int .i64)], .one (.d (.int .i64))] [.one (.d (.int .i64)), .one (.d (.int .i64))] (fun p => f_23 N p.1.1 p.1.2.1 p.1.2.2 p.2)
theorem s_23 (N : Nat) : SumOk Go.Proofs.Tryd.prog laidL 23 (S_23 N) :=
  fn_ok (lp := lp_23 N) (x_23 N) Go.Proofs.Tryd.func23 (c := c_23) (by kernel_rfl) (by kernel_rfl) rfl (fun p => ok_23 N p.1.1 p.1.2.1 p.1.2.2 p.2) (loopsAll (by kernel_rfl) (lookOk_nil))
/-! ### fusee/smear.Fits -/
noncomputable def X_29 (N : Nat) : Ctx := ⟨tyT, lookF [(26, (S_26 N)), (55, (S_55 N)), (54, (S_54 N))], eqT⟩
noncomputable def c_29 : Code := bodyOf Go.Proofs.Tryd.f29
theorem x_29 (N : Nat) : CtxOk Go.Proofs.Tryd.prog laidL (X_29 N) := ⟨tyOk, eqOk, fun _ _ => (fnsOk_cons (s_26 N) (fnsOk_cons (s_55 N) (fnsOk_cons (s_54 N) fnsOk_nil))).get, by kernel_rfl⟩
noncomputable def nd_29_0 : Code := loopAt 0 0 c_29
noncomputable def cb_29_0 : Code := unloop nd_29_0
theorem ne_29_0 : nd_29_0 = .loop cb_29_0 := by kernel_rfl
noncomputable def sh_29_0 : List ShA := [.one (.ptr 160 0), .one (.ptr 176 0), .one (.d (.int .i64)), .one (.d (.int .i64)), .one (.d (.int .i64)), .agg [.d (.int .i64), .d (.int .i64), .d (.int .i64)], .agg [.d (.int .i64), .d (.int .i64), .d (.sl [.int .i64])]]
noncomputable def o_29_0 : OutK 0 (((TAs [.one (.d (.err 95))]) ⊕ (TAs []))) := (outTwo (outOne 0 .ret [4] [] [.one (.d (.err 95))]) (outOne 0 (.exit 0) [] [] []))
noncomputable def b_29_0 (N : Nat) (ih : TAs sh_29_0 → Option (((TAs [.one (.d (.err 95))]) ⊕ (TAs [])))) : TAs sh_29_0 → Option (((TAs [.one (.d (.err 95))]) ⊕ (TAs []))) := fun (_, _, y9, y10, y11, (y12, y13, y14), (y15, y16, y17)) =>
  (bif (decide (y11 < y10)) then ((f_54 N y12 y13 y14 y15 y16 y17 y11).bind fun r18 => (bif (y12 != 0) then (bif (decide (r18.1 < y9)) then (some (.inl (some 9))) else (ih ((), (), r18.2, y10, (IntKind.i64.wrap (y11 + 1)), (y12, y13, y14), (y15, y16, y17)))) else (ih ((), (), r18.2, y10, (IntKind.i64.wrap (y11 + 1)), (y12, y13, y14), (y15, y16, y17))))) else (some (.inr ())))
noncomputable def l_29_0 (N : Nat) : TAs sh_29_0 → Option (((TAs [.one (.d (.err 95))]) ⊕ (TAs []))) := iter (b_29_0 N) N
noncomputable def lp_29_0 (_ : Nat) : Nat → Option LSum := lookL []
noncomputable def L_29_0 (N : Nat) : LSum := loopSum [2, 3, 5, 20, 21] [160, 176] sh_29_0 o_29_0 (l_29_0 N)
theorem b_ok_29_0 (N : Nat) (ih : TAs sh_29_0 → Option (((TAs [.one (.d (.err 95))]) ⊕ (TAs [])))) (p : TAs sh_29_0) : b_29_0 N ih p = exec (X_29 N) Go.Proofs.Tryd.f29.ntmps (lp_29_0 N) cb_29_0 0 (roundK [2, 3, 5, 20, 21] [160, 176] sh_29_0 o_29_0 ih) (stOf [2, 3, 5, 20, 21] [160, 176] sh_29_0 p) := by kernel_rfl
theorem L_ok_29_0 (N : Nat) : SegOk Go.Proofs.Tryd.prog laidL 0 Go.Proofs.Tryd.f29.ntmps nd_29_0 (L_29_0 N) :=
  ne_29_0 ▸ loop_ok (cur := 0) (lp := lp_29_0 N) (x_29 N) (fun n => iter (b_29_0 N) n) (fun _ => rfl) (fun n p => b_ok_29_0 N (iter (b_29_0 N) n) p) (loopsAll (by kernel_rfl) (lookOk_nil)) N
noncomputable def lp_29 (N : Nat) : Nat → Option LSum := lookL [(0, L_29_0 N)]
noncomputable def f_29 (N : Nat) (x1 : Int) (x2 : Int) (x3 : Int) (x4 : Int) (x5 : Int) (x6 : List Int) : Option (TAs [.one (.d (.err 95))]) :=
  ((f_26 N x1 x2 x3).bind fun r7 => (bif (!(Option.isNone r7)) then (some (some 1)) else ((f_55 N x4 x5 x6).bind fun r8 => (bif (!(Option.isNone r8)) then (some (some 1)) else ((l_29_0 N ((), (), (-9223372036854775808), (List.length x6 : Int), 0, (x1, x2, x3), (x4, x5, x6))).bind fun q => (match q with | .inl q19 => (some q19) | .inr q20 => (some none)))))))
theorem ok_29 (N : Nat) (x1 : Int) (x2 : Int) (x3 : Int) (x4 : Int) (x5 : Int) (x6 : List Int) : f_29 N x1 x2 x3 x4 x5 x6 = exec (X_29 N) Go.Proofs.Tryd.f29.ntmps (lp_29 N) c_29 0 (fnK (X_29 N) Go.Proofs.Tryd.f29.results.toList 0 [.one (.d (.err 95))]) (fnSt 2 0 [.agg [.d (.int .i64), .d (.int .i64), .d (.int .i64)], .agg [.d (.int .i64), .d (.int .i64), .d (.sl [.int .i64])]] ((x1, x2, x3), (x4, x5, x6))) := by kernel_rfl
noncomputable def S_29 (N : Nat) : Sum := fnSum 2 0 1 [.agg [.d (.int .i64), .d (.int .i64), .d (.int .i64)], .agg [.d (.int .i64), .d (.int .i64), .d (.sl [.int .i64])]] [.one (.d (.err 95))] (fun p => f_29 N p.1.1 p.1.2.1 p.1.2.2 p.2.1 p.2.2.1 p.2.2.2)
theorem s_29 (N : Nat) : SumOk Go.Proofs.Tryd.prog laidL 29 (S_29 N) :=
  fn_ok (lp := lp_29 N) (x_29 N) Go.Proofs.Tryd.func29 (c := c_29) (by kernel_rfl) (by kernel_rfl) rfl (fun p => ok_29 N p.1.1 p.1.2.1 p.1.2.2 p.2.1 p.2.2.1 p.2.2.2) (loopsAll (by kernel_rfl) ((lookOk_cons (L_ok_29_0 N) lookOk_nil)))
/-! ### fusee/fuseeref12.Window -/
noncomputable def X_30 (N : Nat) : Ctx := ⟨tyT, lookF [(56, (S_56 N))], eqT⟩
noncomputable def c_30 : Code := bodyOf Go.Proofs.Tryd.f30
theorem x_30 (N : Nat) : CtxOk Go.Proofs.Tryd.prog laidL (X_30 N) := ⟨tyOk, eqOk, fun _ _ => (fnsOk_cons (s_56 N) fnsOk_nil).get, by kernel_rfl⟩
noncomputable def lp_30 (_ : Nat) : Nat → Option LSum := lookL []
noncomputable def f_30 (N : Nat) (_x1 : Int) (x2 : Int) (x3 : Int) (x4 : Int) (x5 : Int) (x6 : List Int) (x7 : Int) : Option (TAs [.one (.d (.int .i64)), .one (.d (.int .i64))]) :=
  (bif (decide (0 ≤ x7 ∧ x7 < (List.length x6 : Int))) then ((f_56 N x4 x5 x6 (IntKind.i64.wrap ((List.getD x6 (Int.toNat x7) 0) + 1))).bind fun r8 => (some ((IntKind.i64.wrap ((IntKind.i64.wrap ((IntKind.i64.wrap (r8 - 1)) - x2)) * 1000000000)), (IntKind.i64.wrap ((IntKind.i64.wrap (r8 + x3)) * 1000000000))))) else none)
theorem ok_30 (N : Nat) (x1 : Int) (x2 : Int) (x3 : Int) (x4 : Int) (x5 : Int) (x6 : List Int) (x7 : Int) : f_30 N x1 x2 x3 x4 x5 x6 x7 = exec (X_30 N) Go.Proofs.Tryd.f30.ntmps (lp_30 N) c_30 0 (fnK (X_30 N) Go.Proofs.Tryd.f30.results.toList 0 [.one (.d (.int .i64)), .one (.d (.int .i64))]) (fnSt 3 0 [.agg [.d (.int .i64), .d (.int .i64), .d (.int .i64)], .agg [.d (.int .i64), .d (.int .i64), .d (.sl [.int .i64])], .one (.d (.int .i64))] ((x1, x2, x3), (x4, x5, x6), x7)) := by kernel_rfl
noncomputable def S_30 (N : Nat) : Sum := fnSum 3 0 2 [.agg [.d (.int .i64), .d (.int .i64), .d (.int .i64)], .agg [.d (.int .i64), .d (.int .i64), .d (.sl [.int .i64])], .one (.d (.int .i64))] [.one (.d (.int .i64)), .one (.d (.int .i64))] (fun p => f_30 N p.1.1 p.1.2.1 p.1.2.2 p.2.1.1 p.2.1.2.1 p.2.1.2.2 p.2.2)
theorem s_30 (N : Nat) : SumOk Go.Proofs.Tryd.prog laidL 30 (S_30 N) :=
  fn_ok (lp := lp_30 N) (x_30 N) Go.Proofs.Tryd.func30 (c := c_30) (by kernel_rfl) (by kernel_rfl) rfl (fun p => ok_30 N p.1.1 p.1.2.1 p.1.2.2 p.2.1.1 p.2.1.2.1 p.2.1.2.2 p.2.2) (loopsAll (by kernel_rfl) (lookOk_nil))
/-! ### slices.BinarySearch[[]int64,int64] -/
noncomputable def X_96 (N : Nat) : Ctx := ⟨tyT, lookF [(126, (S_126 N)), (127, (S_127 N))], eqT⟩
noncomputable def c_96 : Code := bodyOf Go.Proofs.Tryd.f96
theorem x_96 (N : Nat) : CtxOk Go.Proofs.Tryd.prog laidL (X_96 N) := ⟨tyOk, eqOk, fun _ _ => (fnsOk_cons (s_126 N) (fnsOk_cons (s_127 N) fnsOk_nil)).get, by kernel_rfl⟩
noncomputable def nd_96_0 : Code := loopAt 0 0 c_96
noncomputable def cb_96_0 : Code := unloop nd_96_0
theorem ne_96_0 : nd_96_0 = .loop cb_96_0 := by kernel_rfl
noncomputable def sh_96_0 : List ShA := [.one (.d (.sl [.int .i64])), .one (.d (.int .i64)), .one (.d (.int .i64)), .one (.d (.int .i64)), .one (.d (.int .i64))]
noncomputable def o_96_0 : OutK 0 (TAs [.one (.d (.sl [.int .i64])), .one (.d (.int .i64)), .one (.d (.int .i64)), .one (.d (.int .i64))]) := (outOne 0 (.exit 0) [0, 1, 6, 7] [] [.one (.d (.sl [.int .i64])), .one (.d (.int .i64)), .one (.d (.int .i64)), .one (.d (.int .i64))])
noncomputable def b_96_0 (N : Nat) (ih : TAs sh_96_0 → Option (TAs [.one (.d (.sl [.int .i64])), .one (.d (.int .i64)), .one (.d (.int .i64)), .one (.d (.int .i64))])) : TAs sh_96_0 → Option (TAs [.one (.d (.sl [.int .i64])), .one (.d (.int .i64)), .one (.d (.int .i64)), .one (.d (.int .i64))]) := fun (y3, y4, y5, y6, y7) =>
  (bif (decide (y6 < y7)) then (bif (decide (0 ≤ (IntKind.i64.wrap ((IntKind.u64.wrap (IntKind.i64.wrap (y6 + y7))) / 2 ^ (min (Int.toNat 1) IntKind.u64.bits))) ∧ (IntKind.i64.wrap ((IntKind.u64.wrap (IntKind.i64.wrap (y6 + y7))) / 2 ^ (min (Int.toNat 1) IntKind.u64.bits))) < (List.length y3 : Int))) then ((f_126 N (List.getD y3 (Int.toNat (IntKind.i64.wrap ((IntKind.u64.wrap (IntKind.i64.wrap (y6 + y7))) / 2 ^ (min (Int.toNat 1) IntKind.u64.bits)))) 0) y4).bind fun r8 => (bif r8 then (ih (y3, y4, y5, (IntKind.i64.wrap ((IntKind.i64.wrap ((IntKind.u64.wrap (IntKind.i64.wrap (y6 + y7))) / 2 ^ (min (Int.toNat 1) IntKind.u64.bits))) + 1)), y7)) else (ih (y3, y4, y5, y6, (IntKind.i64.wrap ((IntKind.u64.wrap (IntKind.i64.wrap (y6 + y7))) / 2 ^ (min (Int.toNat 1) IntKind.u64.bits))))))) else none) else (some ((y3, y4, y5, y6))))
noncomputable def l_96_0 (N : Nat) : TAs sh_96_0 → Option (TAs [.one (.d (.sl [.int .i64])), .one (.d (.int .i64)), .one (.d (.int .i64)), .one (.d (.int .i64))]) := iter (b_96_0 N) N
noncomputable def lp_96_0 (_ : Nat) : Nat → Option LSum := lookL []
noncomputable def L_96_0 (N : Nat) : LSum := loopSum [0, 1, 6, 7, 8] [] sh_96_0 o_96_0 (l_96_0 N)
theorem b_ok_96_0 (N : Nat) (ih : TAs sh_96_0 → Option (TAs [.one (.d (.sl [.int .i64])), .one (.d (.int .i64)), .one (.d (.int .i64)), .one (.d (.int .i64))])) (p : TAs sh_96_0) : b_96_0 N ih p = exec (X_96 N) Go.Proofs.Tryd.f96.ntmps (lp_96_0 N) cb_96_0 0 (roundK [0, 1, 6, 7, 8] [] sh_96_0 o_96_0 ih) (stOf [0, 1, 6, 7, 8] [] sh_96_0 p) := by kernel_rfl
theorem L_ok_96_0 (N : Nat) : SegOk Go.Proofs.Tryd.prog laidL 0 Go.Proofs.Tryd.f96.ntmps nd_96_0 (L_96_0 N) :=
  ne_96_0 ▸ loop_ok (cur := 0) (lp := lp_96_0 N) (x_96 N) (fun n => iter (b_96_0 N) n) (fun _ => rfl) (fun n p => b_ok_96_0 N (iter (b_96_0 N) n) p) (loopsAll (by kernel_rfl) (lookOk_nil)) N
noncomputable def lp_96 (N : Nat) : Nat → Option LSum := lookL [(0, L_96_0 N)]
noncomputable def f_96 (N : Nat) (x1 : List Int) (x2 : Int) : Option (TAs [.one (.d (.int .i64)), .one (.d (.bool))]) :=
  ((l_96_0 N (x1, x2, (List.length x1 : Int), 0, (List.length x1 : Int))).bind fun q9 => (bif (decide (q9.2.2.2 < q9.2.2.1)) then (bif (decide (0 ≤ q9.2.2.2 ∧ q9.2.2.2 < (List.length q9.1 : Int))) then (bif ((List.getD q9.1 (Int.toNat q9.2.2.2) 0) == q9.2.1) then (some (q9.2.2.2, true)) else (bif (decide (0 ≤ q9.2.2.2 ∧ q9.2.2.2 < (List.length q9.1 : Int))) then ((f_127 N (List.getD q9.1 (Int.toNat q9.2.2.2) 0)).bind fun r10 => (bif r10 then ((f_127 N q9.2.1).bind fun r11 => (some (q9.2.2.2, r11))) else (some (q9.2.2.2, false)))) else none)) else none) else (some (q9.2.2.2, false))))
theorem ok_96 (N : Nat) (x1 : List Int) (x2 : Int) : f_96 N x1 x2 = exec (X_96 N) Go.Proofs.Tryd.f96.ntmps (lp_96 N) c_96 0 (fnK (X_96 N) Go.Proofs.Tryd.f96.results.toList 0 [.one (.d (.int .i64)), .one (.d (.bool))]) (fnSt 2 0 [.one (.d (.sl [.int .i64])), .one (.d (.int .i64))] (x1, x2)) := by kernel_rfl
noncomputable def S_96 (N : Nat) : Sum := fnSum 2 0 2 [.one (.d (.sl [.int .i64])), .one (.d (.int .i64))] [.one (.d (.int .i64)), .one (.d (.bool))] (fun p => f_96 N p.1 p.2)
theorem s_96 (N : Nat) : SumOk Go.Proofs.Tryd.prog laidL 96 (S_96 N) :=
  fn_ok (lp := lp_96 N) (x_96 N) Go.Proofs.Tryd.func96 (c := c_96) (by kernel_rfl) (by kernel_rfl) rfl (fun p => ok_96 N p.1 p.2) (loopsAll (by kernel_rfl) ((lookOk_cons (L_ok_96_0 N) lookOk_nil)))
/-! ### fusee/fuseeref12.Fits -/
noncomputable def X_24 (N : Nat) : Ctx := ⟨tyT, lookF [(27, (S_27 N)), (53, (S_53 N)), (30, (S_30 N))], eqT⟩
noncomputable def c_24 : Code := bodyOf Go.Proofs.Tryd.f24
theorem x_24 (N : Nat) : CtxOk Go.Proofs.Tryd.prog laidL (X_24 N) := ⟨tyOk, eqOk, fun _ _ => (fnsOk_cons (s_27 N) (fnsOk_cons (s_53 N) (fnsOk_cons (s_30 N) fnsOk_nil))).get, by kernel_rfl⟩
noncomputable def nd_24_0 : Code := loopAt 0 0 c_24
noncomputable def cb_24_0 : Code := unloop nd_24_0
theorem ne_24_0 : nd_24_0 = .loop cb_24_0 := by kernel_rfl
noncomputable def sh_24_0 : List ShA := [.one (.ptr 160 0), .one (.ptr 176 0), .one (.d (.int .i64)), .agg [.d (.int .i64), .d (.int .i64), .d (.int .i64)], .agg [.d (.int .i64), .d (.int .i64), .d (.sl [.int .i64])]]
noncomputable def o_24_0 : OutK 0 (((TAs [.one (.d (.int .i64))]) ⊕ (TAs []))) := (outTwo (outOne 0 .ret [4] [] [.one (.d (.int .i64))]) (outOne 0 (.exit 0) [] [] []))
noncomputable def b_24_0 (N : Nat) (ih : TAs sh_24_0 → Option (((TAs [.one (.d (.int .i64))]) ⊕ (TAs [])))) : TAs sh_24_0 → Option (((TAs [.one (.d (.int .i64))]) ⊕ (TAs []))) := fun (_, _, y9, (y10, y11, y12), (y13, y14, y15)) =>
  (bif (decide (y9 < (List.length y15 : Int))) then ((f_30 N y10 y11 y12 y13 y14 y15 (IntKind.i64.wrap (y9 - 1))).bind fun r16 => ((f_30 N y10 y11 y12 y13 y14 y15 y9).bind fun r17 => (bif (decide (y10 > 0)) then (bif (decide (r17.1 < r16.2)) then (some (.inl 9)) else (ih ((), (), (IntKind.i64.wrap (y9 + 1)), (y10, y11, y12), (y13, y14, y15)))) else (ih ((), (), (IntKind.i64.wrap (y9 + 1)), (y10, y11, y12), (y13, y14, y15)))))) else (some (.inr ())))
noncomputable def l_24_0 (N : Nat) : TAs sh_24_0 → Option (((TAs [.one (.d (.int .i64))]) ⊕ (TAs []))) := iter (b_24_0 N) N
noncomputable def lp_24_0 (_ : Nat) : Nat → Option LSum := lookL []
noncomputable def L_24_0 (N : Nat) : LSum := loopSum [2, 3, 5] [160, 176] sh_24_0 o_24_0 (l_24_0 N)
theorem b_ok_24_0 (N : Nat) (ih : TAs sh_24_0 → Option (((TAs [.one (.d (.int .i64))]) ⊕ (TAs [])))) (p : TAs sh_24_0) : b_24_0 N ih p = exec (X_24 N) Go.Proofs.Tryd.f24.ntmps (lp_24_0 N) cb_24_0 0 (roundK [2, 3, 5] [160, 176] sh_24_0 o_24_0 ih) (stOf [2, 3, 5] [160, 176] sh_24_0 p) := by kernel_rfl
theorem L_ok_24_0 (N : Nat) : SegOk Go.Proofs.Tryd.prog laidL 0 Go.Proofs.Tryd.f24.ntmps nd_24_0 (L_24_0 N) :=
  ne_24_0 ▸ loop_ok (cur := 0) (lp := lp_24_0 N) (x_24 N) (fun n => iter (b_24_0 N) n) (fun _ => rfl) (fun n p => b_ok_24_0 N (iter (b_24_0 N) n) p) (loopsAll (by kernel_rfl) (lookOk_nil)) N
noncomputable def lp_24 (N : Nat) : Nat → Option LSum := lookL [(0, L_24_0 N)]
noncomputable def f_24 (N : Nat) (x1 : Int) (x2 : Int) (x3 : Int) (x4 : Int) (x5 : Int) (x6 : List Int) : Option (TAs [.one (.d (.int .i64))]) :=
  ((f_27 N x1 x2 x3).bind fun r7 => (bif (!r7) then (some 1) else ((f_53 N x4 x5 x6).bind fun r8 => (bif (!r8) then (some 1) else ((l_24_0 N ((), (), 1, (x1, x2, x3), (x4, x5, x6))).bind fun q => (match q with | .inl q18 => (some q18) | .inr q19 => (some 0)))))))
theorem ok_24 (N : Nat) (x1 : Int) (x2 : Int) (x3 : Int) (x4 : Int) (x5 : Int) (x6 : List Int) : f_24 N x1 x2 x3 x4 x5 x6 = exec (X_24 N) Go.Proofs.Tryd.f24.ntmps (lp_24 N) c_24 0 (fnK (X_24 N) Go.Proofs.Tryd.f24.results.toList 0 [.one (.d (.int .i64))]) (fnSt 2 0 [.agg [.d (.int .i64), .d (.int .i64), .d (.int .i64)], .agg [.d (.int .i64), .d (.int .i64), .d (.sl [.int .i64])]] ((x1, x2, x3), (x4, x5, x6))) := by kernel_rfl
noncomputable def S_24 (N : Nat) : Sum := fnSum 2 0 1 [.agg [.d (.int .i64), .d (.int .i64), .d (.int .i64)], .agg [.d (.int .i64), .d (.int .i64), .d (.sl [.int .i64])]] [.one (.d (.int .i64))] (fun p => f_24 N p.1.1 p.1.2.1 p.1.2.2 p.2.1 p.2.2.1 p.2.2.2)
theorem s_24 (N : Nat) : SumOk Go.Proofs.Tryd.prog laidL 24 (S_24 N) :=
  fn_ok (lp := lp_24 N) (x_24 N) Go.Proofs.Tryd.func24 (c := c_24) (by kernel_rfl) (by kernel_rfl) rfl (fun p => ok_24 N p.1.1 p.1.2.1 p.1.2.2 p.2.1 p.2.2.1 p.2.2.2) (loopsAll (by kernel_rfl) ((lookOk_cons (L_ok_24_0 N) lookOk_nil)))
/-! ### fusee/smear.Window -/
noncomputable def X_25 (N : Nat) : Ctx := ⟨tyT, lookF [(29, (S_29 N)), (54, (S_54 N))], eqT⟩
noncomputable def c_25 : Code := bodyOf Go.Proofs.Tryd.f25
theorem x_25 (N : Nat) : CtxOk Go.Proofs.Tryd.prog laidL (X_25 N) := ⟨tyOk, eqOk, fun _ _ => (fnsOk_cons (s_29 N) (fnsOk_cons (s_54 N) fnsOk_nil)).get, by kernel_rfl⟩
noncomputable def lp_25 (_ : Nat) : Nat → Option LSum := lookL []
noncomputable def f_25 (N : Nat) (x1 : Int) (x2 : Int) (x3 : Int) (x4 : Int) (x5 : Int) (x6 : List Int) (x7 : Int) : Option (TAs [.one (.d (.int .i64)), .one (.d (.int .i64)), .one (.d (.err 95))]) :=
  ((f_29 N x1 x2 x3 x4 x5 x6).bind fun r8 => (bif (!(Option.isNone r8)) then (some (0, 0, r8)) else (bif (x1 == 0) then (some (0, 0, (some 1))) else (bif (decide (x7 < 0)) then (some (0, 0, (some 1))) else (bif (decide (x7 ≥ (List.length x6 : Int))) then (some (0, 0, (some 1))) else ((f_54 N x1 x2 x3 x4 x5 x6 x7).bind fun r9 => (some ((IntKind.i64.wrap (r9.1 * 1000000000)), (IntKind.i64.wrap (r9.2 * 1000000000)), none))))))))
theorem ok_25 (N : Nat) (x1 : Int) (x2 : Int) (x3 : Int) (x4 : Int) (x5 : Int) (x6 : List Int) (x7 : Int) : f_25 N x1 x2 x3 x4 x5 x6 x7 = exec (X_25 N) Go.Proofs.Tryd.f25.ntmps (lp_25 N) c_25 0 (fnK (X_25 N) Go.Proofs.Tryd.f25.results.toList 0 [.one (.d (.int .i64)), .one (.d (.int .i64)), .one (.d (.err 95))]) (fnSt 3 0 [.agg [.d (.int .i64), .d (.int .i64), .d (.int .i64)], .agg [.d (.int .i64), .d (.int .i64), .d (.sl [.int .i64])], .one (.d (.int .i64))] ((x1, x2, x3), (x4, x5, x6), x7)) := by kernel_rfl
noncomputable def S_25 (N : Nat) : Sum := fnSum 3 0 3 [.agg [.d (.int .i64), .d (.int .i64), .d (.int .i64)], .agg [.d (.int .i64), .d (.int .i64), .d (.sl [.int .i64])], .one (.d (.int .i64))] [.one (.d (.int .i64)), .one (.d (.int .i64)), .one (.d (.err 95))] (fun p => f_25 N p.1.1 p.1.2.1 p.1.2.2 p.2.1.1 p.2.1.2.1 p.2.1.2.2 p.2.2)
theorem s_25 (N : Nat) : SumOk Go.Proofs.Tryd.prog laidL 25 (S_25 N) :=
  fn_ok (lp := lp_25 N) (x_25 N) Go.Proofs.Tryd.func25 (c := c_25) (by kernel_rfl) (by kernel_rfl) rfl (fun p => ok_25 N p.1.1 p.1.2.1 p.1.2.2 p.2.1.1 p.2.1.2.1 p.2.1.2.2 p.2.2) (loopsAll (by kernel_rfl) (lookOk_nil))
/-! ### fusee/fuseeref12.At -/
noncomputable def X_32 (N : Nat) : Ctx := ⟨tyT, lookF [(24, (S_24 N)), (58, (S_58 N)), (30, (S_30 N)), (23, (S_23 N)), (56, (S_56 N))], eqT⟩
noncomputable def c_32 : Code := bodyOf Go.Proofs.Tryd.f32
theorem x_32 (N : Nat) : CtxOk Go.Proofs.Tryd.prog laidL (X_32 N) := ⟨tyOk, eqOk, fun _ _ => (fnsOk_cons (s_24 N) (fnsOk_cons (s_58 N) (fnsOk_cons (s_30 N) (fnsOk_cons (s_23 N) (fnsOk_cons (s_56 N) fnsOk_nil))))).get, by kernel_rfl⟩
noncomputable def nd_32_0 : Code := loopAt 0 0 c_32
noncomputable def cb_32_0 : Code := unloop nd_32_0
theorem ne_32_0 : nd_32_0 = .loop cb_32_0 := by kernel_rfl
noncomputable def sh_32_0 : List ShA := [.one (.d (.int .i64)), .one (.ptr 176 0), .one (.ptr 192 0), .one (.ptr 272 0), .one (.d (.int .i64)), .agg [.d (.int .i64), .d (.int .i64), .d (.int .i64)], .agg [.d (.int .i64), .d (.int .i64), .d (.sl [.int .i64])], .agg [.d (.int .i64), .d (.int .i64), .d (.int .i64)]]
noncomputable def o_32_0 : OutK 0 (((TAs [.one (.d (.int .i64)), .one (.d (.int .i64))]) ⊕ (TAs [.one (.d (.int .i64)), .one (.ptr 192 0), .one (.ptr 272 0), .agg [.d (.int .i64), .d (.int .i64), .d (.sl [.int .i64])], .agg [.d (.int .i64), .d (.int .i64), .d (.int .i64)]]))) := (outTwo (outOne 0 .ret [6, 7] [] [.one (.d (.int .i64)), .one (.d (.int .i64))]) (outOne 0 (.exit 0) [2, 4, 9] [192, 272] [.one (.d (.int .i64)), .one (.ptr 192 0), .one (.ptr 272 0), .agg [.d (.int .i64), .d (.int .i64), .d (.sl [.int .i64])], .agg [.d (.int .i64), .d (.int .i64), .d (.int .i64)]]))
noncomputable def b_32_0 (N : Nat) (ih : TAs sh_32_0 → Option (((TAs [.one (.d (.int .i64)), .one (.d (.int .i64))]) ⊕ (TAs [.one (.d (.int .i64)), .one (.ptr 192 0), .one (.ptr 272 0), .agg [.d (.int .i64), .d (.int .i64), .d (.sl [.int .i64])], .agg [.d (.int .i64), .d (.int .i64), .d (.int .i64)]])))) : TAs sh_32_0 → Option (((TAs [.one (.d (.int .i64)), .one (.d (.int .i64))]) ⊕ (TAs [.one (.d (.int .i64)), .one (.ptr 192 0), .one (.ptr 272 0), .agg [.d (.int .i64), .d (.int .i64), .d (.sl [.int .i64])], .agg [.d (.int .i64), .d (.int .i64), .d (.int .i64)]]))) := fun (y10, _, _, _, y11, (y12, y13, y14), (y15, y16, y17), (y18, y19, y20)) =>
  (bif (decide (y11 < (List.length y17 : Int))) then (bif (decide (y12 > 0)) then ((f_30 N y12 y13 y14 y15 y16 y17 y11).bind fun r21 => (bif (decide (y10 ≥ r21.1)) then (bif (decide (y10 < r21.2)) then ((f_23 N y12 y13 y14 (IntKind.i64.wrap (y10 - r21.1))).bind fun r22 => (bif (decide (0 ≤ y11 ∧ y11 < (List.length y17 : Int))) then ((f_56 N y15 y16 y17 (List.getD y17 (Int.toNat y11) 0)).bind fun r23 => (bif (decide (0 ≤ y11 ∧ y11 < (List.length y17 : Int))) then (some (.inl ((IntKind.i64.wrap ((IntKind.i64.wrap (y10 - (IntKind.i64.wrap ((IntKind.i64.wrap (r23 - (IntKind.i64.wrap (86400 * (List.getD y17 (Int.toNat y11) 0))))) * 1000000000)))) - r22.1)), 0))) else none)) else none)) else (ih (y10, (), (), (), (IntKind.i64.wrap (y11 + 1)), (y12, y13, y14), (y15, y16, y17), (y18, y19, y20)))) else (ih (y10, (), (), (), (IntKind.i64.wrap (y11 + 1)), (y12, y13, y14), (y15, y16, y17), (y18, y19, y20))))) else (some (.inr (y10, (), (), (y15, y16, y17), (y18, y19, y20))))) else (some (.inr (y10, (), (), (y15, y16, y17), (y18, y19, y20)))))
noncomputable def l_32_0 (N : Nat) : TAs sh_32_0 → Option (((TAs [.one (.d (.int .i64)), .one (.d (.int .i64))]) ⊕ (TAs [.one (.d (.int .i64)), .one (.ptr 192 0), .one (.ptr 272 0), .agg [.d (.int .i64), .d (.int .i64), .d (.sl [.int .i64])], .agg [.d (.int .i64), .d (.int .i64), .d (.int .i64)]]))) := iter (b_32_0 N) N
noncomputable def lp_32_0 (_ : Nat) : Nat → Option LSum := lookL []
noncomputable def L_32_0 (N : Nat) : LSum := loopSum [2, 3, 4, 9, 10] [176, 192, 272] sh_32_0 o_32_0 (l_32_0 N)
theorem b_ok_32_0 (N : Nat) (ih : TAs sh_32_0 → Option (((TAs [.one (.d (.int .i64)), .one (.d (.int .i64))]) ⊕ (TAs [.one (.d (.int .i64)), .one (.ptr 192 0), .one (.ptr 272 0), .agg [.d (.int .i64), .d (.int .i64), .d (.sl [.int .i64])], .agg [.d (.int .i64), .d (.int .i64), .d (.int .i64)]])))) (p : TAs sh_32_0) : b_32_0 N ih p = exec (X_32 N) Go.Proofs.Tryd.f32.ntmps (lp_32_0 N) cb_32_0 0 (roundK [2, 3, 4, 9, 10] [176, 192, 272] sh_32_0 o_32_0 ih) (stOf [2, 3, 4, 9, 10] [176, 192, 272] sh_32_0 p) := by kernel_rfl
theorem L_ok_32_0 (N : Nat) : SegOk Go.Proofs.Tryd.prog laidL 0 Go.Proofs.Tryd.f32.ntmps nd_32_0 (L_32_0 N) :=
  ne_32_0 ▸ loop_ok (cur := 0) (lp := lp_32_0 N) (x_32 N) (fun n => iter (b_32_0 N) n) (fun _ => rfl) (fun n p => b_ok_32_0 N (iter (b_32_0 N) n) p) (loopsAll (by kernel_rfl) (lookOk_nil)) N
noncomputable def lp_32 (N : Nat) : Nat → Option LSum := lookL [(0, L_32_0 N)]
noncomputable def f_32 (N : Nat) (x1 : Int) (x2 : Int) (x3 : Int) (x4 : Int) (x5 : Int) (x6 : List Int) (x7 : Int) : Option (TAs [.one (.d (.int .i64)), .one (.d (.int .i64))]) :=
  ((f_24 N x1 x2 x3 x4 x5 x6).bind fun r8 => (bif (r8 != 0) then (some (0, r8)) else ((f_58 N x4 x5 x6 x7).bind fun r9 => (bif (r9.2 != 0) then (some (0, r9.2)) else ((l_32_0 N (x7, (), (), (), 0, (x1, x2, x3), (x4, x5, x6), (r9.1.1, r9.1.2.1, r9.1.2.2))).bind fun q => (match q with | .inl q24 => (some (q24.1, q24.2)) | .inr q25 => ((f_56 N q25.2.2.2.1.1 q25.2.2.2.1.2.1 q25.2.2.2.1.2.2 q25.2.2.2.2.1).bind fun r26 => (some ((IntKind.i64.wrap (q25.1 - (IntKind.i64.wrap ((IntKind.i64.wrap (r26 - (IntKind.i64.wrap (86400 * q25.2.2.2.2.1)))) * 1000000000)))), 0)))))))))
theorem ok_32 (N : Nat) (x1 : Int) (x2 : Int) (x3 : Int) (x4 : Int) (x5 : Int) (x6 : List Int) (x7 : Int) : f_32 N x1 x2 x3 x4 x5 x6 x7 = exec (X_32 N) Go.Proofs.Tryd.f32.ntmps (lp_32 N) c_32 0 (fnK (X_32 N) Go.Proofs.Tryd.f32.results.toList 0 [.one (.d (.int .i64)), .one (.d (.int .i64))]) (fnSt 3 0 [.agg [.d (.int .i64), .d (.int .i64), .d (.int .i64)], .agg [.d (.int .i64), .d (.int .i64), .d (.sl [.int .i64])], .one (.d (.int .i64))] ((x1, x2, x3), (x4, x5, x6), x7)) := by kernel_rfl
noncomputable def S_32 (N : Nat) : Sum := fnSum 3 0 2 [.agg [.d (.int .i64), .d (.int .i64), .d (.int .i64)], .agg [.d (.int .i64), .d (.int .i64), .d (.sl [.int .i64])], .one (.d (.int .i64))] [.one (.d (.int .i64)), .one (.d (.int .i64))] (fun p => f_32 N p.1.1 p.1.2.1 p.1.2.2 p.2.1.1 p.2.1.2.1 p.2.1.2.2 p.2.2)
theorem s_32 (N : Nat) : SumOk Go.Proofs.Tryd.prog laidL 32 (S_32 N) :=
  fn_ok (lp := lp_32 N) (x_32 N) Go.Proofs.Tryd.func32 (c := c_32) (by kernel_rfl) (by kernel_rfl) rfl (fun p => ok_32 N p.1.1 p.1.2.1 p.1.2.2 p.2.1.1 p.2.1.2.1 p.2.1.2.2 p.2.2) (loopsAll (by kernel_rfl) ((lookOk_cons (L_ok_32_0 N) lookOk_nil)))
/-! ### fusee/leap.ahead -/
noncomputable def X_62 (N : Nat) : Ctx := ⟨tyT, lookF [(96, (S_96 N))], eqT⟩
noncomputable def c_62 : Code := bodyOf Go.Proofs.Tryd.f62
theorem x_62 (N : Nat) : CtxOk Go.Proofs.Tryd.prog laidL (X_62 N) := ⟨tyOk, eqOk, fun _ _ => (fnsOk_cons (s_96 N) fnsOk_nil).get, by kernel_rfl⟩
noncomputable def lp_62 (_ : Nat) : Nat → Option LSum := lookL []
noncomputable def f_62 (N : Nat) (x1 : Int) (_x2 : Int) (x3 : List Int) (x4 : Int) : Option (TAs [.one (.d (.int .i64))]) :=
  ((f_96 N x3 x4).bind fun r5 => (some (IntKind.i64.wrap (x1 + r5.1))))
theorem ok_62 (N : Nat) (x1 : Int) (x2 : Int) (x3 : List Int) (x4 : Int) : f_62 N x1 x2 x3 x4 = exec (X_62 N) Go.Proofs.Tryd.f62.ntmps (lp_62 N) c_62 0 (fnK (X_62 N) Go.Proofs.Tryd.f62.results.toList 0 [.one (.d (.int .i64))]) (fnSt 2 0 [.agg [.d (.int .i64), .d (.int .i64), .d (.sl [.int .i64])], .one (.d (.int .i64))] ((x1, x2, x3), x4)) := by kernel_rfl
noncomputable def S_62 (N : Nat) : Sum := fnSum 2 0 1 [.agg [.d (.int .i64), .d (.int .i64), .d (.sl [.int .i64])], .one (.d (.int .i64))] [.one (.d (.int .i64))] (fun p => f_62 N p.1.1 p.1.2.1 p.1.2.2 p.2)
theorem s_62 (N : Nat) : SumOk Go.Proofs.Tryd.prog laidL 62 (S_62 N) :=
  fn_ok (lp := lp_62 N) (x_62 N) Go.Proofs.Tryd.func62 (c := c_62) (by kernel_rfl) (by kernel_rfl) rfl (fun p => ok_62 N p.1.1 p.1.2.1 p.1.2.2 p.2) (loopsAll (by kernel_rfl) (lookOk_nil))
/-! ### fusee/leap.Ahead -/
noncomputable def X_34 (N : Nat) : Ctx := ⟨tyT, lookF [(61, (S_61 N)), (62, (S_62 N))], eqT⟩
noncomputable def c_34 : Code := bodyOf Go.Proofs.Tryd.f34
theorem x_34 (N : Nat) : CtxOk Go.Proofs.Tryd.prog laidL (X_34 N) := ⟨tyOk, eqOk, fun _ _ => (fnsOk_cons (s_61 N) (fnsOk_cons (s_62 N) fnsOk_nil)).get, by kernel_rfl⟩
noncomputable def lp_34 (_ : Nat) : Nat → Option LSum := lookL []
noncomputable def f_34 (N : Nat) (x1 : Int) (x2 : Int) (x3 : List Int) (x4 : Int) : Option (TAs [.one (.d (.int .i64)), .one (.d (.err 95))]) :=
  ((f_61 N x1 x2 x3 x4).bind fun r5 => (bif (!(Option.isNone r5)) then (some (0, r5)) else ((f_62 N x1 x2 x3 x4).bind fun r6 => (some (r6, none)))))
theorem ok_34 (N : Nat) (x1 : Int) (x2 : Int) (x3 : List Int) (x4 : Int) : f_34 N x1 x2 x3 x4 = exec (X_34 N) Go.Proofs.Tryd.f34.ntmps (lp_34 N) c_34 0 (fnK (X_34 N) Go.Proofs.Tryd.f34.results.toList 0 [.one (.d (.int .i64)), .one (.d (.err 95))]) (fnSt 2 0 [.agg [.d (.int .i64), .d (.int .i64), .d (.sl [.int .i64])], .one (.d (.int .i64))] ((x1, x2, x3), x4)) := by kernel_rfl
noncomputable def S_34 (N : Nat) : Sum := fnSum 2 0 2 [.agg [.d (.int .i64), .d (.int .i64), .d (.sl [.int .i64])], .one (.d (.int .i64))] [.one (.d (.int .i64)), .one (.d (.err 95))] (fun p => f_34 N p.1.1 p.1.2.1 p.1.2.2 p.2)
theorem s_34 (N : Nat) : SumOk Go.Proofs.Tryd.prog laidL 34 (S_34 N) :=
  fn_ok (lp := lp_34 N) (x_34 N) Go.Proofs.Tryd.func34 (c := c_34) (by kernel_rfl) (by kernel_rfl) rfl (fun p => ok_34 N p.1.1 p.1.2.1 p.1.2.2 p.2) (loopsAll (by kernel_rfl) (lookOk_nil))
/-! ### fusee/leap.begin -/
noncomputable def X_60 (N : Nat) : Ctx := ⟨tyT, lookF [(62, (S_62 N))], eqT⟩
noncomputable def c_60 : Code := bodyOf Go.Proofs.Tryd.f60
theorem x_60 (N : Nat) : CtxOk Go.Proofs.Tryd.prog laidL (X_60 N) := ⟨tyOk, eqOk, fun _ _ => (fnsOk_cons (s_62 N) fnsOk_nil).get, by kernel_rfl⟩
noncomputable def lp_60 (_ : Nat) : Nat → Option LSum := lookL []
noncomputable def f_60 (N : Nat) (x1 : Int) (x2 : Int) (x3 : List Int) (x4 : Int) : Option (TAs [.one (.d (.int .i64))]) :=
  ((f_62 N x1 x2 x3 x4).bind fun r5 => (some (IntKind.i64.wrap ((IntKind.i64.wrap (x4 * 86400)) + r5))))
theorem ok_60 (N : Nat) (x1 : Int) (x2 : Int) (x3 : List Int) (x4 : Int) : f_60 N x1 x2 x3 x4 = exec (X_60 N) Go.Proofs.Tryd.f60.ntmps (lp_60 N) c_60 0 (fnK (X_60 N) Go.Proofs.Tryd.f60.results.toList 0 [.one (.d (.int .i64))]) (fnSt 2 0 [.agg [.d (.int .i64), .d (.int .i64), .d (.sl [.int .i64])], .one (.d (.int .i64))] ((x1, x2, x3), x4)) := by kernel_rfl
noncomputable def S_60 (N : Nat) : Sum := fnSum 2 0 1 [.agg [.d (.int .i64), .d (.int .i64), .d (.sl [.int .i64])], .one (.d (.int .i64))] [.one (.d (.int .i64))] (fun p => f_60 N p.1.1 p.1.2.1 p.1.2.2 p.2)
theorem s_60 (N : Nat) : SumOk Go.Proofs.Tryd.prog laidL 60 (S_60 N) :=
  fn_ok (lp := lp_60 N) (x_60 N) Go.Proofs.Tryd.func60 (c := c_60) (by kernel_rfl) (by kernel_rfl) rfl (fun p => ok_60 N p.1.1 p.1.2.1 p.1.2.2 p.2) (loopsAll (by kernel_rfl) (lookOk_nil))
/-! ### fusee/leap.UTC -/
noncomputable def X_33 (N : Nat) : Ctx := ⟨tyT, lookF [(55, (S_55 N)), (59, (S_59 N)), (60, (S_60 N))], eqT⟩
noncomputable def c_33 : Code := bodyOf Go.Proofs.Tryd.f33
theorem x_33 (N : Nat) : CtxOk Go.Proofs.Tryd.prog laidL (X_33 N) := ⟨tyOk, eqOk, fun _ _ => (fnsOk_cons (s_55 N) (fnsOk_cons (s_59 N) (fnsOk_cons (s_60 N) fnsOk_nil))).get, by kernel_rfl⟩
noncomputable def nd_33_0 : Code := loopAt 0 0 c_33
noncomputable def cb_33_0 : Code := unloop nd_33_0
theorem ne_33_0 : nd_33_0 = .loop cb_33_0 := by kernel_rfl
noncomputable def sh_33_0 : List ShA := [.one (.ptr 160 0), .one (.ptr 192 0), .one (.d (.int .i64)), .one (.d (.int .i64)), .one (.d (.int .i64)), .agg [.d (.int .i64), .d (.int .i64), .d (.sl [.int .i64])], .agg [.d (.int .i64), .d (.int .i64), .d (.int .i64)]]
noncomputable def o_33_0 : OutK 0 (TAs [.one (.ptr 160 0), .one (.ptr 192 0), .one (.d (.int .i64)), .one (.d (.int .i64)), .one (.d (.int .i64)), .agg [.d (.int .i64), .d (.int .i64), .d (.sl [.int .i64])], .agg [.d (.int .i64), .d (.int .i64), .d (.int .i64)]]) := (outOne 0 (.exit 0) [2, 4, 7, 8, 10] [160, 192] [.one (.ptr 160 0), .one (.ptr 192 0), .one (.d (.int .i64)), .one (.d (.int .i64)), .one (.d (.int .i64)), .agg [.d (.int .i64), .d (.int .i64), .d (.sl [.int .i64])], .agg [.d (.int .i64), .d (.int .i64), .d (.int .i64)]])
noncomputable def b_33_0 (N : Nat) (ih : TAs sh_33_0 → Option (TAs [.one (.ptr 160 0), .one (.ptr 192 0), .one (.d (.int .i64)), .one (.d (.int .i64)), .one (.d (.int .i64)), .agg [.d (.int .i64), .d (.int .i64), .d (.sl [.int .i64])], .agg [.d (.int .i64), .d (.int .i64), .d (.int .i64)]])) : TAs sh_33_0 → Option (TAs [.one (.ptr 160 0), .one (.ptr 192 0), .one (.d (.int .i64)), .one (.d (.int .i64)), .one (.d (.int .i64)), .agg [.d (.int .i64), .d (.int .i64), .d (.sl [.int .i64])], .agg [.d (.int .i64), .d (.int .i64), .d (.int .i64)]]) := fun (_, _, y10, y11, y12, (y13, y14, y15), (y16, y17, y18)) =>
  ((f_60 N y13 y14 y15 y12).bind fun r19 => (bif (decide (y10 < r19)) then (ih ((), (), y10, y11, (IntKind.i64.wrap (y12 - 1)), (y13, y14, y15), (y16, y17, y18))) else (some (((), (), y10, y11, y12, (y13, y14, y15), (y16, y17, y18))))))
noncomputable def l_33_0 (N : Nat) : TAs sh_33_0 → Option (TAs [.one (.ptr 160 0), .one (.ptr 192 0), .one (.d (.int .i64)), .one (.d (.int .i64)), .one (.d (.int .i64)), .agg [.d (.int .i64), .d (.int .i64), .d (.sl [.int .i64])], .agg [.d (.int .i64), .d (.int .i64), .d (.int .i64)]]) := iter (b_33_0 N) N
noncomputable def lp_33_0 (_ : Nat) : Nat → Option LSum := lookL []
noncomputable def L_33_0 (N : Nat) : LSum := loopSum [2, 4, 7, 8, 10] [160, 192] sh_33_0 o_33_0 (l_33_0 N)
theorem b_ok_33_0 (N : Nat) (ih : TAs sh_33_0 → Option (TAs [.one (.ptr 160 0), .one (.ptr 192 0), .one (.d (.int .i64)), .one (.d (.int .i64)), .one (.d (.int .i64)), .agg [.d (.int .i64), .d (.int .i64), .d (.sl [.int .i64])], .agg [.d (.int .i64), .d (.int .i64), .d (.int .i64)]])) (p : TAs sh_33_0) : b_33_0 N ih p = exec (X_33 N) Go.Proofs.Tryd.f33.ntmps (lp_33_0 N) cb_33_0 0 (roundK [2, 4, 7, 8, 10] [160, 192] sh_33_0 o_33_0 ih) (stOf [2, 4, 7, 8, 10] [160, 192] sh_33_0 p) := by kernel_rfl
theorem L_ok_33_0 (N : Nat) : SegOk Go.Proofs.Tryd.prog laidL 0 Go.Proofs.Tryd.f33.ntmps nd_33_0 (L_33_0 N) :=
  ne_33_0 ▸ loop_ok (cur := 0) (lp := lp_33_0 N) (x_33 N) (fun n => iter (b_33_0 N) n) (fun _ => rfl) (fun n p => b_ok_33_0 N (iter (b_33_0 N) n) p) (loopsAll (by kernel_rfl) (lookOk_nil)) N
noncomputable def lp_33 (N : Nat) : Nat → Option LSum := lookL [(0, L_33_0 N)]
noncomputable def f_33 (N : Nat) (x1 : Int) (x2 : Int) (x3 : List Int) (x4 : Int) : Option (TAs [.agg [.d (.int .i64), .d (.int .i64), .d (.int .i64)], .one (.d (.err 95))]) :=
  ((f_55 N x1 x2 x3).bind fun r5 => (bif (!(Option.isNone r5)) then (some ((0, 0, 0), r5)) else ((f_59 N x4 1000000000).bind fun r6 => (bif (!(Option.isNone r6.2.2)) then (some ((0, 0, 0), (some 2))) else (bif (decide (x4 ≤ (-4611686018427387904))) then (some ((0, 0, 0), (some 2))) else (bif (decide (x4 ≥ 4611686018427387904)) then (some ((0, 0, 0), (some 2))) else ((f_60 N x1 x2 x3 (-50000)).bind fun r7 => (bif (decide (r6.1 < r7)) then (some ((0, 0, 0), (some 2))) else ((f_60 N x1 x2 x3 x2).bind fun r8 => (bif (decide (r6.1 ≥ r8)) then (some ((0, 0, 0), (some 10))) else ((f_59 N r6.1 86400).bind fun r9 => (bif (!(Option.isNone r9.2.2)) then (some ((0, 0, 0), r9.2.2)) else ((l_33_0 N ((), (), r6.1, r6.2.1, r9.1, (x1, x2, x3), (0, 0, 0))).bind fun q20 => ((f_60 N q20.2.2.2.2.2.1.1 q20.2.2.2.2.2.1.2.1 q20.2.2.2.2.2.1.2.2 q20.2.2.2.2.1).bind fun r21 => (some ((q20.2.2.2.2.1, (IntKind.i64.wrap (q20.2.2.1 - r21)), q20.2.2.2.1), none))))))))))))))))
theorem ok_33 (N : Nat) (x1 : Int) (x2 : Int) (x3 : List Int) (x4 : Int) : f_33 N x1 x2 x3 x4 = exec (X_33 N) Go.Proofs.Tryd.f33.ntmps (lp_33 N) c_33 0 (fnK (X_33 N) Go.Proofs.Tryd.f33.results.toList 0 [.agg [.d (.int .i64), .d (.int .i64), .d (.int .i64)], .one (.d (.err 95))]) (fnSt 2 0 [.agg [.d (.int .i64), .d (.int .i64), .d (.sl [.int .i64])], .one (.d (.int .i64))] ((x1, x2, x3), x4)) := by kernel_rfl
noncomputable def S_33 (N : Nat) : Sum := fnSum 2 0 2 [.agg [.d (.int .i64), .d (.int .i64), .d (.sl [.int .i64])], .one (.d (.int .i64))] [.agg [.d (.int .i64), .d (.int .i64), .d (.int .i64)], .one (.d (.err 95))] (fun p => f_33 N p.1.1 p.1.2.1 p.1.2.2 p.2)
theorem s_33 (N : Nat) : SumOk Go.Proofs.Tryd.prog laidL 33 (S_33 N) :=
  fn_ok (lp := lp_33 N) (x_33 N) Go.Proofs.Tryd.func33 (c := c_33) (by kernel_rfl) (by kernel_rfl) rfl (fun p => ok_33 N p.1.1 p.1.2.1 p.1.2.2 p.2) (loopsAll (by kernel_rfl) ((lookOk_cons (L_ok_33_0 N) lookOk_nil)))
/-! ### fusee/smear.plain -/
noncomputable def X_57 (N : Nat) : Ctx := ⟨tyT, lookF [(33, (S_33 N)), (34, (S_34 N))], eqT⟩
noncomputable def c_57 : Code := bodyOf Go.Proofs.Tryd.f57
theorem x_57 (N : Nat) : CtxOk Go.Proofs.Tryd.prog laidL (X_57 N) := ⟨tyOk, eqOk, fun _ _ => (fnsOk_cons (s_33 N) (fnsOk_cons (s_34 N) fnsOk_nil)).get, by kernel_rfl⟩
noncomputable def lp_57 (_ : Nat) : Nat → Option LSum := lookL []
noncomputable def f_57 (N : Nat) (x1 : Int) (x2 : Int) (x3 : List Int) (x4 : Int) : Option (TAs [.one (.d (.int .i64)), .one (.d (.err 95))]) :=
  ((f_33 N x1 x2 x3 x4).bind fun r5 => (bif (!(Option.isNone r5.2)) then (some (0, r5.2)) else ((f_34 N x1 x2 x3 r5.1.1).bind fun r6 => (bif (!(Option.isNone r6.2)) then (some (0, r6.2)) else (some ((IntKind.i64.wrap (x4 - (IntKind.i64.wrap (r6.1 * 1000000000)))), none))))))
theorem ok_57 (N : Nat) (x1 : Int) (x2 : Int) (x3 : List Int) (x4 : Int) : f_57 N x1 x2 x3 x4 = exec (X_57 N) Go.Proofs.Tryd.f57.ntmps (lp_57 N) c_57 0 (fnK (X_57 N) Go.Proofs.Tryd.f57.results.toList 0 [.one (.d (.int .i64)), .one (.d (.err 95))]) (fnSt 2 0 [.agg [.d (.int .i64), .d (.int .i64), .d (.sl [.int .i64])], .one (.d (.int .i64))] ((x1, x2, x3), x4)) := by kernel_rfl
noncomputable def S_57 (N : Nat) : Sum := fnSum 2 0 2 [.agg [.d (.int .i64), .d (.int .i64), .d (.sl [.int .i64])], .one (.d (.int .i64))] [.one (.d (.int .i64)), .one (.d (.err 95))] (fun p => f_57 N p.1.1 p.1.2.1 p.1.2.2 p.2)
theorem s_57 (N : Nat) : SumOk Go.Proofs.Tryd.prog laidL 57 (S_57 N) :=
  fn_ok (lp := lp_57 N) (x_57 N) Go.Proofs.Tryd.func57 (c := c_57) (by kernel_rfl) (by kernel_rfl) rfl (fun p => ok_57 N p.1.1 p.1.2.1 p.1.2.2 p.2) (loopsAll (by kernel_rfl) (lookOk_nil))
/-! ### fusee/smear.At -/
noncomputable def X_31 (N : Nat) : Ctx := ⟨tyT, lookF [(29, (S_29 N)), (57, (S_57 N)), (54, (S_54 N)), (22, (S_22 N))], eqT⟩
noncomputable def c_31 : Code := bodyOf Go.Proofs.Tryd.f31
theorem x_31 (N : Nat) : CtxOk Go.Proofs.Tryd.prog laidL (X_31 N) := ⟨tyOk, eqOk, fun _ _ => (fnsOk_cons (s_29 N) (fnsOk_cons (s_57 N) (fnsOk_cons (s_54 N) (fnsOk_cons (s_22 N) fnsOk_nil)))).get, by kernel_rfl⟩
noncomputable def nd_31_0 : Code := loopAt 0 0 c_31
noncomputable def cb_31_0 : Code := unloop nd_31_0
theorem ne_31_0 : nd_31_0 = .loop cb_31_0 := by kernel_rfl
noncomputable def sh_31_0 : List ShA := [.one (.d (.int .i64)), .one (.ptr 176 0), .one (.ptr 192 0), .one (.d (.int .i64)), .one (.d (.int .i64)), .one (.d (.int .i64)), .agg [.d (.int .i64), .d (.int .i64), .d (.int .i64)], .agg [.d (.int .i64), .d (.int .i64), .d (.sl [.int .i64])]]
noncomputable def o_31_0 : OutK 0 (((TAs [.one (.d (.int .i64)), .one (.d (.err 95))]) ⊕ (TAs [.one (.d (.int .i64))]))) := (outTwo (outOne 0 .ret [6, 7] [] [.one (.d (.int .i64)), .one (.d (.err 95))]) (outOne 0 (.exit 0) [9] [] [.one (.d (.int .i64))]))
noncomputable def b_31_0 (N : Nat) (ih : TAs sh_31_0 → Option (((TAs [.one (.d (.int .i64)), .one (.d (.err 95))]) ⊕ (TAs [.one (.d (.int .i64))])))) : TAs sh_31_0 → Option (((TAs [.one (.d (.int .i64)), .one (.d (.err 95))]) ⊕ (TAs [.one (.d (.int .i64))]))) := fun (y10, _, _, y11, y12, y13, (y14, y15, y16), (y17, y18, y19)) =>
  (bif (decide (y13 < y12)) then ((f_54 N y14 y15 y16 y17 y18 y19 y13).bind fun r20 => (bif (decide (y10 < (IntKind.i64.wrap (r20.1 * 1000000000)))) then (ih (y10, (), (), y11, y12, (IntKind.i64.wrap (y13 + 1)), (y14, y15, y16), (y17, y18, y19))) else (bif (decide (y10 ≥ (IntKind.i64.wrap (r20.2 * 1000000000)))) then (ih (y10, (), (), y11, y12, (IntKind.i64.wrap (y13 + 1)), (y14, y15, y16), (y17, y18, y19))) else ((f_22 N y14 y15 y16 (IntKind.i64.wrap (y10 - (IntKind.i64.wrap (r20.1 * 1000000000))))).bind fun r21 => (bif (!(Option.isNone r21.2)) then (some (.inl (0, r21.2))) else (some (.inl ((IntKind.i64.wrap ((IntKind.i64.wrap (y10 - (IntKind.i64.wrap ((IntKind.i64.wrap (y17 + y13)) * 1000000000)))) - r21.1)), none)))))))) else (some (.inr y11)))
noncomputable def l_31_0 (N : Nat) : TAs sh_31_0 → Option (((TAs [.one (.d (.int .i64)), .one (.d (.err 95))]) ⊕ (TAs [.one (.d (.int .i64))]))) := iter (b_31_0 N) N
noncomputable def lp_31_0 (_ : Nat) : Nat → Option LSum := lookL []
noncomputable def L_31_0 (N : Nat) : LSum := loopSum [2, 3, 4, 9, 39, 40] [176, 192] sh_31_0 o_31_0 (l_31_0 N)
theorem b_ok_31_0 (N : Nat) (ih : TAs sh_31_0 → Option (((TAs [.one (.d (.int .i64)), .one (.d (.err 95))]) ⊕ (TAs [.one (.d (.int .i64))])))) (p : TAs sh_31_0) : b_31_0 N ih p = exec (X_31 N) Go.Proofs.Tryd.f31.ntmps (lp_31_0 N) cb_31_0 0 (roundK [2, 3, 4, 9, 39, 40] [176, 192] sh_31_0 o_31_0 ih) (stOf [2, 3, 4, 9, 39, 40] [176, 192] sh_31_0 p) := by kernel_rfl
theorem L_ok_31_0 (N : Nat) : SegOk Go.Proofs.Tryd.prog laidL 0 Go.Proofs.Tryd.f31.ntmps nd_31_0 (L_31_0 N) :=
  ne_31_0 ▸ loop_ok (cur := 0) (lp := lp_31_0 N) (x_31 N) (fun n => iter (b_31_0 N) n) (fun _ => rfl) (fun n p => b_ok_31_0 N (iter (b_31_0 N) n) p) (loopsAll (by kernel_rfl) (lookOk_nil)) N
noncomputable def lp_31 (N : Nat) : Nat → Option LSum := lookL [(0, L_31_0 N)]
noncomputable def f_31 (N : Nat) (x1 : Int) (x2 : Int) (x3 : Int) (x4 : Int) (x5 : Int) (x6 : List Int) (x7 : Int) : Option (TAs [.one (.d (.int .i64)), .one (.d (.err 95))]) :=
  ((f_29 N x1 x2 x3 x4 x5 x6).bind fun r8 => (bif (!(Option.isNone r8)) then (some (0, r8)) else ((f_57 N x4 x5 x6 x7).bind fun r9 => (bif (!(Option.isNone r9.2)) then (some (r9.1, r9.2)) else (bif (x1 == 0) then (some (r9.1, r9.2)) else ((l_31_0 N (x7, (), (), r9.1, (List.length x6 : Int), 0, (x1, x2, x3), (x4, x5, x6))).bind fun q => (match q with | .inl q22 => (some (q22.1, q22.2)) | .inr q23 => (some (q23, none)))))))))
theorem ok_31 (N : Nat) (x1 : Int) (x2 : Int) (x3 : Int) (x4 : Int) (x5 : Int) (x6 : List Int) (x7 : Int) : f_31 N x1 x2 x3 x4 x5 x6 x7 = exec (X_31 N) Go.Proofs.Tryd.f31.ntmps (lp_31 N) c_31 0 (fnK (X_31 N) Go.Proofs.Tryd.f31.results.toList 0 [.one (.d (.int .i64)), .one (.d (.err 95))]) (fnSt 3 0 [.agg [.d (.int .i64), .d (.int .i64), .d (.int .i64)], .agg [.d (.int .i64), .d (.int .i64), .d (.sl [.int .i64])], .one (.d (.int .i64))] ((x1, x2, x3), (x4, x5, x6), x7)) := by kernel_rfl
noncomputable def S_31 (N : Nat) : Sum := fnSum 3 0 2 [.agg [.d (.int .i64), .d (.int .i64), .d (.int .i64)], .agg [.d (.int .i64), .d (.int .i64), .d (.sl [.int .i64])], .one (.d (.int .i64))] [.one (.d (.int .i64)), .one (.d (.err 95))] (fun p => f_31 N p.1.1 p.1.2.1 p.1.2.2 p.2.1.1 p.2.1.2.1 p.2.1.2.2 p.2.2)
theorem s_31 (N : Nat) : SumOk Go.Proofs.Tryd.prog laidL 31 (S_31 N) :=
  fn_ok (lp := lp_31 N) (x_31 N) Go.Proofs.Tryd.func31 (c := c_31) (by kernel_rfl) (by kernel_rfl) rfl (fun p => ok_31 N p.1.1 p.1.2.1 p.1.2.2 p.2.1.1 p.2.1.2.1 p.2.1.2.2 p.2.2) (loopsAll (by kernel_rfl) ((lookOk_cons (L_ok_31_0 N) lookOk_nil)))
/-! ### fusee/fuseelaw12.sure -/
noncomputable def X_21 (N : Nat) : Ctx := ⟨tyT, lookF [(22, (S_22 N)), (25, (S_25 N)), (31, (S_31 N)), (26, (S_26 N)), (28, (S_28 N))], eqT⟩
noncomputable def c_21 : Code := bodyOf Go.Proofs.Tryd.f21
theorem x_21 (N : Nat) : CtxOk Go.Proofs.Tryd.prog laidL (X_21 N) := ⟨tyOk, eqOk, fun _ _ => (fnsOk_cons (s_22 N) (fnsOk_cons (s_25 N) (fnsOk_cons (s_31 N) (fnsOk_cons (s_26 N) (fnsOk_cons (s_28 N) fnsOk_nil))))).get, by kernel_rfl⟩
noncomputable def lp_21 (_ : Nat) : Nat → Option LSum := lookL []
noncomputable def f_21 (N : Nat) : Option (TAs [.one (.d (.bool))]) :=
  ((f_22 N 1 0 1 500000000).bind fun r1 => ((f_25 N 1 0 1 10 2000 ([911] : List Int) 0).bind fun r2 => ((f_31 N 1 0 1 10 2000 ([911] : List Int) r2.1).bind fun r3 => ((f_31 N 1 0 1 10 2000 ([911] : List Int) r2.2.1).bind fun r4 => (bif (Option.isNone r1.2) then (bif (Option.isNone r2.2.2) then (bif (Option.isNone r3.2) then (bif (Option.isNone r4.2) then (bif (r1.1 == 250000000) then (bif ((IntKind.i64.wrap (r2.2.1 - r2.1)) == 2000000000) then (bif ((IntKind.i64.wrap (r4.1 - r3.1)) == 1000000000) then (bif (r4.1 == 78796801000000000) then ((f_26 N 2 0 5).bind fun r5 => ((f_28 N r5).bind fun r6 => (some (r6 == 1)))) else (some false)) else (some false)) else (some false)) else (some false)) else (some false)) else (some false)) else (some false)) else (some false))))))
theorem ok_21 (N : Nat) : f_21 N = exec (X_21 N) Go.Proofs.Tryd.f21.ntmps (lp_21 N) c_21 0 (fnK (X_21 N) Go.Proofs.Tryd.f21.results.toList 0 [.one (.d (.bool))]) (fnSt 0 0 [] ()) := by kernel_rfl
noncomputable def S_21 (N : Nat) : Sum := fnSum 0 0 1 [] [.one (.d (.bool))] (fun _ => f_21 N)
theorem s_21 (N : Nat) : SumOk Go.Proofs.Tryd.prog laidL 21 (S_21 N) :=
  fn_ok (lp := lp_21 N) (x_21 N) Go.Proofs.Tryd.func21 (c := c_21) (by kernel_rfl) (by kernel_rfl) rfl (fun _ => ok_21 N) (loopsAll (by kernel_rfl) (lookOk_nil))
/-! ### fusee/fuseelaw12.SmearSteps -/
noncomputable def X_5 (N : Nat) : Ctx := ⟨tyT, lookF [(21, (S_21 N)), (22, (S_22 N)), (23, (S_23 N)), (24, (S_24 N)), (25, (S_25 N)), (26, (S_26 N)), (27, (S_27 N)), (29, (S_29 N)), (28, (S_28 N)), (30, (S_30 N))], eqT⟩
noncomputable def c_5 : Code := bodyOf Go.Proofs.Tryd.f5
theorem x_5 (N : Nat) : CtxOk Go.Proofs.Tryd.prog laidL (X_5 N) := ⟨tyOk, eqOk, fun _ _ => (fnsOk_cons (s_21 N) (fnsOk_cons (s_22 N) (fnsOk_cons (s_23 N) (fnsOk_cons (s_24 N) (fnsOk_cons (s_25 N) (fnsOk_cons (s_26 N) (fnsOk_cons (s_27 N) (fnsOk_cons (s_29 N) (fnsOk_cons (s_28 N) (fnsOk_cons (s_30 N) fnsOk_nil)))))))))).get, by kernel_rfl⟩
noncomputable def lp_5 (_ : Nat) : Nat → Option LSum := lookL []
noncomputable def f_5 (N : Nat) (x1 : Int) (x2 : Int) (x3 : Int) (x4 : Int) (x5 : Int) (x6 : List Int) (x7 : List Int) : Option (TAs [.one (.d (.bool))]) :=
  (bif (decide ((List.length x6 : Int) > 40)) then ((f_21 N).bind fun r8 => (some r8)) else ((f_22 N x1 x2 x3 (List.getD x7 (Int.toNat 0) 0)).bind fun r9 => ((f_23 N x1 x2 x3 (List.getD x7 (Int.toNat 0) 0)).bind fun r10 => ((f_24 N x1 x2 x3 x4 x5 x6).bind fun r11 => ((f_25 N x1 x2 x3 x4 x5 x6 (List.getD x7 (Int.toNat 1) 0)).bind fun r12 => ((f_26 N x1 x2 x3).bind fun r13 => ((f_27 N x1 x2 x3).bind fun r14 => (bif (!((Option.isNone r13) == r14)) then (some false) else ((f_29 N x1 x2 x3 x4 x5 x6).bind fun r15 => ((f_28 N r15).bind fun r16 => (bif (r16 != r11) then (some false) else (bif (r9.1 != r10.1) then (some false) else ((f_28 N r9.2).bind fun r17 => (bif (r17 != r10.2) then (some false) else (bif (r11 != 0) then ((f_28 N r12.2.2).bind fun r18 => (bif (r18 == r11) then (bif (r12.1 == 0) then (bif (r12.2.1 == 0) then ((f_21 N).bind fun r19 => (some r19)) else (some false)) else (some false)) else (some false))) else (bif (x1 == 0) then ((f_28 N r12.2.2).bind fun r20 => (bif (r20 == 1) then (bif (r12.1 == 0) then (bif (r12.2.1 == 0) then ((f_21 N).bind fun r21 => (some r21)) else (some false)) else (some false)) else (some false))) else (bif (decide ((List.getD x7 (Int.toNat 1) 0) < 0)) then ((f_28 N r12.2.2).bind fun r22 => (bif (r22 == 1) then (bif (r12.1 == 0) then (bif (r12.2.1 == 0) then ((f_21 N).bind fun r23 => (some r23)) else (some false)) else (some false)) else (some false))) else (bif (decide ((List.getD x7 (Int.toNat 1) 0) ≥ (List.length x6 : Int))) then ((f_28 N r12.2.2).bind fun r24 => (bif (r24 == 1) then (bif (r12.1 == 0) then (bif (r12.2.1 == 0) then ((f_21 N).bind fun r25 => (some r25)) else (some false)) else (some false)) else (some false))) else ((f_30 N x1 x2 x3 x4 x5 x6 (List.getD x7 (Int.toNat 1) 0)).bind fun r26 => (bif (Option.isNone r12.2.2) then (bif (r12.1 == r26.1) then (bif (r12.2.1 == r26.2) then ((f_21 N).bind fun r27 => (some r27)) else (some false)) else (some false)) else (some false)))))))))))))))))))))
theorem ok_5 (N : Nat) (x1 : Int) (x2 : Int) (x3 : Int) (x4 : Int) (x5 : Int) (x6 : List Int) (x7 : List Int) : f_5 N x1 x2 x3 x4 x5 x6 x7 = exec (X_5 N) Go.Proofs.Tryd.f5.ntmps (lp_5 N) c_5 0 (fnK (X_5 N) Go.Proofs.Tryd.f5.results.toList 0 [.one (.d (.bool))]) (fnSt 3 0 [.agg [.d (.int .i64), .d (.int .i64), .d (.int .i64)], .agg [.d (.int .i64), .d (.int .i64), .d (.sl [.int .i64])], .agg [.d (.arr .i64 2)]] ((x1, x2, x3), (x4, x5, x6), x7)) := by kernel_rfl
noncomputable def S_5 (N : Nat) : Sum := fnSum 3 0 1 [.agg [.d (.int .i64), .d (.int .i64), .d (.int .i64)], .agg [.d (.int .i64), .d (.int .i64), .d (.sl [.int .i64])], .agg [.d (.arr .i64 2)]] [.one (.d (.bool))] (fun p => f_5 N p.1.1 p.1.2.1 p.1.2.2 p.2.1.1 p.2.1.2.1 p.2.1.2.2 p.2.2)
theorem s_5 (N : Nat) : SumOk Go.Proofs.Tryd.prog laidL 5 (S_5 N) :=
  fn_ok (lp := lp_5 N) (x_5 N) Go.Proofs.Tryd.func5 (c := c_5) (by kernel_rfl) (by kernel_rfl) rfl (fun p => ok_5 N p.1.1 p.1.2.1 p.1.2.2 p.2.1.1 p.2.1.2.1 p.2.1.2.2 p.2.2) (loopsAll (by kernel_rfl) (lookOk_nil))
/-! ### fusee/fuseelaw12.SmearTells -/
noncomputable def X_6 (N : Nat) : Ctx := ⟨tyT, lookF [(21, (S_21 N)), (31, (S_31 N)), (32, (S_32 N)), (28, (S_28 N))], eqT⟩
noncomputable def c_6 : Code := bodyOf Go.Proofs.Tryd.f6
theorem x_6 (N : Nat) : CtxOk Go.Proofs.Tryd.prog laidL (X_6 N) := ⟨tyOk, eqOk, fun _ _ => (fnsOk_cons (s_21 N) (fnsOk_cons (s_31 N) (fnsOk_cons (s_32 N) (fnsOk_cons (s_28 N) fnsOk_nil)))).get, by kernel_rfl⟩
noncomputable def lp_6 (_ : Nat) : Nat → Option LSum := lookL []
noncomputable def f_6 (N : Nat) (x1 : Int) (x2 : Int) (x3 : Int) (x4 : Int) (x5 : Int) (x6 : List Int) (x7 : Int) : Option (TAs [.one (.d (.bool))]) :=
  (bif (decide ((List.length x6 : Int) > 40)) then ((f_21 N).bind fun r8 => (some r8)) else ((f_31 N x1 x2 x3 x4 x5 x6 x7).bind fun r9 => ((f_32 N x1 x2 x3 x4 x5 x6 x7).bind fun r10 => (bif (r9.1 == r10.1) then ((f_28 N r9.2).bind fun r11 => (bif (r11 == r10.2) then ((f_21 N).bind fun r12 => (some r12)) else (some false))) else (some false)))))
theorem ok_6 (N : Nat) (x1 : Int) (x2 : Int) (x3 : Int) (x4 : Int) (x5 : Int) (x6 : List Int) (x7 : Int) : f_6 N x1 x2 x3 x4 x5 x6 x7 = exec (X_6 N) Go.Proofs.Tryd.f6.ntmps (lp_6 N) c_6 0 (fnK (X_6 N) Go.Proofs.Tryd.f6.results.toList 0 [.one (.d (.bool))]) (fnSt 3 0 [.agg [.d (.int .i64), .d (.int .i64), .d (.int .i64)], .agg [.d (.int .i64), .d (.int .i64), .d (.sl [.int .i64])], .one (.d (.int .i64))] ((x1, x2, x3), (x4, x5, x6), x7)) := by kernel_rfl
noncomputable def S_6 (N : Nat) : Sum := fnSum 3 0 1 [.agg [.d (.int .i64), .d (.int .i64), .d (.int .i64)], .agg [.d (.int .i64), .d (.int .i64), .d (.sl [.int .i64])], .one (.d (.int .i64))] [.one (.d (.bool))] (fun p => f_6 N p.1.1 p.1.2.1 p.1.2.2 p.2.1.1 p.2.1.2.1 p.2.1.2.2 p.2.2)
theorem s_6 (N : Nat) : SumOk Go.Proofs.Tryd.prog laidL 6 (S_6 N) :=
  fn_ok (lp := lp_6 N) (x_6 N) Go.Proofs.Tryd.func6 (c := c_6) (by kernel_rfl) (by kernel_rfl) rfl (fun p => ok_6 N p.1.1 p.1.2.1 p.1.2.2 p.2.1.1 p.2.1.2.1 p.2.1.2.2 p.2.2) (loopsAll (by kernel_rfl) (lookOk_nil))
/-! ### fusee/fuseelaw12.SmearOnward -/
noncomputable def X_7 (N : Nat) : Ctx := ⟨tyT, lookF [(21, (S_21 N)), (29, (S_29 N)), (31, (S_31 N)), (25, (S_25 N)), (22, (S_22 N))], eqT⟩
noncomputable def c_7 : Code := bodyOf Go.Proofs.Tryd.f7
theorem x_7 (N : Nat) : CtxOk Go.Proofs.Tryd.prog laidL (X_7 N) := ⟨tyOk, eqOk, fun _ _ => (fnsOk_cons (s_21 N) (fnsOk_cons (s_29 N) (fnsOk_cons (s_31 N) (fnsOk_cons (s_25 N) (fnsOk_cons (s_22 N) fnsOk_nil))))).get, by kernel_rfl⟩
noncomputable def nd_7_0 : Code := loopAt 0 0 c_7
noncomputable def cb_7_0 : Code := unloop nd_7_0
theorem ne_7_0 : nd_7_0 = .loop cb_7_0 := by kernel_rfl
noncomputable def sh_7_0 : List ShA := [.one (.ptr 192 0), .one (.ptr 240 0), .one (.ptr 256 0), .one (.d (.int .i64)), .agg [.d (.int .i64), .d (.int .i64), .d (.sl [.int .i64])], .agg [.d (.int .i64), .d (.int .i64), .d (.int .i64)], .agg [.d (.int .i64), .d (.int .i64), .d (.sl [.int .i64])]]
noncomputable def o_7_0 : OutK 0 (((TAs [.one (.d (.bool))]) ⊕ (TAs []))) := (outTwo (outOne 0 .ret [6] [] [.one (.d (.bool))]) (outOne 0 (.exit 0) [] [] []))
noncomputable def b_7_0 (N : Nat) (ih : TAs sh_7_0 → Option (((TAs [.one (.d (.bool))]) ⊕ (TAs [])))) : TAs sh_7_0 → Option (((TAs [.one (.d (.bool))]) ⊕ (TAs []))) := fun (_, _, _, y14, (y15, y16, y17), (y18, y19, y20), (y21, y22, y23)) =>
  (bif (decide (y14 < (List.length y17 : Int))) then ((f_25 N y18 y19 y20 y21 y22 y23 y14).bind fun r24 => ((f_22 N y18 y19 y20 0).bind fun r25 => ((f_22 N y18 y19 y20 (IntKind.i64.wrap (r24.2.1 - r24.1))).bind fun r26 => (bif (!(Option.isNone r24.2.2)) then (some (.inl false)) else (bif (!(Option.isNone r25.2)) then (some (.inl false)) else (bif (!(Option.isNone r26.2)) then (some (.inl false)) else (bif (r25.1 != 0) then (some (.inl false)) else (bif (r26.1 != 1000000000) then (some (.inl false)) else ((f_31 N y18 y19 y20 y21 y22 y23 r24.1).bind fun r27 => ((f_31 N 0 0 0 y21 y22 y23 r24.1).bind fun r28 => ((f_31 N y18 y19 y20 y21 y22 y23 r24.2.1).bind fun r29 => ((f_31 N 0 0 0 y21 y22 y23 r24.2.1).bind fun r30 => (bif (!((Option.isNone r27.2) == (Option.isNone r28.2))) then (some (.inl false)) else (bif (!((Option.isNone r29.2) == (Option.isNone r30.2))) then (some (.inl false)) else (bif (r27.1 != r28.1) then (some (.inl false)) else (bif (r29.1 != r30.1) then (some (.inl false)) else (ih ((), (), (), (IntKind.i64.wrap (y14 + 1)), (y15, y16, y17), (y18, y19, y20), (y21, y22, y23))))))))))))))))))) else (some (.inr ())))
noncomputable def l_7_0 (N : Nat) : TAs sh_7_0 → Option (((TAs [.one (.d (.bool))]) ⊕ (TAs []))) := iter (b_7_0 N) N
noncomputable def lp_7_0 (_ : Nat) : Nat → Option LSum := lookL []
noncomputable def L_7_0 (N : Nat) : LSum := loopSum [4, 7, 8, 15] [192, 240, 256] sh_7_0 o_7_0 (l_7_0 N)
theorem b_ok_7_0 (N : Nat) (ih : TAs sh_7_0 → Option (((TAs [.one (.d (.bool))]) ⊕ (TAs [])))) (p : TAs sh_7_0) : b_7_0 N ih p = exec (X_7 N) Go.Proofs.Tryd.f7.ntmps (lp_7_0 N) cb_7_0 0 (roundK [4, 7, 8, 15] [192, 240, 256] sh_7_0 o_7_0 ih) (stOf [4, 7, 8, 15] [192, 240, 256] sh_7_0 p) := by kernel_rfl
theorem L_ok_7_0 (N : Nat) : SegOk Go.Proofs.Tryd.prog laidL 0 Go.Proofs.Tryd.f7.ntmps nd_7_0 (L_7_0 N) :=
  ne_7_0 ▸ loop_ok (cur := 0) (lp := lp_7_0 N) (x_7 N) (fun n => iter (b_7_0 N) n) (fun _ => rfl) (fun n p => b_ok_7_0 N (iter (b_7_0 N) n) p) (loopsAll (by kernel_rfl) (lookOk_nil)) N
noncomputable def lp_7 (N : Nat) : Nat → Option LSum := lookL [(0, L_7_0 N)]
noncomputable def f_7 (N : Nat) (x1 : Int) (x2 : Int) (x3 : Int) (x4 : Int) (x5 : Int) (x6 : List Int) (x7 : List Int) : Option (TAs [.one (.d (.bool))]) :=
  (bif (decide ((List.length x6 : Int) > 40)) then ((f_21 N).bind fun r8 => (some r8)) else ((f_29 N x1 x2 x3 x4 x5 x6).bind fun r9 => (bif (!(Option.isNone r9)) then ((f_21 N).bind fun r10 => (some r10)) else (bif (x1 == 0) then ((f_21 N).bind fun r11 => (some r11)) else ((f_31 N x1 x2 x3 x4 x5 x6 (if (List.getD x7 (Int.toNat 1) 0) < (List.getD x7 (Int.toNat 0) 0) then (List.getD x7 (Int.toNat 1) 0) else (List.getD x7 (Int.toNat 0) 0))).bind fun r12 => ((f_31 N x1 x2 x3 x4 x5 x6 (if (List.getD x7 (Int.toNat 1) 0) > (List.getD x7 (Int.toNat 0) 0) then (List.getD x7 (Int.toNat 1) 0) else (List.getD x7 (Int.toNat 0) 0))).bind fun r13 => (bif (Option.isNone r12.2) then (bif (Option.isNone r13.2) then (bif (decide (r13.1 < r12.1)) then (some false) else (bif (decide ((IntKind.i64.wrap (r13.1 - r12.1)) > (IntKind.i64.wrap ((if (List.getD x7 (Int.toNat 1) 0) > (List.getD x7 (Int.toNat 0) 0) then (List.getD x7 (Int.toNat 1) 0) else (List.getD x7 (Int.toNat 0) 0)) - (if (List.getD x7 (Int.toNat 1) 0) < (List.getD x7 (Int.toNat 0) 0) then (List.getD x7 (Int.toNat 1) 0) else (List.getD x7 (Int.toNat 0) 0)))))) then (some false) else ((l_7_0 N ((), (), (), 0, (x4, x5, x6), (x1, x2, x3), (x4, x5, x6))).bind fun q => (match q with | .inl q31 => (some q31) | .inr q32 => ((f_21 N).bind fun r33 => (some r33)))))) else ((l_7_0 N ((), (), (), 0, (x4, x5, x6), (x1, x2, x3), (x4, x5, x6))).bind fun q => (match q with | .inl q34 => (some q34) | .inr q35 => ((f_21 N).bind fun r36 => (some r36))))) else ((l_7_0 N ((), (), (), 0, (x4, x5, x6), (x1, x2, x3), (x4, x5, x6))).bind fun q => (match q with | .inl q37 => (some q37) | .inr q38 => ((f_21 N).bind fun r39 => (some r39)))))))))))
theorem ok_7 (N : Nat) (x1 : Int) (x2 : Int) (x3 : Int) (x4 : Int) (x5 : Int) (x6 : List Int) (x7 : List Int) : f_7 N x1 x2 x3 x4 x5 x6 x7 = exec (X_7 N) Go.Proofs.Tryd.f7.ntmps (lp_7 N) c_7 0 (fnK (X_7 N) Go.Proofs.Tryd.f7.results.toList 0 [.one (.d (.bool))]) (fnSt 3 0 [.agg [.d (.int .i64), .d (.int .i64), .d (.int .i64)], .agg [.d (.int .i64), .d (.int .i64), .d (.sl [.int .i64])], .agg [.d (.arr .i64 2)]] ((x1, x2, x3), (x4, x5, x6), x7)) := by kernel_rfl
noncomputable def S_7 (N : Nat) : Sum := fnSum 3 0 1 [.agg [.d (.int .i64), .d (.int .i64), .d (.int .i64)], .agg [.d (.int .i64), .d (.int .i64), .d (.sl [.int .i64])], .agg [.d (.arr .i64 2)]] [.one (.d (.bool))] (fun p => f_7 N p.1.1 p.1.2.1 p.1.2.2 p.2.1.1 p.2.1.2.1 p.2.1.2.2 p.2.2)
theorem s_7 (N : Nat) : SumOk Go.Proofs.Tryd.prog laidL 7 (S_7 N) :=
  fn_ok (lp := lp_7 N) (x_7 N) Go.Proofs.Tryd.func7 (c := c_7) (by kernel_rfl) (by kernel_rfl) rfl (fun p => ok_7 N p.1.1 p.1.2.1 p.1.2.2 p.2.1.1 p.2.1.2.1 p.2.1.2.2 p.2.2) (loopsAll (by kernel_rfl) ((lookOk_cons (L_ok_7_0 N) lookOk_nil)))
/-! ### fusee/fuseelaw12.SmearOutside -/
noncomputable def X_8 (N : Nat) : Ctx := ⟨tyT, lookF [(21, (S_21 N)), (29, (S_29 N)), (31, (S_31 N)), (33, (S_33 N)), (28, (S_28 N)), (34, (S_34 N)), (25, (S_25 N))], eqT⟩
noncomputable def c_8 : Code := bodyOf Go.Proofs.Tryd.f8
theorem x_8 (N : Nat) : CtxOk Go.Proofs.Tryd.prog laidL (X_8 N) := ⟨tyOk, eqOk, fun _ _ => (fnsOk_cons (s_21 N) (fnsOk_cons (s_29 N) (fnsOk_cons (s_31 N) (fnsOk_cons (s_33 N) (fnsOk_cons (s_28 N) (fnsOk_cons (s_34 N) (fnsOk_cons (s_25 N) fnsOk_nil))))))).get, by kernel_rfl⟩
noncomputable def nd_8_0 : Code := loopAt 0 0 c_8
noncomputable def cb_8_0 : Code := unloop nd_8_0
theorem ne_8_0 : nd_8_0 = .loop cb_8_0 := by kernel_rfl
noncomputable def sh_8_0 : List ShA := [.one (.d (.int .i64)), .one (.ptr 176 0), .one (.ptr 192 0), .one (.ptr 240 0), .one (.ptr 256 0), .one (.d (.int .i64)), .one (.d (.int .i64)), .one (.d (.bool)), .one (.d (.int .i64)), .agg [.d (.int .i64), .d (.int .i64), .d (.int .i64)], .agg [.d (.int .i64), .d (.int .i64), .d (.sl [.int .i64])], .agg [.d (.int .i64), .d (.int .i64), .d (.int .i64)], .agg [.d (.int .i64), .d (.int .i64), .d (.sl [.int .i64])]]
noncomputable def o_8_0 : OutK 0 (((TAs [.one (.d (.bool))]) ⊕ (TAs [.one (.d (.int .i64)), .one (.d (.int .i64)), .one (.d (.bool))]))) := (outTwo (outOne 0 .ret [6] [] [.one (.d (.bool))]) (outOne 0 (.exit 0) [9, 11, 17] [] [.one (.d (.int .i64)), .one (.d (.int .i64)), .one (.d (.bool))]))
noncomputable def b_8_0 (N : Nat) (ih : TAs sh_8_0 → Option (((TAs [.one (.d (.bool))]) ⊕ (TAs [.one (.d (.int .i64)), .one (.d (.int .i64)), .one (.d (.bool))])))) : TAs sh_8_0 → Option (((TAs [.one (.d (.bool))]) ⊕ (TAs [.one (.d (.int .i64)), .one (.d (.int .i64)), .one (.d (.bool))]))) := fun (y20, _, _, _, _, y21, y22, y23, y24, (y25, y26, y27), (y28, y29, y30), (y31, y32, y33), (y34, y35, y36)) =>
  (bif (decide (y24 < (List.length y30 : Int))) then (bif (y25 != 0) then ((f_25 N y31 y32 y33 y34 y35 y36 y24).bind fun r37 => (bif (!(Option.isNone r37.2.2)) then (some (.inl false)) else (bif y23 then (ih (y20, (), (), (), (), y21, y22, true, (IntKind.i64.wrap (y24 + 1)), (y25, y26, y27), (y28, y29, y30), (y31, y32, y33), (y34, y35, y36))) else (bif (decide (y20 ≥ r37.1)) then (ih (y20, (), (), (), (), y21, y22, (decide (y20 < r37.2.1)), (IntKind.i64.wrap (y24 + 1)), (y25, y26, y27), (y28, y29, y30), (y31, y32, y33), (y34, y35, y36))) else (ih (y20, (), (), (), (), y21, y22, false, (IntKind.i64.wrap (y24 + 1)), (y25, y26, y27), (y28, y29, y30), (y31, y32, y33), (y34, y35, y36))))))) else (some (.inr (y21, y22, y23)))) else (some (.inr (y21, y22, y23))))
noncomputable def l_8_0 (N : Nat) : TAs sh_8_0 → Option (((TAs [.one (.d (.bool))]) ⊕ (TAs [.one (.d (.int .i64)), .one (.d (.int .i64)), .one (.d (.bool))]))) := iter (b_8_0 N) N
noncomputable def lp_8_0 (_ : Nat) : Nat → Option LSum := lookL []
noncomputable def L_8_0 (N : Nat) : LSum := loopSum [2, 3, 4, 7, 8, 9, 11, 17, 18] [176, 192, 240, 256] sh_8_0 o_8_0 (l_8_0 N)
theorem b_ok_8_0 (N : Nat) (ih : TAs sh_8_0 → Option (((TAs [.one (.d (.bool))]) ⊕ (TAs [.one (.d (.int .i64)), .one (.d (.int .i64)), .one (.d (.bool))])))) (p : TAs sh_8_0) : b_8_0 N ih p = exec (X_8 N) Go.Proofs.Tryd.f8.ntmps (lp_8_0 N) cb_8_0 0 (roundK [2, 3, 4, 7, 8, 9, 11, 17, 18] [176, 192, 240, 256] sh_8_0 o_8_0 ih) (stOf [2, 3, 4, 7, 8, 9, 11, 17, 18] [176, 192, 240, 256] sh_8_0 p) := by kernel_rfl
theorem L_ok_8_0 (N : Nat) : SegOk Go.Proofs.Tryd.prog laidL 0 Go.Proofs.Tryd.f8.ntmps nd_8_0 (L_8_0 N) :=
  ne_8_0 ▸ loop_ok (cur := 0) (lp := lp_8_0 N) (x_8 N) (fun n => iter (b_8_0 N) n) (fun _ => rfl) (fun n p => b_ok_8_0 N (iter (b_8_0 N) n) p) (loopsAll (by kernel_rfl) (lookOk_nil)) N
noncomputable def lp_8 (N : Nat) : Nat → Option LSum := lookL [(0, L_8_0 N)]
noncomputable def f_8 (N : Nat) (x1 : Int) (x2 : Int) (x3 : Int) (x4 : Int) (x5 : Int) (x6 : List Int) (x7 : Int) : Option (TAs [.one (.d (.bool))]) :=
  (bif (decide ((List.length x6 : Int) > 40)) then ((f_21 N).bind fun r8 => (some r8)) else ((f_29 N x1 x2 x3 x4 x5 x6).bind fun r9 => (bif (!(Option.isNone r9)) then ((f_21 N).bind fun r10 => (some r10)) else ((f_31 N x1 x2 x3 x4 x5 x6 x7).bind fun r11 => ((f_31 N 0 0 0 x4 x5 x6 x7).bind fun r12 => ((f_33 N x4 x5 x6 x7).bind fun r13 => (bif (!((Option.isNone r11.2) == (Option.isNone r13.2))) then (some false) else (bif (!((Option.isNone r12.2) == (Option.isNone r13.2))) then (some false) else (bif (!(Option.isNone r13.2)) then ((f_28 N r11.2).bind fun r14 => ((f_28 N r13.2).bind fun r15 => (bif (r14 == r15) then ((f_28 N r12.2).bind fun r16 => ((f_28 N r13.2).bind fun r17 => (bif (r16 == r17) then ((f_21 N).bind fun r18 => (some r18)) else (some false)))) else (some false)))) else ((f_34 N x4 x5 x6 r13.1.1).bind fun r19 => (bif (!(Option.isNone r19.2)) then (some false) else (bif (r12.1 != (IntKind.i64.wrap (x7 - (IntKind.i64.wrap (r19.1 * 1000000000))))) then (some false) else ((l_8_0 N (x7, (), (), (), (), r11.1, r12.1, false, 0, (x1, x2, x3), (x4, x5, x6), (x1, x2, x3), (x4, x5, x6))).bind fun q => (match q with | .inl q38 => (some q38) | .inr q39 => (bif q39.2.2 then (bif (decide ((IntKind.i64.wrap (q39.1 - q39.2.1)) ≤ 1000000000)) then (bif (decide ((IntKind.i64.wrap (q39.2.1 - q39.1)) ≤ 1000000000)) then ((f_21 N).bind fun r40 => (some r40)) else (some false)) else (some false)) else (bif (q39.1 == q39.2.1) then (bif (decide ((IntKind.i64.wrap (q39.1 - q39.2.1)) ≤ 1000000000)) then (bif (decide ((IntKind.i64.wrap (q39.2.1 - q39.1)) ≤ 1000000000)) then ((f_21 N).bind fun r41 => (some r41)) else (some false)) else (some false)) else (some false)))))))))))))))))
theorem ok_8 (N : Nat) (x1 : Int) (x2 : Int) (x3 : Int) (x4 : Int) (x5 : Int) (x6 : List Int) (x7 : Int) : f_8 N x1 x2 x3 x4 x5 x6 x7 = exec (X_8 N) Go.Proofs.Tryd.f8.ntmps (lp_8 N) c_8 0 (fnK (X_8 N) Go.Proofs.Tryd.f8.results.toList 0 [.one (.d (.bool))]) (fnSt 3 0 [.agg [.d (.int .i64), .d (.int .i64), .d (.int .i64)], .agg [.d (.int .i64), .d (.int .i64), .d (.sl [.int .i64])], .one (.d (.int .i64))] ((x1, x2, x3), (x4, x5, x6), x7)) := by kernel_rfl
noncomputable def S_8 (N : Nat) : Sum := fnSum 3 0 1 [.agg [.d (.int .i64), .d (.int .i64), .d (.int .i64)], .agg [.d (.int .i64), .d (.int .i64), .d (.sl [.int .i64])], .one (.d (.int .i64))] [.one (.d (.bool))] (fun p => f_8 N p.1.1 p.1.2.1 p.1.2.2 p.2.1.1 p.2.1.2.1 p.2.1.2.2 p.2.2)
theorem s_8 (N : Nat) : SumOk Go.Proofs.Tryd.prog laidL 8 (S_8 N) :=
  fn_ok (lp := lp_8 N) (x_8 N) Go.Proofs.Tryd.func8 (c := c_8) (by kernel_rfl) (by kernel_rfl) rfl (fun p => ok_8 N p.1.1 p.1.2.1 p.1.2.2 p.2.1.1 p.2.1.2.1 p.2.1.2.2 p.2.2) (loopsAll (by kernel_rfl) ((lookOk_cons (L_ok_8_0 N) lookOk_nil)))
end Go.Proofs.YtmdnnlfoljdfpaaDoor.Mir
