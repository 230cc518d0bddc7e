/- Texts joined. -/
import Derived.Test.YtihignmcjldiiaaGreatDoorKmbe
namespace Go.Proofs.YtihignmcjldiiaaGreatDoor.Mir
open Go Go.RowKit
set_option maxRecDepth 100000
noncomputable def X_21 (_ : Nat) : Ctx := ⟨tyT, lookF [(56, asS)], eqT, fun _ => false⟩
noncomputable def c_21 : Code := bodyOf Go.Proofs.Tryz.f21
theorem x_21 (N : Nat) : CtxOk Go.Proofs.Tryz.prog laidL (X_21 N) := ⟨tyOk, eqOk, fun _ _ => (fnsOk_cons asS_ok fnsOk_nil).get, by kernel_rfl⟩
noncomputable def lp_21 (_ : Nat) : Nat → Option LSum := lookL []
noncomputable def f_21 (_ : Nat) (x1 : Option Int) : Option (TAs [.one (.d (.int .i64))]) :=
  (bif (Option.isNone x1) then (some 0) else ((some (x1, (0 : Int)) : Option (Option Int × Int)).bind fun r2 => (bif (Option.isSome r2.1) then (some (asVal r2.2 r2.1)) else (some (-1)))))
theorem ok_21 (N : Nat) (x1 : Option Int) : f_21 N x1 = exec (X_21 N) Go.Proofs.Tryz.f21.ntmps (lp_21 N) c_21 0 (fnK (X_21 N) Go.Proofs.Tryz.f21.results.toList 0 [.one (.d (.int .i64))]) (fnSt 1 0 [.one (.d (.err 93))] x1) := by kernel_rfl
noncomputable def S_21 (N : Nat) : Sum := fnSum 1 0 1 [.one (.d (.err 93))] [.one (.d (.int .i64))] (fun p => f_21 N p)
theorem s_21 (N : Nat) : SumOk Go.Proofs.Tryz.prog laidL 21 (S_21 N) :=
  fn_ok (lp := lp_21 N) (x_21 N) Go.Proofs.Tryz.func21 (c := c_21) (by kernel_rfl) (by kernel_rfl) rfl (fun p => ok_21 N p) (loopsAll (by kernel_rfl) (lookOk_nil))
noncomputable def X_24 (_ : Nat) : Ctx := ⟨tyT, lookF [], eqT, fun _ => false⟩
noncomputable def c_24 : Code := bodyOf Go.Proofs.Tryz.f24
theorem x_24 (N : Nat) : CtxOk Go.Proofs.Tryz.prog laidL (X_24 N) := ⟨tyOk, eqOk, fun _ _ => fnsOk_nil.get, by kernel_rfl⟩
noncomputable def nd_24_0 : Code := loopAt 0 0 c_24
noncomputable def cb_24_0 : Code := unloop nd_24_0
theorem ne_24_0 : nd_24_0 = .loop cb_24_0 := by kernel_rfl
noncomputable def sh_24_0 : List ShA := [.one (.ptr 144 0), .one (.d (.int .i64)), .agg [.d (.str), .d (.int .i64), .d (.sl [.int .i64, .int .i64, .str])]]
noncomputable def o_24_0 : OutK 0 (((TAs [.one (.d (.bool))]) ⊕ (TAs [.one (.ptr 144 0), .agg [.d (.str), .d (.int .i64), .d (.sl [.int .i64, .int .i64, .str])]]))) := (outTwo (outOne 0 .ret [2] [] [.one (.d (.bool))]) (outOne 0 (.exit 0) [1] [144] [.one (.ptr 144 0), .agg [.d (.str), .d (.int .i64), .d (.sl [.int .i64, .int .i64, .str])]]))
noncomputable def b_24_0 (_ : Nat) (ih : TAs sh_24_0 → Option (((TAs [.one (.d (.bool))]) ⊕ (TAs [.one (.ptr 144 0), .agg [.d (.str), .d (.int .i64), .d (.sl [.int .i64, .int .i64, .str])]])))) : TAs sh_24_0 → Option (((TAs [.one (.d (.bool))]) ⊕ (TAs [.one (.ptr 144 0), .agg [.d (.str), .d (.int .i64), .d (.sl [.int .i64, .int .i64, .str])]]))) := fun (_, y4, (y5, y6, y7)) =>
  (bif (decide (y4 < (List.length y7 : Int))) then (bif (decide (y4 < 60)) then (bif (decide (0 ≤ y4 ∧ y4 < (List.length y7 : Int))) then (bif (decide ((ByteArray.size (List.getD y7 (Int.toNat y4) (0, 0, ByteArray.empty)).2.2 : Int) > 200)) then (some (.inl true)) else (ih ((), (IntKind.i64.wrap (y4 + 1)), (y5, y6, y7)))) else none) else (some (.inr ((), (y5, y6, y7))))) else (some (.inr ((), (y5, y6, y7)))))
noncomputable def l_24_0 (N : Nat) : TAs sh_24_0 → Option (((TAs [.one (.d (.bool))]) ⊕ (TAs [.one (.ptr 144 0), .agg [.d (.str), .d (.int .i64), .d (.sl [.int .i64, .int .i64, .str])]]))) := iter (b_24_0 N) N
noncomputable def lp_24_0 (_ : Nat) : Nat → Option LSum := lookL []
noncomputable def L_24_0 (N : Nat) : LSum := loopSum [1, 3] [144] sh_24_0 o_24_0 (l_24_0 N)
theorem b_ok_24_0 (N : Nat) (ih : TAs sh_24_0 → Option (((TAs [.one (.d (.bool))]) ⊕ (TAs [.one (.ptr 144 0), .agg [.d (.str), .d (.int .i64), .d (.sl [.int .i64, .int .i64, .str])]])))) (p : TAs sh_24_0) : b_24_0 N ih p = exec (X_24 N) Go.Proofs.Tryz.f24.ntmps (lp_24_0 N) cb_24_0 0 (roundK [1, 3] [144] sh_24_0 o_24_0 ih) (stOf [1, 3] [144] sh_24_0 p) := by kernel_rfl
theorem L_ok_24_0 (N : Nat) : SegOk Go.Proofs.Tryz.prog laidL 0 Go.Proofs.Tryz.f24.ntmps nd_24_0 (L_24_0 N) :=
  ne_24_0 ▸ loop_ok (cur := 0) (lp := lp_24_0 N) (x_24 N) (fun n => iter (b_24_0 N) n) (fun _ => rfl) (fun n p => b_ok_24_0 N (iter (b_24_0 N) n) p) (loopsAll (by kernel_rfl) (lookOk_nil)) N
noncomputable def lp_24 (N : Nat) : Nat → Option LSum := lookL [(0, L_24_0 N)]
noncomputable def f_24 (N : Nat) (x1 : ByteArray) (x2 : Int) (x3 : List (Int × Int × ByteArray)) : Option (TAs [.one (.d (.bool))]) :=
  ((l_24_0 N ((), 0, (x1, x2, x3))).bind fun q => (match q with | .inl q8 => (some q8) | .inr q9 => (bif (decide ((List.length q9.2.2.2 : Int) > 60)) then (some true) else (some (decide ((ByteArray.size q9.2.1 : Int) > 200))))))
theorem ok_24 (N : Nat) (x1 : ByteArray) (x2 : Int) (x3 : List (Int × Int × ByteArray)) : f_24 N x1 x2 x3 = exec (X_24 N) Go.Proofs.Tryz.f24.ntmps (lp_24 N) c_24 0 (fnK (X_24 N) Go.Proofs.Tryz.f24.results.toList 0 [.one (.d (.bool))]) (fnSt 1 0 [.agg [.d (.str), .d (.int .i64), .d (.sl [.int .i64, .int .i64, .str])]] (x1, x2, x3)) := by kernel_rfl
noncomputable def S_24 (N : Nat) : Sum := fnSum 1 0 1 [.agg [.d (.str), .d (.int .i64), .d (.sl [.int .i64, .int .i64, .str])]] [.one (.d (.bool))] (fun p => f_24 N p.1 p.2.1 p.2.2)
theorem s_24 (N : Nat) : SumOk Go.Proofs.Tryz.prog laidL 24 (S_24 N) :=
  fn_ok (lp := lp_24 N) (x_24 N) Go.Proofs.Tryz.func24 (c := c_24) (by kernel_rfl) (by kernel_rfl) rfl (fun p => ok_24 N p.1 p.2.1 p.2.2) (loopsAll (by kernel_rfl) ((lookOk_cons (L_ok_24_0 N) lookOk_nil)))
noncomputable def X_26 (_ : Nat) : Ctx := ⟨tyT, lookF [], eqT, fun _ => false⟩
noncomputable def c_26 : Code := bodyOf Go.Proofs.Tryz.f26
theorem x_26 (N : Nat) : CtxOk Go.Proofs.Tryz.prog laidL (X_26 N) := ⟨tyOk, eqOk, fun _ _ => fnsOk_nil.get, by kernel_rfl⟩
noncomputable def lp_26 (_ : Nat) : Nat → Option LSum := lookL []
noncomputable def f_26 (_ : Nat) : Option (TAs [.agg [.d (.int .i64), .d (.int .i64), .d (.int .i64), .d (.int .i64), .d (.int .i64), .d (.int .i64), .d (.bool), .d (.str), .d (.int .i64), .slt [.int .i64, .int .i64, .str] 177 3]]) :=
  (some (0, 0, 0, 1, 0, 1, false, ⟨#[85, 84, 67]⟩, 0, ([] : List (Int × Int × ByteArray))))
theorem ok_26 (N : Nat) : f_26 N = exec (X_26 N) Go.Proofs.Tryz.f26.ntmps (lp_26 N) c_26 0 (fnK (X_26 N) Go.Proofs.Tryz.f26.results.toList 0 [.agg [.d (.int .i64), .d (.int .i64), .d (.int .i64), .d (.int .i64), .d (.int .i64), .d (.int .i64), .d (.bool), .d (.str), .d (.int .i64), .slt [.int .i64, .int .i64, .str] 177 3]]) (fnSt 0 0 [] ()) := by kernel_rfl
noncomputable def S_26 (N : Nat) : Sum := fnSum 0 0 1 [] [.agg [.d (.int .i64), .d (.int .i64), .d (.int .i64), .d (.int .i64), .d (.int .i64), .d (.int .i64), .d (.bool), .d (.str), .d (.int .i64), .slt [.int .i64, .int .i64, .str] 177 3]] (fun _ => f_26 N)
theorem s_26 (N : Nat) : SumOk Go.Proofs.Tryz.prog laidL 26 (S_26 N) :=
  fn_ok (lp := lp_26 N) (x_26 N) Go.Proofs.Tryz.func26 (c := c_26) (by kernel_rfl) (by kernel_rfl) rfl (fun _ => ok_26 N) (loopsAll (by kernel_rfl) (lookOk_nil))
noncomputable def X_29 (_ : Nat) : Ctx := ⟨tyT, lookF [(63, growBsL)], eqT, fun _ => false⟩
noncomputable def c_29 : Code := bodyOf Go.Proofs.Tryz.f29
theorem x_29 (N : Nat) : CtxOk Go.Proofs.Tryz.prog laidL (X_29 N) := ⟨tyOk, eqOk, fun _ _ => (fnsOk_cons growBsL_ok fnsOk_nil).get, by kernel_rfl⟩
noncomputable def nd_29_0 : Code := loopAt 0 0 c_29
noncomputable def cb_29_0 : Code := unloop nd_29_0
theorem ne_29_0 : nd_29_0 = .loop cb_29_0 := by kernel_rfl
noncomputable def nd_29_2 : Code := loopAt 0 2 c_29
noncomputable def cb_29_2 : Code := unloop nd_29_2
theorem ne_29_2 : nd_29_2 = .loop cb_29_2 := by kernel_rfl
noncomputable def sh_29_0 : List ShA := [.one (.d (.sl [.sl [.int .u8]])), .one (.d (.int .i64)), .one (.d (.sl [.sl [.int .u8]])), .one (.d (.int .i64)), .one (.d (.int .i64))]
noncomputable def o_29_0 : OutK 0 (TAs [.one (.d (.sl [.sl [.int .u8]])), .one (.d (.int .i64))]) := (outOne 0 (.exit 0) [0, 3] [] [.one (.d (.sl [.sl [.int .u8]])), .one (.d (.int .i64))])
noncomputable def b_29_0 (_ : Nat) (ih : TAs sh_29_0 → Option (TAs [.one (.d (.sl [.sl [.int .u8]])), .one (.d (.int .i64))])) : TAs sh_29_0 → Option (TAs [.one (.d (.sl [.sl [.int .u8]])), .one (.d (.int .i64))]) := fun (y2, y3, y4, y5, y6) =>
  (bif (decide (y6 < y5)) then (bif (decide (0 ≤ y6 ∧ y6 < (List.length y4 : Int))) then (bif (decide ((IntKind.i64.wrap (y3 + (List.length (List.getD y4 (Int.toNat y6) []) : Int))) < 0)) then none else (ih (y2, (IntKind.i64.wrap (y3 + (List.length (List.getD y4 (Int.toNat y6) []) : Int))), y4, y5, (IntKind.i64.wrap (y6 + 1))))) else none) else (some ((y2, y3))))
noncomputable def l_29_0 (N : Nat) : TAs sh_29_0 → Option (TAs [.one (.d (.sl [.sl [.int .u8]])), .one (.d (.int .i64))]) := iter (b_29_0 N) N
noncomputable def lp_29_0 (_ : Nat) : Nat → Option LSum := lookL []
noncomputable def L_29_0 (N : Nat) : LSum := loopSum [0, 3, 9, 10, 11] [] sh_29_0 o_29_0 (l_29_0 N)
theorem b_ok_29_0 (N : Nat) (ih : TAs sh_29_0 → Option (TAs [.one (.d (.sl [.sl [.int .u8]])), .one (.d (.int .i64))])) (p : TAs sh_29_0) : b_29_0 N ih p = exec (X_29 N) Go.Proofs.Tryz.f29.ntmps (lp_29_0 N) cb_29_0 0 (roundK [0, 3, 9, 10, 11] [] sh_29_0 o_29_0 ih) (stOf [0, 3, 9, 10, 11] [] sh_29_0 p) := by kernel_rfl
theorem L_ok_29_0 (N : Nat) : SegOk Go.Proofs.Tryz.prog laidL 0 Go.Proofs.Tryz.f29.ntmps nd_29_0 (L_29_0 N) :=
  ne_29_0 ▸ loop_ok (cur := 0) (lp := lp_29_0 N) (x_29 N) (fun n => iter (b_29_0 N) n) (fun _ => rfl) (fun n p => b_ok_29_0 N (iter (b_29_0 N) n) p) (loopsAll (by kernel_rfl) (lookOk_nil)) N
noncomputable def sh_29_2 : List ShA := [.one (.slv [.int .u8] 5 1), .one (.d (.sl [.sl [.int .u8]])), .one (.d (.int .i64)), .one (.d (.int .i64))]
noncomputable def o_29_2 : OutK 0 (TAs [.one (.slv [.int .u8] 5 1)]) := (outOne 0 (.exit 2) [6] [] [.one (.slv [.int .u8] 5 1)])
noncomputable def b_29_2 (_ : Nat) (ih : TAs sh_29_2 → Option (TAs [.one (.slv [.int .u8] 5 1)])) : TAs sh_29_2 → Option (TAs [.one (.slv [.int .u8] 5 1)]) := fun (y9, y10, y11, y12) =>
  (bif (decide (y12 < y11)) then (bif (decide (0 ≤ y12 ∧ y12 < (List.length y10 : Int))) then (bif (decide ((List.length y9 + List.length (List.getD y10 (Int.toNat y12) [])) * 1 ≤ 140737488355328)) then (ih ((y9 ++ (List.getD y10 (Int.toNat y12) [])), y10, y11, (IntKind.i64.wrap (y12 + 1)))) else none) else none) else (some (y9)))
noncomputable def l_29_2 (N : Nat) : TAs sh_29_2 → Option (TAs [.one (.slv [.int .u8] 5 1)]) := iter (b_29_2 N) N
noncomputable def lp_29_2 (_ : Nat) : Nat → Option LSum := lookL []
noncomputable def L_29_2 (N : Nat) : LSum := loopSum [6, 25, 26, 27] [] sh_29_2 o_29_2 (l_29_2 N)
theorem b_ok_29_2 (N : Nat) (ih : TAs sh_29_2 → Option (TAs [.one (.slv [.int .u8] 5 1)])) (p : TAs sh_29_2) : b_29_2 N ih p = exec (X_29 N) Go.Proofs.Tryz.f29.ntmps (lp_29_2 N) cb_29_2 2 (roundK [6, 25, 26, 27] [] sh_29_2 o_29_2 ih) (stOf [6, 25, 26, 27] [] sh_29_2 p) := by kernel_rfl
theorem L_ok_29_2 (N : Nat) : SegOk Go.Proofs.Tryz.prog laidL 0 Go.Proofs.Tryz.f29.ntmps nd_29_2 (L_29_2 N) :=
  ne_29_2 ▸ loop_ok (cur := 2) (lp := lp_29_2 N) (x_29 N) (fun n => iter (b_29_2 N) n) (fun _ => rfl) (fun n p => b_ok_29_2 N (iter (b_29_2 N) n) p) (loopsAll (by kernel_rfl) (lookOk_nil)) N
noncomputable def lp_29 (N : Nat) : Nat → Option LSum := lookL [(0, L_29_0 N), (2, L_29_2 N)]
noncomputable def f_29 (N : Nat) (x1 : List ((List Int))) : Option (TAs [.one (.slv [.int .u8] 5 1)]) :=
  ((l_29_0 N (x1, 0, x1, (List.length x1 : Int), 0)).bind fun q7 => ((growF 1 q7.2).bind fun _ => ((l_29_2 N (([] : List Int), q7.1, (List.length q7.1 : Int), 0)).bind fun q13 => (some q13))))
theorem ok_29 (N : Nat) (x1 : List ((List Int))) : f_29 N x1 = exec (X_29 N) Go.Proofs.Tryz.f29.ntmps (lp_29 N) c_29 0 (fnK (X_29 N) Go.Proofs.Tryz.f29.results.toList 0 [.one (.slv [.int .u8] 5 1)]) (fnSt 1 0 [.one (.d (.sl [.sl [.int .u8]]))] x1) := by kernel_rfl
noncomputable def S_29 (N : Nat) : Sum := fnSum 1 0 1 [.one (.d (.sl [.sl [.int .u8]]))] [.one (.slv [.int .u8] 5 1)] (fun p => f_29 N p)
theorem s_29 (N : Nat) : SumOk Go.Proofs.Tryz.prog laidL 29 (S_29 N) :=
  fn_ok (lp := lp_29 N) (x_29 N) Go.Proofs.Tryz.func29 (c := c_29) (by kernel_rfl) (by kernel_rfl) rfl (fun p => ok_29 N p) (loopsAll (by kernel_rfl) ((lookOk_cons (L_ok_29_0 N) (lookOk_cons (L_ok_29_2 N) lookOk_nil))))
noncomputable def X_35 (_ : Nat) : Ctx := ⟨tyT, lookF [], eqT, fun _ => false⟩
noncomputable def c_35 : Code := bodyOf Go.Proofs.Tryz.f35
theorem x_35 (N : Nat) : CtxOk Go.Proofs.Tryz.prog laidL (X_35 N) := ⟨tyOk, eqOk, fun _ _ => fnsOk_nil.get, by kernel_rfl⟩
noncomputable def nd_35_0 : Code := loopAt 0 0 c_35
noncomputable def cb_35_0 : Code := unloop nd_35_0
theorem ne_35_0 : nd_35_0 = .loop cb_35_0 := by kernel_rfl
noncomputable def sh_35_0 : List ShA := [.one (.d (.int .u64)), .one (.d (.int .i64)), .one (.slt [.int .u8] 5 1), .one (.d (.int .i64))]
noncomputable def o_35_0 : OutK 0 (TAs [.one (.slt [.int .u8] 5 1)]) := (outOne 0 (.exit 0) [7] [] [.one (.slt [.int .u8] 5 1)])
noncomputable def b_35_0 (_ : Nat) (ih : TAs sh_35_0 → Option (TAs [.one (.slt [.int .u8] 5 1)])) : TAs sh_35_0 → Option (TAs [.one (.slt [.int .u8] 5 1)]) := fun (y4, y5, y6, y7) =>
  (bif (decide (y7 < y5)) then (bif (decide ((List.length y6 + List.length ([(IntKind.u8.wrap (Int.tmod y4 256))] : List Int)) * 1 ≤ 140737488355328)) then (ih ((IntKind.u64.wrap (Int.tdiv y4 256)), y5, (y6 ++ ([(IntKind.u8.wrap (Int.tmod y4 256))] : List Int)), (IntKind.i64.wrap (y7 + 1)))) else none) else (some (y6)))
noncomputable def l_35_0 (N : Nat) : TAs sh_35_0 → Option (TAs [.one (.slt [.int .u8] 5 1)]) := iter (b_35_0 N) N
noncomputable def lp_35_0 (_ : Nat) : Nat → Option LSum := lookL []
noncomputable def L_35_0 (N : Nat) : LSum := loopSum [1, 2, 7, 8] [] sh_35_0 o_35_0 (l_35_0 N)
theorem b_ok_35_0 (N : Nat) (ih : TAs sh_35_0 → Option (TAs [.one (.slt [.int .u8] 5 1)])) (p : TAs sh_35_0) : b_35_0 N ih p = exec (X_35 N) Go.Proofs.Tryz.f35.ntmps (lp_35_0 N) cb_35_0 0 (roundK [1, 2, 7, 8] [] sh_35_0 o_35_0 ih) (stOf [1, 2, 7, 8] [] sh_35_0 p) := by kernel_rfl
theorem L_ok_35_0 (N : Nat) : SegOk Go.Proofs.Tryz.prog laidL 0 Go.Proofs.Tryz.f35.ntmps nd_35_0 (L_35_0 N) :=
  ne_35_0 ▸ loop_ok (cur := 0) (lp := lp_35_0 N) (x_35 N) (fun n => iter (b_35_0 N) n) (fun _ => rfl) (fun n p => b_ok_35_0 N (iter (b_35_0 N) n) p) (loopsAll (by kernel_rfl) (lookOk_nil)) N
noncomputable def lp_35 (N : Nat) : Nat → Option LSum := lookL [(0, L_35_0 N)]
noncomputable def f_35 (N : Nat) (x1 : List Int) (x2 : Int) (x3 : Int) : Option (TAs [.one (.slt [.int .u8] 5 1)]) :=
  (bif (decide ((List.length ([] : List Int) + List.length x1) * 1 ≤ 140737488355328)) then ((l_35_0 N (x2, x3, (([] : List Int) ++ x1), 0)).bind fun q8 => (some q8)) else none)
theorem ok_35 (N : Nat) (x1 : List Int) (x2 : Int) (x3 : Int) : f_35 N x1 x2 x3 = exec (X_35 N) Go.Proofs.Tryz.f35.ntmps (lp_35 N) c_35 0 (fnK (X_35 N) Go.Proofs.Tryz.f35.results.toList 0 [.one (.slt [.int .u8] 5 1)]) (fnSt 3 0 [.one (.d (.sl [.int .u8])), .one (.d (.int .u64)), .one (.d (.int .i64))] (x1, x2, x3)) := by kernel_rfl
noncomputable def S_35 (N : Nat) : Sum := fnSum 3 0 1 [.one (.d (.sl [.int .u8])), .one (.d (.int .u64)), .one (.d (.int .i64))] [.one (.slt [.int .u8] 5 1)] (fun p => f_35 N p.1 p.2.1 p.2.2)
theorem s_35 (N : Nat) : SumOk Go.Proofs.Tryz.prog laidL 35 (S_35 N) :=
  fn_ok (lp := lp_35 N) (x_35 N) Go.Proofs.Tryz.func35 (c := c_35) (by kernel_rfl) (by kernel_rfl) rfl (fun p => ok_35 N p.1 p.2.1 p.2.2) (loopsAll (by kernel_rfl) ((lookOk_cons (L_ok_35_0 N) lookOk_nil)))
noncomputable def X_39 (_ : Nat) : Ctx := ⟨tyT, lookF [(72, rdS)], eqT, fun _ => false⟩
noncomputable def c_39 : Code := bodyOf Go.Proofs.Tryz.f39
theorem x_39 (N : Nat) : CtxOk Go.Proofs.Tryz.prog laidL (X_39 N) := ⟨tyOk, eqOk, fun _ _ => (fnsOk_cons rdS_ok fnsOk_nil).get, by kernel_rfl⟩
noncomputable def lp_39 (_ : Nat) : Nat → Option LSum := lookL []
noncomputable def f_39 (_ : Nat) (x1 : List Int) (x2 : Bool) : Option (TAs [.one (.d (.int .u8)), .agg [.d (.sl [.int .u8]), .d (.bool)]]) :=
  ((rdF 1 x1 x2).bind fun r3 => (some ((IntKind.u8.wrap r3.1), (r3.2.1, r3.2.2))))
theorem ok_39 (N : Nat) (x1 : List Int) (x2 : Bool) : f_39 N x1 x2 = exec (X_39 N) Go.Proofs.Tryz.f39.ntmps (lp_39 N) c_39 0 (fnK (X_39 N) Go.Proofs.Tryz.f39.results.toList 1 [.one (.d (.int .u8)), .agg [.d (.sl [.int .u8]), .d (.bool)]]) (fnSt 1 1 [.one (.ptr 0 0), .agg [.d (.sl [.int .u8]), .d (.bool)]] ((), (x1, x2))) := by kernel_rfl
noncomputable def S_39 (N : Nat) : Sum := fnSum 1 1 1 [.one (.ptr 0 0), .agg [.d (.sl [.int .u8]), .d (.bool)]] [.one (.d (.int .u8)), .agg [.d (.sl [.int .u8]), .d (.bool)]] (fun p => f_39 N p.2.1 p.2.2)
theorem s_39 (N : Nat) : SumOk Go.Proofs.Tryz.prog laidL 39 (S_39 N) :=
  fn_ok (lp := lp_39 N) (x_39 N) Go.Proofs.Tryz.func39 (c := c_39) (by kernel_rfl) (by kernel_rfl) rfl (fun p => ok_39 N p.2.1 p.2.2) (loopsAll (by kernel_rfl) (lookOk_nil))
noncomputable def X_40 (_ : Nat) : Ctx := ⟨tyT, lookF [(72, rdS)], eqT, fun _ => false⟩
noncomputable def c_40 : Code := bodyOf Go.Proofs.Tryz.f40
theorem x_40 (N : Nat) : CtxOk Go.Proofs.Tryz.prog laidL (X_40 N) := ⟨tyOk, eqOk, fun _ _ => (fnsOk_cons rdS_ok fnsOk_nil).get, by kernel_rfl⟩
noncomputable def lp_40 (_ : Nat) : Nat → Option LSum := lookL []
noncomputable def f_40 (_ : Nat) (x1 : List Int) (x2 : Bool) : Option (TAs [.one (.d (.int .i64)), .agg [.d (.sl [.int .u8]), .d (.bool)]]) :=
  ((rdF 8 x1 x2).bind fun r3 => (some ((IntKind.i64.wrap r3.1), (r3.2.1, r3.2.2))))
theorem ok_40 (N : Nat) (x1 : List Int) (x2 : Bool) : f_40 N x1 x2 = exec (X_40 N) Go.Proofs.Tryz.f40.ntmps (lp_40 N) c_40 0 (fnK (X_40 N) Go.Proofs.Tryz.f40.results.toList 1 [.one (.d (.int .i64)), .agg [.d (.sl [.int .u8]), .d (.bool)]]) (fnSt 1 1 [.one (.ptr 0 0), .agg [.d (.sl [.int .u8]), .d (.bool)]] ((), (x1, x2))) := by kernel_rfl
noncomputable def S_40 (N : Nat) : Sum := fnSum 1 1 1 [.one (.ptr 0 0), .agg [.d (.sl [.int .u8]), .d (.bool)]] [.one (.d (.int .i64)), .agg [.d (.sl [.int .u8]), .d (.bool)]] (fun p => f_40 N p.2.1 p.2.2)
theorem s_40 (N : Nat) : SumOk Go.Proofs.Tryz.prog laidL 40 (S_40 N) :=
  fn_ok (lp := lp_40 N) (x_40 N) Go.Proofs.Tryz.func40 (c := c_40) (by kernel_rfl) (by kernel_rfl) rfl (fun p => ok_40 N p.2.1 p.2.2) (loopsAll (by kernel_rfl) (lookOk_nil))
noncomputable def X_42 (_ : Nat) : Ctx := ⟨tyT, lookF [], eqT, fun _ => false⟩
noncomputable def c_42 : Code := bodyOf Go.Proofs.Tryz.f42
theorem x_42 (N : Nat) : CtxOk Go.Proofs.Tryz.prog laidL (X_42 N) := ⟨tyOk, eqOk, fun _ _ => fnsOk_nil.get, by kernel_rfl⟩
noncomputable def lp_42 (_ : Nat) : Nat → Option LSum := lookL []
noncomputable def f_42 (_ : Nat) (x1 : List Int) (x2 : Bool) : Option (TAs [.one (.d (.int .i64)), .agg [.d (.sl [.int .u8]), .d (.bool)]]) :=
  (some ((List.length x1 : Int), (x1, x2)))
theorem ok_42 (N : Nat) (x1 : List Int) (x2 : Bool) : f_42 N x1 x2 = exec (X_42 N) Go.Proofs.Tryz.f42.ntmps (lp_42 N) c_42 0 (fnK (X_42 N) Go.Proofs.Tryz.f42.results.toList 1 [.one (.d (.int .i64)), .agg [.d (.sl [.int .u8]), .d (.bool)]]) (fnSt 1 1 [.one (.ptr 0 0), .agg [.d (.sl [.int .u8]), .d (.bool)]] ((), (x1, x2))) := by kernel_rfl
noncomputable def S_42 (N : Nat) : Sum := fnSum 1 1 1 [.one (.ptr 0 0), .agg [.d (.sl [.int .u8]), .d (.bool)]] [.one (.d (.int .i64)), .agg [.d (.sl [.int .u8]), .d (.bool)]] (fun p => f_42 N p.2.1 p.2.2)
theorem s_42 (N : Nat) : SumOk Go.Proofs.Tryz.prog laidL 42 (S_42 N) :=
  fn_ok (lp := lp_42 N) (x_42 N) Go.Proofs.Tryz.func42 (c := c_42) (by kernel_rfl) (by kernel_rfl) rfl (fun p => ok_42 N p.2.1 p.2.2) (loopsAll (by kernel_rfl) (lookOk_nil))
noncomputable def X_43 (_ : Nat) : Ctx := ⟨tyT, lookF [], eqT, fun _ => false⟩
noncomputable def c_43 : Code := bodyOf Go.Proofs.Tryz.f43
theorem x_43 (N : Nat) : CtxOk Go.Proofs.Tryz.prog laidL (X_43 N) := ⟨tyOk, eqOk, fun _ _ => fnsOk_nil.get, by kernel_rfl⟩
noncomputable def lp_43 (_ : Nat) : Nat → Option LSum := lookL []
noncomputable def f_43 (_ : Nat) (x1 : List Int) (x2 : Bool) : Option (TAs [.one (.d (.err 93)), .agg [.d (.sl [.int .u8]), .d (.bool)]]) :=
  (bif x2 then (some ((some 3), (x1, x2))) else (bif (decide ((List.length x1 : Int) > 0)) then (some ((some 3), (x1, x2))) else (some (none, (x1, x2)))))
theorem ok_43 (N : Nat) (x1 : List Int) (x2 : Bool) : f_43 N x1 x2 = exec (X_43 N) Go.Proofs.Tryz.f43.ntmps (lp_43 N) c_43 0 (fnK (X_43 N) Go.Proofs.Tryz.f43.results.toList 1 [.one (.d (.err 93)), .agg [.d (.sl [.int .u8]), .d (.bool)]]) (fnSt 1 1 [.one (.ptr 0 0), .agg [.d (.sl [.int .u8]), .d (.bool)]] ((), (x1, x2))) := by kernel_rfl
noncomputable def S_43 (N : Nat) : Sum := fnSum 1 1 1 [.one (.ptr 0 0), .agg [.d (.sl [.int .u8]), .d (.bool)]] [.one (.d (.err 93)), .agg [.d (.sl [.int .u8]), .d (.bool)]] (fun p => f_43 N p.2.1 p.2.2)
theorem s_43 (N : Nat) : SumOk Go.Proofs.Tryz.prog laidL 43 (S_43 N) :=
  fn_ok (lp := lp_43 N) (x_43 N) Go.Proofs.Tryz.func43 (c := c_43) (by kernel_rfl) (by kernel_rfl) rfl (fun p => ok_43 N p.2.1 p.2.2) (loopsAll (by kernel_rfl) (lookOk_nil))
noncomputable def X_45 (_ : Nat) : Ctx := ⟨tyT, lookF [], eqT, fun _ => false⟩
noncomputable def c_45 : Code := bodyOf Go.Proofs.Tryz.f45
theorem x_45 (N : Nat) : CtxOk Go.Proofs.Tryz.prog laidL (X_45 N) := ⟨tyOk, eqOk, fun _ _ => fnsOk_nil.get, by kernel_rfl⟩
noncomputable def nd_45_0 : Code := loopAt 0 0 c_45
noncomputable def cb_45_0 : Code := unloop nd_45_0
theorem ne_45_0 : nd_45_0 = .loop cb_45_0 := by kernel_rfl
noncomputable def sh_45_0 : List ShA := [.one (.d (.int .i64)), .one (.ptr 160 0), .one (.ptr 192 0), .one (.d (.int .u64)), .one (.d (.int .i64)), .agg [.d (.sl [.int .u8]), .d (.bool)], .agg [.slt [.int .u8] 5 1, .d (.bool)]]
noncomputable def o_45_0 : OutK 0 (TAs [.one (.d (.int .i64)), .one (.ptr 160 0), .one (.ptr 192 0), .one (.d (.int .u64)), .agg [.d (.sl [.int .u8]), .d (.bool)], .agg [.slt [.int .u8] 5 1, .d (.bool)]]) := (outOne 0 (.exit 0) [1, 2, 4, 6] [160, 192] [.one (.d (.int .i64)), .one (.ptr 160 0), .one (.ptr 192 0), .one (.d (.int .u64)), .agg [.d (.sl [.int .u8]), .d (.bool)], .agg [.slt [.int .u8] 5 1, .d (.bool)]])
noncomputable def b_45_0 (_ : Nat) (ih : TAs sh_45_0 → Option (TAs [.one (.d (.int .i64)), .one (.ptr 160 0), .one (.ptr 192 0), .one (.d (.int .u64)), .agg [.d (.sl [.int .u8]), .d (.bool)], .agg [.slt [.int .u8] 5 1, .d (.bool)]])) : TAs sh_45_0 → Option (TAs [.one (.d (.int .i64)), .one (.ptr 160 0), .one (.ptr 192 0), .one (.d (.int .u64)), .agg [.d (.sl [.int .u8]), .d (.bool)], .agg [.slt [.int .u8] 5 1, .d (.bool)]]) := fun (y4, _, _, y5, y6, (y7, y8), (y9, y10)) =>
  (bif (decide (y6 ≥ 0)) then (bif (decide (0 ≤ y6 ∧ y6 < (List.length y7 : Int))) then (ih (y4, (), (), (IntKind.u64.wrap ((IntKind.u64.wrap (256 * y5)) + (IntKind.u64.wrap (List.getD y7 (Int.toNat y6) 0)))), (IntKind.i64.wrap (y6 - 1)), (y7, y8), (y9, y10))) else none) else (some ((y4, (), (), y5, (y7, y8), (y9, y10)))))
noncomputable def l_45_0 (N : Nat) : TAs sh_45_0 → Option (TAs [.one (.d (.int .i64)), .one (.ptr 160 0), .one (.ptr 192 0), .one (.d (.int .u64)), .agg [.d (.sl [.int .u8]), .d (.bool)], .agg [.slt [.int .u8] 5 1, .d (.bool)]]) := iter (b_45_0 N) N
noncomputable def lp_45_0 (_ : Nat) : Nat → Option LSum := lookL []
noncomputable def L_45_0 (N : Nat) : LSum := loopSum [1, 2, 4, 6, 7] [160, 192] sh_45_0 o_45_0 (l_45_0 N)
theorem b_ok_45_0 (N : Nat) (ih : TAs sh_45_0 → Option (TAs [.one (.d (.int .i64)), .one (.ptr 160 0), .one (.ptr 192 0), .one (.d (.int .u64)), .agg [.d (.sl [.int .u8]), .d (.bool)], .agg [.slt [.int .u8] 5 1, .d (.bool)]])) (p : TAs sh_45_0) : b_45_0 N ih p = exec (X_45 N) Go.Proofs.Tryz.f45.ntmps (lp_45_0 N) cb_45_0 0 (roundK [1, 2, 4, 6, 7] [160, 192] sh_45_0 o_45_0 ih) (stOf [1, 2, 4, 6, 7] [160, 192] sh_45_0 p) := by kernel_rfl
theorem L_ok_45_0 (N : Nat) : SegOk Go.Proofs.Tryz.prog laidL 0 Go.Proofs.Tryz.f45.ntmps nd_45_0 (L_45_0 N) :=
  ne_45_0 ▸ loop_ok (cur := 0) (lp := lp_45_0 N) (x_45 N) (fun n => iter (b_45_0 N) n) (fun _ => rfl) (fun n p => b_ok_45_0 N (iter (b_45_0 N) n) p) (loopsAll (by kernel_rfl) (lookOk_nil)) N
noncomputable def lp_45 (N : Nat) : Nat → Option LSum := lookL [(0, L_45_0 N)]
noncomputable def f_45 (N : Nat) (x1 : List Int) (x2 : Bool) (x3 : Int) : Option (TAs [.agg [.d (.sl [.int .u8]), .d (.bool)], .one (.d (.int .u64))]) :=
  (bif x2 then (some ((([] : List Int), true), 0)) else (bif (decide ((List.length x1 : Int) < x3)) then (some ((([] : List Int), true), 0)) else ((l_45_0 N (x3, (), (), 0, (IntKind.i64.wrap (x3 - 1)), (x1, x2), (([] : List Int), false))).bind fun q11 => (bif (decide (0 ≤ (List.length q11.2.2.2.2.1.1 : Int) ∧ (List.length q11.2.2.2.2.1.1 : Int) ≤ (List.length q11.2.2.2.2.1.1 : Int))) then (bif (decide (0 ≤ q11.1 ∧ q11.1 ≤ (List.length q11.2.2.2.2.1.1 : Int))) then (some (((List.drop (Int.toNat q11.1) (List.take (Int.toNat (List.length q11.2.2.2.2.1.1 : Int)) q11.2.2.2.2.1.1)), false), q11.2.2.2.1)) else none) else none))))
theorem ok_45 (N : Nat) (x1 : List Int) (x2 : Bool) (x3 : Int) : f_45 N x1 x2 x3 = exec (X_45 N) Go.Proofs.Tryz.f45.ntmps (lp_45 N) c_45 0 (fnK (X_45 N) Go.Proofs.Tryz.f45.results.toList 0 [.agg [.d (.sl [.int .u8]), .d (.bool)], .one (.d (.int .u64))]) (fnSt 2 0 [.agg [.d (.sl [.int .u8]), .d (.bool)], .one (.d (.int .i64))] ((x1, x2), x3)) := by kernel_rfl
noncomputable def S_45 (N : Nat) : Sum := fnSum 2 0 2 [.agg [.d (.sl [.int .u8]), .d (.bool)], .one (.d (.int .i64))] [.agg [.d (.sl [.int .u8]), .d (.bool)], .one (.d (.int .u64))] (fun p => f_45 N p.1.1 p.1.2 p.2)
theorem s_45 (N : Nat) : SumOk Go.Proofs.Tryz.prog laidL 45 (S_45 N) :=
  fn_ok (lp := lp_45 N) (x_45 N) Go.Proofs.Tryz.func45 (c := c_45) (by kernel_rfl) (by kernel_rfl) rfl (fun p => ok_45 N p.1.1 p.1.2 p.2) (loopsAll (by kernel_rfl) ((lookOk_cons (L_ok_45_0 N) lookOk_nil)))
noncomputable def X_46 (N : Nat) : Ctx := ⟨tyT, lookF [(45, (S_45 N))], eqT, fun _ => false⟩
noncomputable def c_46 : Code := bodyOf Go.Proofs.Tryz.f46
theorem x_46 (N : Nat) : CtxOk Go.Proofs.Tryz.prog laidL (X_46 N) := ⟨tyOk, eqOk, fun _ _ => (fnsOk_cons (s_45 N) fnsOk_nil).get, by kernel_rfl⟩
noncomputable def lp_46 (_ : Nat) : Nat → Option LSum := lookL []
noncomputable def f_46 (N : Nat) (x1 : List Int) (x2 : Bool) : Option (TAs [.agg [.d (.sl [.int .u8]), .d (.bool)], .one (.d (.str))]) :=
  ((f_45 N x1 x2 1).bind fun r3 => (bif r3.1.2 then (some ((([] : List Int), true), ⟨#[]⟩)) else (bif (decide ((IntKind.u64.wrap (List.length r3.1.1 : Int)) < r3.2)) then (some ((([] : List Int), true), ⟨#[]⟩)) else (bif (decide (0 ≤ (List.length r3.1.1 : Int) ∧ (List.length r3.1.1 : Int) ≤ (List.length r3.1.1 : Int))) then (bif (decide (0 ≤ r3.2 ∧ r3.2 ≤ (List.length r3.1.1 : Int))) then (bif (decide (0 ≤ r3.2 ∧ r3.2 ≤ (List.length r3.1.1 : Int))) then (bif (decide (0 ≤ (0 : Int) ∧ (0 : Int) ≤ r3.2)) then (some (((List.drop (Int.toNat r3.2) (List.take (Int.toNat (List.length r3.1.1 : Int)) r3.1.1)), false), (bytesS (List.drop (Int.toNat (0 : Int)) (List.take (Int.toNat r3.2) r3.1.1))))) else none) else none) else none) else none))))
theorem ok_46 (N : Nat) (x1 : List Int) (x2 : Bool) : f_46 N x1 x2 = exec (X_46 N) Go.Proofs.Tryz.f46.ntmps (lp_46 N) c_46 0 (fnK (X_46 N) Go.Proofs.Tryz.f46.results.toList 0 [.agg [.d (.sl [.int .u8]), .d (.bool)], .one (.d (.str))]) (fnSt 1 0 [.agg [.d (.sl [.int .u8]), .d (.bool)]] (x1, x2)) := by kernel_rfl
noncomputable def S_46 (N : Nat) : Sum := fnSum 1 0 2 [.agg [.d (.sl [.int .u8]), .d (.bool)]] [.agg [.d (.sl [.int .u8]), .d (.bool)], .one (.d (.str))] (fun p => f_46 N p.1 p.2)
theorem s_46 (N : Nat) : SumOk Go.Proofs.Tryz.prog laidL 46 (S_46 N) :=
  fn_ok (lp := lp_46 N) (x_46 N) Go.Proofs.Tryz.func46 (c := c_46) (by kernel_rfl) (by kernel_rfl) rfl (fun p => ok_46 N p.1 p.2) (loopsAll (by kernel_rfl) (lookOk_nil))
noncomputable def X_48 (_ : Nat) : Ctx := ⟨tyT, lookF [], eqT, fun _ => false⟩
noncomputable def c_48 : Code := bodyOf Go.Proofs.Tryz.f48
theorem x_48 (N : Nat) : CtxOk Go.Proofs.Tryz.prog laidL (X_48 N) := ⟨tyOk, eqOk, fun _ _ => fnsOk_nil.get, by kernel_rfl⟩
noncomputable def lp_48 (_ : Nat) : Nat → Option LSum := lookL []
noncomputable def f_48 (_ : Nat) (x1 : Bool) : Option (TAs [.one (.d (.int .u8))]) :=
  (bif x1 then (some 1) else (some 0))
theorem ok_48 (N : Nat) (x1 : Bool) : f_48 N x1 = exec (X_48 N) Go.Proofs.Tryz.f48.ntmps (lp_48 N) c_48 0 (fnK (X_48 N) Go.Proofs.Tryz.f48.results.toList 0 [.one (.d (.int .u8))]) (fnSt 1 0 [.one (.d (.bool))] x1) := by kernel_rfl
noncomputable def S_48 (N : Nat) : Sum := fnSum 1 0 1 [.one (.d (.bool))] [.one (.d (.int .u8))] (fun p => f_48 N p)
theorem s_48 (N : Nat) : SumOk Go.Proofs.Tryz.prog laidL 48 (S_48 N) :=
  fn_ok (lp := lp_48 N) (x_48 N) Go.Proofs.Tryz.func48 (c := c_48) (by kernel_rfl) (by kernel_rfl) rfl (fun p => ok_48 N p) (loopsAll (by kernel_rfl) (lookOk_nil))
noncomputable def X_51 (_ : Nat) : Ctx := ⟨tyT, lookF [], eqT, fun _ => false⟩
noncomputable def c_51 : Code := bodyOf Go.Proofs.Tryz.f51
theorem x_51 (N : Nat) : CtxOk Go.Proofs.Tryz.prog laidL (X_51 N) := ⟨tyOk, eqOk, fun _ _ => fnsOk_nil.get, by kernel_rfl⟩
noncomputable def lp_51 (_ : Nat) : Nat → Option LSum := lookL []
noncomputable def f_51 (_ : Nat) (x1 : Bool) : Option (TAs [.one (.d (.int .u64))]) :=
  (bif x1 then (some 1) else (some 0))
theorem ok_51 (N : Nat) (x1 : Bool) : f_51 N x1 = exec (X_51 N) Go.Proofs.Tryz.f51.ntmps (lp_51 N) c_51 0 (fnK (X_51 N) Go.Proofs.Tryz.f51.results.toList 0 [.one (.d (.int .u64))]) (fnSt 1 0 [.one (.d (.bool))] x1) := by kernel_rfl
noncomputable def S_51 (N : Nat) : Sum := fnSum 1 0 1 [.one (.d (.bool))] [.one (.d (.int .u64))] (fun p => f_51 N p)
theorem s_51 (N : Nat) : SumOk Go.Proofs.Tryz.prog laidL 51 (S_51 N) :=
  fn_ok (lp := lp_51 N) (x_51 N) Go.Proofs.Tryz.func51 (c := c_51) (by kernel_rfl) (by kernel_rfl) rfl (fun p => ok_51 N p) (loopsAll (by kernel_rfl) (lookOk_nil))
noncomputable def X_53 (N : Nat) : Ctx := ⟨tyT, lookF [(39, (S_39 N))], eqT, fun _ => false⟩
noncomputable def c_53 : Code := bodyOf Go.Proofs.Tryz.f53
theorem x_53 (N : Nat) : CtxOk Go.Proofs.Tryz.prog laidL (X_53 N) := ⟨tyOk, eqOk, fun _ _ => (fnsOk_cons (s_39 N) fnsOk_nil).get, by kernel_rfl⟩
noncomputable def nd_53_0 : Code := loopAt 0 0 c_53
noncomputable def cb_53_0 : Code := unloop nd_53_0
theorem ne_53_0 : nd_53_0 = .loop cb_53_0 := by kernel_rfl
noncomputable def sh_53_0 : List ShA := [.one (.ptr 0 0), .one (.ptr 160 0), .one (.ptr 176 0), .one (.d (.int .i64)), .agg [.d (.sl [.int .u8]), .d (.bool)], .agg [.d (.arr .u8 16)], .agg [.d (.arr .u8 16)]]
noncomputable def o_53_0 : OutK 1 (TAs [.one (.ptr 160 0), .one (.ptr 176 0), .agg [.d (.sl [.int .u8]), .d (.bool)], .agg [.d (.arr .u8 16)], .agg [.d (.arr .u8 16)]]) := (outOne 1 (.exit 0) [2, 3] [0, 160, 176] [.one (.ptr 160 0), .one (.ptr 176 0), .agg [.d (.sl [.int .u8]), .d (.bool)], .agg [.d (.arr .u8 16)], .agg [.d (.arr .u8 16)]])
noncomputable def b_53_0 (N : Nat) (ih : TAs sh_53_0 → Option (TAs [.one (.ptr 160 0), .one (.ptr 176 0), .agg [.d (.sl [.int .u8]), .d (.bool)], .agg [.d (.arr .u8 16)], .agg [.d (.arr .u8 16)]])) : TAs sh_53_0 → Option (TAs [.one (.ptr 160 0), .one (.ptr 176 0), .agg [.d (.sl [.int .u8]), .d (.bool)], .agg [.d (.arr .u8 16)], .agg [.d (.arr .u8 16)]]) := fun (_, _, _, y3, (y4, y5), y6, y7) =>
  (bif (decide (y3 < 16)) then ((f_39 N y4 y5).bind fun r8 => (bif (decide (0 ≤ y3 ∧ y3 < 16)) then (ih ((), (), (), (IntKind.i64.wrap (y3 + 1)), (r8.2.1, r8.2.2), y6, (List.set y7 (Int.toNat y3) r8.1))) else none)) else (some (((), (), (y4, y5), y6, y7))))
noncomputable def l_53_0 (N : Nat) : TAs sh_53_0 → Option (TAs [.one (.ptr 160 0), .one (.ptr 176 0), .agg [.d (.sl [.int .u8]), .d (.bool)], .agg [.d (.arr .u8 16)], .agg [.d (.arr .u8 16)]]) := iter (b_53_0 N) N
noncomputable def lp_53_0 (_ : Nat) : Nat → Option LSum := lookL []
noncomputable def L_53_0 (N : Nat) : LSum := loopSum [0, 2, 3, 5] [0, 160, 176] sh_53_0 o_53_0 (l_53_0 N)
theorem b_ok_53_0 (N : Nat) (ih : TAs sh_53_0 → Option (TAs [.one (.ptr 160 0), .one (.ptr 176 0), .agg [.d (.sl [.int .u8]), .d (.bool)], .agg [.d (.arr .u8 16)], .agg [.d (.arr .u8 16)]])) (p : TAs sh_53_0) : b_53_0 N ih p = exec (X_53 N) Go.Proofs.Tryz.f53.ntmps (lp_53_0 N) cb_53_0 0 (roundK [0, 2, 3, 5] [0, 160, 176] sh_53_0 o_53_0 ih) (stOf [0, 2, 3, 5] [0, 160, 176] sh_53_0 p) := by kernel_rfl
theorem L_ok_53_0 (N : Nat) : SegOk Go.Proofs.Tryz.prog laidL 1 Go.Proofs.Tryz.f53.ntmps nd_53_0 (L_53_0 N) :=
  ne_53_0 ▸ loop_ok (cur := 0) (lp := lp_53_0 N) (x_53 N) (fun n => iter (b_53_0 N) n) (fun _ => rfl) (fun n p => b_ok_53_0 N (iter (b_53_0 N) n) p) (loopsAll (by kernel_rfl) (lookOk_nil)) N
noncomputable def lp_53 (N : Nat) : Nat → Option LSum := lookL [(0, L_53_0 N)]
noncomputable def f_53 (N : Nat) (x1 : List Int) (x2 : Bool) : Option (TAs [.agg [.d (.arr .u8 16)], .agg [.d (.sl [.int .u8]), .d (.bool)]]) :=
  ((l_53_0 N ((), (), (), 0, (x1, x2), [0, 0, 0, 0, 0, 0, 0, 0, 0, 0, 0, 0, 0, 0, 0, 0], [0, 0, 0, 0, 0, 0, 0, 0, 0, 0, 0, 0, 0, 0, 0, 0])).bind fun q9 => (some (q9.2.2.2.2, (q9.2.2.1.1, q9.2.2.1.2))))
theorem ok_53 (N : Nat) (x1 : List Int) (x2 : Bool) : f_53 N x1 x2 = exec (X_53 N) Go.Proofs.Tryz.f53.ntmps (lp_53 N) c_53 0 (fnK (X_53 N) Go.Proofs.Tryz.f53.results.toList 1 [.agg [.d (.arr .u8 16)], .agg [.d (.sl [.int .u8]), .d (.bool)]]) (fnSt 1 1 [.one (.ptr 0 0), .agg [.d (.sl [.int .u8]), .d (.bool)]] ((), (x1, x2))) := by kernel_rfl
noncomputable def S_53 (N : Nat) : Sum := fnSum 1 1 1 [.one (.ptr 0 0), .agg [.d (.sl [.int .u8]), .d (.bool)]] [.agg [.d (.arr .u8 16)], .agg [.d (.sl [.int .u8]), .d (.bool)]] (fun p => f_53 N p.2.1 p.2.2)
theorem s_53 (N : Nat) : SumOk Go.Proofs.Tryz.prog laidL 53 (S_53 N) :=
  fn_ok (lp := lp_53 N) (x_53 N) Go.Proofs.Tryz.func53 (c := c_53) (by kernel_rfl) (by kernel_rfl) rfl (fun p => ok_53 N p.2.1 p.2.2) (loopsAll (by kernel_rfl) ((lookOk_cons (L_ok_53_0 N) lookOk_nil)))
noncomputable def X_58 (_ : Nat) : Ctx := ⟨tyT, lookF [], eqT, fun _ => false⟩
noncomputable def c_58 : Code := bodyOf Go.Proofs.Tryz.f58
theorem x_58 (N : Nat) : CtxOk Go.Proofs.Tryz.prog laidL (X_58 N) := ⟨tyOk, eqOk, fun _ _ => fnsOk_nil.get, by kernel_rfl⟩
noncomputable def nd_58_0 : Code := loopAt 0 0 c_58
noncomputable def cb_58_0 : Code := unloop nd_58_0
theorem ne_58_0 : nd_58_0 = .loop cb_58_0 := by kernel_rfl
noncomputable def sh_58_0 : List ShA := [.one (.d (.str)), .one (.d (.int .i64))]
noncomputable def o_58_0 : OutK 0 (((TAs [.one (.d (.bool))]) ⊕ (TAs [.one (.d (.str))]))) := (outTwo (outOne 0 .ret [2] [] [.one (.d (.bool))]) (outOne 0 (.exit 0) [0] [] [.one (.d (.str))]))
noncomputable def b_58_0 (_ : Nat) (ih : TAs sh_58_0 → Option (((TAs [.one (.d (.bool))]) ⊕ (TAs [.one (.d (.str))])))) : TAs sh_58_0 → Option (((TAs [.one (.d (.bool))]) ⊕ (TAs [.one (.d (.str))]))) := fun (y2, y3) =>
  (bif (decide (y3 < (ByteArray.size y2 : Int))) then (bif (decide (0 ≤ y3 ∧ y3 < (ByteArray.size y2 : Int))) then (bif (decide ((byteAt y2 (Int.toNat y3)) ≥ 97)) then (bif (decide (0 ≤ y3 ∧ y3 < (ByteArray.size y2 : Int))) then (bif (decide ((byteAt y2 (Int.toNat y3)) ≤ 122)) then (ih (y2, (IntKind.i64.wrap (y3 + 1)))) else (bif (decide (0 ≤ y3 ∧ y3 < (ByteArray.size y2 : Int))) then (bif (decide ((byteAt y2 (Int.toNat y3)) ≥ 48)) then (bif (decide (0 ≤ y3 ∧ y3 < (ByteArray.size y2 : Int))) then (bif (!(decide ((byteAt y2 (Int.toNat y3)) ≤ 57))) then (some (.inl false)) else (ih (y2, (IntKind.i64.wrap (y3 + 1))))) else none) else (some (.inl false))) else none)) else none) else (bif (decide (0 ≤ y3 ∧ y3 < (ByteArray.size y2 : Int))) then (bif (decide ((byteAt y2 (Int.toNat y3)) ≥ 48)) then (bif (decide (0 ≤ y3 ∧ y3 < (ByteArray.size y2 : Int))) then (bif (!(decide ((byteAt y2 (Int.toNat y3)) ≤ 57))) then (some (.inl false)) else (ih (y2, (IntKind.i64.wrap (y3 + 1))))) else none) else (some (.inl false))) else none)) else none) else (some (.inr y2)))
noncomputable def l_58_0 (N : Nat) : TAs sh_58_0 → Option (((TAs [.one (.d (.bool))]) ⊕ (TAs [.one (.d (.str))]))) := iter (b_58_0 N) N
noncomputable def lp_58_0 (_ : Nat) : Nat → Option LSum := lookL []
noncomputable def L_58_0 (N : Nat) : LSum := loopSum [0, 3] [] sh_58_0 o_58_0 (l_58_0 N)
theorem b_ok_58_0 (N : Nat) (ih : TAs sh_58_0 → Option (((TAs [.one (.d (.bool))]) ⊕ (TAs [.one (.d (.str))])))) (p : TAs sh_58_0) : b_58_0 N ih p = exec (X_58 N) Go.Proofs.Tryz.f58.ntmps (lp_58_0 N) cb_58_0 0 (roundK [0, 3] [] sh_58_0 o_58_0 ih) (stOf [0, 3] [] sh_58_0 p) := by kernel_rfl
theorem L_ok_58_0 (N : Nat) : SegOk Go.Proofs.Tryz.prog laidL 0 Go.Proofs.Tryz.f58.ntmps nd_58_0 (L_58_0 N) :=
  ne_58_0 ▸ loop_ok (cur := 0) (lp := lp_58_0 N) (x_58 N) (fun n => iter (b_58_0 N) n) (fun _ => rfl) (fun n p => b_ok_58_0 N (iter (b_58_0 N) n) p) (loopsAll (by kernel_rfl) (lookOk_nil)) N
noncomputable def lp_58 (N : Nat) : Nat → Option LSum := lookL [(0, L_58_0 N)]
noncomputable def f_58 (N : Nat) (x1 : ByteArray) : Option (TAs [.one (.d (.bool))]) :=
  ((l_58_0 N (x1, 0)).bind fun q => (match q with | .inl q4 => (some q4) | .inr q5 => (bif (decide ((ByteArray.size q5 : Int) ≥ 1)) then (some (decide ((ByteArray.size q5 : Int) ≤ 12))) else (some false))))
theorem ok_58 (N : Nat) (x1 : ByteArray) : f_58 N x1 = exec (X_58 N) Go.Proofs.Tryz.f58.ntmps (lp_58 N) c_58 0 (fnK (X_58 N) Go.Proofs.Tryz.f58.results.toList 0 [.one (.d (.bool))]) (fnSt 1 0 [.one (.d (.str))] x1) := by kernel_rfl
noncomputable def S_58 (N : Nat) : Sum := fnSum 1 0 1 [.one (.d (.str))] [.one (.d (.bool))] (fun p => f_58 N p)
theorem s_58 (N : Nat) : SumOk Go.Proofs.Tryz.prog laidL 58 (S_58 N) :=
  fn_ok (lp := lp_58 N) (x_58 N) Go.Proofs.Tryz.func58 (c := c_58) (by kernel_rfl) (by kernel_rfl) rfl (fun p => ok_58 N p) (loopsAll (by kernel_rfl) ((lookOk_cons (L_ok_58_0 N) lookOk_nil)))
noncomputable def X_59 (_ : Nat) : Ctx := ⟨tyT, lookF [], eqT, fun _ => false⟩
noncomputable def c_59 : Code := bodyOf Go.Proofs.Tryz.f59
theorem x_59 (N : Nat) : CtxOk Go.Proofs.Tryz.prog laidL (X_59 N) := ⟨tyOk, eqOk, fun _ _ => fnsOk_nil.get, by kernel_rfl⟩
noncomputable def lp_59 (_ : Nat) : Nat → Option LSum := lookL []
noncomputable def f_59 (_ : Nat) (x1 : ByteArray) (x2 : List Int) (x3 : Int) (x4 : Int) (x5 : Int) (x6 : Int) (x7 : Int) (x8 : Int) (x9 : Bool) (x10 : ByteArray) (x11 : Int) (x12 : List (Int × Int × ByteArray)) (x13 : Bool) (x14 : Int) (x15 : Int) (x16 : Bool) (x17 : Int) (x18 : Int) : Option (TAs [.one (.d (.bool))]) :=
  (bif ((ByteArray.toList x1) == (ByteArray.toList (⟨#[]⟩ : ByteArray))) then (bif (x2 == [0, 0, 0, 0, 0, 0, 0, 0, 0, 0, 0, 0, 0, 0, 0, 0]) then (bif (x18 == 0) then (bif ((x13 == false) && ((x14 == 0) && (x15 == 0))) then (bif ((x16 == false) && (x17 == 0)) then (bif (x6 == 0) then (bif (x3 == 0) then (bif (x4 == 0) then (bif (x5 == 0) then (bif (x7 == 0) then (bif (x8 == 0) then (bif (!x9) then (bif ((ByteArray.toList x10) == (ByteArray.toList (⟨#[]⟩ : ByteArray))) then (bif (x11 == 0) then (some ((List.length x12 : Int) == 0)) else (some false)) else (some false)) else (some false)) else (some false)) else (some false)) else (some false)) else (some false)) else (some false)) else (some false)) else (some false)) else (some false)) else (some false)) else (some false)) else (some false))
theorem ok_59 (N : Nat) (x1 : ByteArray) (x2 : List Int) (x3 : Int) (x4 : Int) (x5 : Int) (x6 : Int) (x7 : Int) (x8 : Int) (x9 : Bool) (x10 : ByteArray) (x11 : Int) (x12 : List (Int × Int × ByteArray)) (x13 : Bool) (x14 : Int) (x15 : Int) (x16 : Bool) (x17 : Int) (x18 : Int) : f_59 N x1 x2 x3 x4 x5 x6 x7 x8 x9 x10 x11 x12 x13 x14 x15 x16 x17 x18 = exec (X_59 N) Go.Proofs.Tryz.f59.ntmps (lp_59 N) c_59 0 (fnK (X_59 N) Go.Proofs.Tryz.f59.results.toList 0 [.one (.d (.bool))]) (fnSt 1 0 [.agg [.d (.str), .d (.arr .u8 16), .d (.int .i64), .d (.int .i64), .d (.int .i64), .d (.int .i64), .d (.int .i64), .d (.int .i64), .d (.bool), .d (.str), .d (.int .i64), .d (.sl [.int .i64, .int .i64, .str]), .d (.bool), .d (.int .i64), .d (.int .i64), .d (.bool), .d (.int .i64), .d (.int .i64)]] (x1, x2, x3, x4, x5, x6, x7, x8, x9, x10, x11, x12, x13, x14, x15, x16, x17, x18)) := by kernel_rfl
noncomputable def S_59 (N : Nat) : Sum := fnSum 1 0 1 [.agg [.d (.str), .d (.arr .u8 16), .d (.int .i64), .d (.int .i64), .d (.int .i64), .d (.int .i64), .d (.int .i64), .d (.int .i64), .d (.bool), .d (.str), .d (.int .i64), .d (.sl [.int .i64, .int .i64, .str]), .d (.bool), .d (.int .i64), .d (.int .i64), .d (.bool), .d (.int .i64), .d (.int .i64)]] [.one (.d (.bool))] (fun p => f_59 N p.1 p.2.1 p.2.2.1 p.2.2.2.1 p.2.2.2.2.1 p.2.2.2.2.2.1 p.2.2.2.2.2.2.1 p.2.2.2.2.2.2.2.1 p.2.2.2.2.2.2.2.2.1 p.2.2.2.2.2.2.2.2.2.1 p.2.2.2.2.2.2.2.2.2.2.1 p.2.2.2.2.2.2.2.2.2.2.2.1 p.2.2.2.2.2.2.2.2.2.2.2.2.1 p.2.2.2.2.2.2.2.2.2.2.2.2.2.1 p.2.2.2.2.2.2.2.2.2.2.2.2.2.2.1 p.2.2.2.2.2.2.2.2.2.2.2.2.2.2.2.1 p.2.2.2.2.2.2.2.2.2.2.2.2.2.2.2.2.1 p.2.2.2.2.2.2.2.2.2.2.2.2.2.2.2.2.2)
theorem s_59 (N : Nat) : SumOk Go.Proofs.Tryz.prog laidL 59 (S_59 N) :=
  fn_ok (lp := lp_59 N) (x_59 N) Go.Proofs.Tryz.func59 (c := c_59) (by kernel_rfl) (by kernel_rfl) rfl (fun p => ok_59 N p.1 p.2.1 p.2.2.1 p.2.2.2.1 p.2.2.2.2.1 p.2.2.2.2.2.1 p.2.2.2.2.2.2.1 p.2.2.2.2.2.2.2.1 p.2.2.2.2.2.2.2.2.1 p.2.2.2.2.2.2.2.2.2.1 p.2.2.2.2.2.2.2.2.2.2.1 p.2.2.2.2.2.2.2.2.2.2.2.1 p.2.2.2.2.2.2.2.2.2.2.2.2.1 p.2.2.2.2.2.2.2.2.2.2.2.2.2.1 p.2.2.2.2.2.2.2.2.2.2.2.2.2.2.1 p.2.2.2.2.2.2.2.2.2.2.2.2.2.2.2.1 p.2.2.2.2.2.2.2.2.2.2.2.2.2.2.2.2.1 p.2.2.2.2.2.2.2.2.2.2.2.2.2.2.2.2.2) (loopsAll (by kernel_rfl) (lookOk_nil))
noncomputable def X_61 (_ : Nat) : Ctx := ⟨tyT, lookF [], eqT, fun _ => false⟩
noncomputable def c_61 : Code := bodyOf Go.Proofs.Tryz.f61
theorem x_61 (N : Nat) : CtxOk Go.Proofs.Tryz.prog laidL (X_61 N) := ⟨tyOk, eqOk, fun _ _ => fnsOk_nil.get, by kernel_rfl⟩
noncomputable def lp_61 (_ : Nat) : Nat → Option LSum := lookL []
noncomputable def f_61 (_ : Nat) (x1 : ByteArray) (x2 : List Int) (x3 : Int) (x4 : Int) (x5 : Int) (x6 : Int) (x7 : Int) (x8 : Int) (x9 : Bool) (x10 : ByteArray) (x11 : Int) (x12 : List (Int × Int × ByteArray)) (x13 : Bool) (x14 : Int) (x15 : Int) (x16 : Bool) (x17 : Int) (x18 : Int) : Option (TAs [.agg [.d (.str), .d (.arr .u8 16), .d (.int .i64), .d (.int .i64), .d (.int .i64), .d (.int .i64), .d (.int .i64), .d (.int .i64), .d (.bool), .d (.str), .d (.int .i64), .slt [.int .i64, .int .i64, .str] 177 3, .d (.bool), .d (.int .i64), .d (.int .i64), .d (.bool), .d (.int .i64), .d (.int .i64)]]) :=
  (bif (decide (0 ≤ (0 : Int) ∧ (0 : Int) ≤ (List.length x12 : Int))) then (bif (decide (0 ≤ (0 : Int) ∧ (0 : Int) ≤ (0 : Int))) then (bif (decide ((0 : Int) = (0 : Int))) then (bif (decide ((List.length (List.drop (Int.toNat (0 : Int)) (List.take (Int.toNat (0 : Int)) x12)) + List.length x12) * 32 ≤ 140737488355328)) then (some (x1, x2, x3, x4, x5, x6, x7, x8, x9, x10, x11, ((List.drop (Int.toNat (0 : Int)) (List.take (Int.toNat (0 : Int)) x12)) ++ x12), x13, x14, x15, x16, x17, x18)) else none) else none) else none) else none)
theorem ok_61 (N : Nat) (x1 : ByteArray) (x2 : List Int) (x3 : Int) (x4 : Int) (x5 : Int) (x6 : Int) (x7 : Int) (x8 : Int) (x9 : Bool) (x10 : ByteArray) (x11 : Int) (x12 : List (Int × Int × ByteArray)) (x13 : Bool) (x14 : Int) (x15 : Int) (x16 : Bool) (x17 : Int) (x18 : Int) : f_61 N x1 x2 x3 x4 x5 x6 x7 x8 x9 x10 x11 x12 x13 x14 x15 x16 x17 x18 = exec (X_61 N) Go.Proofs.Tryz.f61.ntmps (lp_61 N) c_61 0 (fnK (X_61 N) Go.Proofs.Tryz.f61.results.toList 0 [.agg [.d (.str), .d (.arr .u8 16), .d (.int .i64), .d (.int .i64), .d (.int .i64), .d (.int .i64), .d (.int .i64), .d (.int .i64), .d (.bool), .d (.str), .d (.int .i64), .slt [.int .i64, .int .i64, .str] 177 3, .d (.bool), .d (.int .i64), .d (.int .i64), .d (.bool), .d (.int .i64), .d (.int .i64)]]) (fnSt 1 0 [.agg [.d (.str), .d (.arr .u8 16), .d (.int .i64), .d (.int .i64), .d (.int .i64), .d (.int .i64), .d (.int .i64), .d (.int .i64), .d (.bool), .d (.str), .d (.int .i64), .d (.sl [.int .i64, .int .i64, .str]), .d (.bool), .d (.int .i64), .d (.int .i64), .d (.bool), .d (.int .i64), .d (.int .i64)]] (x1, x2, x3, x4, x5, x6, x7, x8, x9, x10, x11, x12, x13, x14, x15, x16, x17, x18)) := by kernel_rfl
noncomputable def S_61 (N : Nat) : Sum := fnSum 1 0 1 [.agg [.d (.str), .d (.arr .u8 16), .d (.int .i64), .d (.int .i64), .d (.int .i64), .d (.int .i64), .d (.int .i64), .d (.int .i64), .d (.bool), .d (.str), .d (.int .i64), .d (.sl [.int .i64, .int .i64, .str]), .d (.bool), .d (.int .i64), .d (.int .i64), .d (.bool), .d (.int .i64), .d (.int .i64)]] [.agg [.d (.str), .d (.arr .u8 16), .d (.int .i64), .d (.int .i64), .d (.int .i64), .d (.int .i64), .d (.int .i64), .d (.int .i64), .d (.bool), .d (.str), .d (.int .i64), .slt [.int .i64, .int .i64, .str] 177 3, .d (.bool), .d (.int .i64), .d (.int .i64), .d (.bool), .d (.int .i64), .d (.int .i64)]] (fun p => f_61 N p.1 p.2.1 p.2.2.1 p.2.2.2.1 p.2.2.2.2.1 p.2.2.2.2.2.1 p.2.2.2.2.2.2.1 p.2.2.2.2.2.2.2.1 p.2.2.2.2.2.2.2.2.1 p.2.2.2.2.2.2.2.2.2.1 p.2.2.2.2.2.2.2.2.2.2.1 p.2.2.2.2.2.2.2.2.2.2.2.1 p.2.2.2.2.2.2.2.2.2.2.2.2.1 p.2.2.2.2.2.2.2.2.2.2.2.2.2.1 p.2.2.2.2.2.2.2.2.2.2.2.2.2.2.1 p.2.2.2.2.2.2.2.2.2.2.2.2.2.2.2.1 p.2.2.2.2.2.2.2.2.2.2.2.2.2.2.2.2.1 p.2.2.2.2.2.2.2.2.2.2.2.2.2.2.2.2.2)
theorem s_61 (N : Nat) : SumOk Go.Proofs.Tryz.prog laidL 61 (S_61 N) :=
  fn_ok (lp := lp_61 N) (x_61 N) Go.Proofs.Tryz.func61 (c := c_61) (by kernel_rfl) (by kernel_rfl) rfl (fun p => ok_61 N p.1 p.2.1 p.2.2.1 p.2.2.2.1 p.2.2.2.2.1 p.2.2.2.2.2.1 p.2.2.2.2.2.2.1 p.2.2.2.2.2.2.2.1 p.2.2.2.2.2.2.2.2.1 p.2.2.2.2.2.2.2.2.2.1 p.2.2.2.2.2.2.2.2.2.2.1 p.2.2.2.2.2.2.2.2.2.2.2.1 p.2.2.2.2.2.2.2.2.2.2.2.2.1 p.2.2.2.2.2.2.2.2.2.2.2.2.2.1 p.2.2.2.2.2.2.2.2.2.2.2.2.2.2.1 p.2.2.2.2.2.2.2.2.2.2.2.2.2.2.2.1 p.2.2.2.2.2.2.2.2.2.2.2.2.2.2.2.2.1 p.2.2.2.2.2.2.2.2.2.2.2.2.2.2.2.2.2) (loopsAll (by kernel_rfl) (lookOk_nil))
noncomputable def X_64 (_ : Nat) : Ctx := ⟨tyT, lookF [], eqT, fun _ => false⟩
noncomputable def c_64 : Code := bodyOf Go.Proofs.Tryz.f64
theorem x_64 (N : Nat) : CtxOk Go.Proofs.Tryz.prog laidL (X_64 N) := ⟨tyOk, eqOk, fun _ _ => fnsOk_nil.get, by kernel_rfl⟩
noncomputable def lp_64 (_ : Nat) : Nat → Option LSum := lookL []
noncomputable def f_64 (_ : Nat) (x1 : Int) : Option (TAs [.one (.d (.bool))]) :=
  (bif (decide (x1 ≥ 1)) then (some (decide (x1 ≤ 6))) else (some false))
theorem ok_64 (N : Nat) (x1 : Int) : f_64 N x1 = exec (X_64 N) Go.Proofs.Tryz.f64.ntmps (lp_64 N) c_64 0 (fnK (X_64 N) Go.Proofs.Tryz.f64.results.toList 0 [.one (.d (.bool))]) (fnSt 1 0 [.one (.d (.int .u8))] x1) := by kernel_rfl
noncomputable def S_64 (N : Nat) : Sum := fnSum 1 0 1 [.one (.d (.int .u8))] [.one (.d (.bool))] (fun p => f_64 N p)
theorem s_64 (N : Nat) : SumOk Go.Proofs.Tryz.prog laidL 64 (S_64 N) :=
  fn_ok (lp := lp_64 N) (x_64 N) Go.Proofs.Tryz.func64 (c := c_64) (by kernel_rfl) (by kernel_rfl) rfl (fun p => ok_64 N p) (loopsAll (by kernel_rfl) (lookOk_nil))
noncomputable def Xc_71 : Ctx := ⟨tyT, lookF [], eqT, fun _ => false⟩
theorem xc_71 : CtxOk Go.Proofs.Tryz.prog laidL Xc_71 := ⟨tyOk, eqOk, fun _ _ => fnsOk_nil.get, by kernel_rfl⟩
noncomputable def cl_71 : Sum := fnSum 1 0 1 [.one (.d (.sl [.int .u8]))] [.one (.slt [.int .u8] 5 1)] (cloneF [.int .u8] 1)
theorem cl_71_ok : SumOk Go.Proofs.Tryz.prog laidL 71 cl_71 :=
  clone_ok (t := 57) (bt := 4) (e := 5) xc_71 Go.Proofs.Tryz.func71 (by kernel_rfl) rfl rfl rfl (by kernel_rfl) (fun b xs h => by
    cases b with
    | false => kernel_rfl
    | true => obtain rfl := h rfl; kernel_rfl)
noncomputable def X_73 (_ : Nat) : Ctx := ⟨tyT, lookF [], eqT, fun _ => false⟩
noncomputable def c_73 : Code := bodyOf Go.Proofs.Tryz.f73
theorem x_73 (N : Nat) : CtxOk Go.Proofs.Tryz.prog laidL (X_73 N) := ⟨tyOk, eqOk, fun _ _ => fnsOk_nil.get, by kernel_rfl⟩
noncomputable def lp_73 (_ : Nat) : Nat → Option LSum := lookL []
noncomputable def f_73 (_ : Nat) (x1 : Int) (x2 : List Int) (x3 : Bool) : Option (TAs [.one (.d (.sl [.int .u8])), .agg [.d (.sl [.int .u8]), .d (.bool)]]) :=
  (bif x3 then (some (([] : List Int), (([] : List Int), true))) else (bif (decide (x1 > (List.length x2 : Int))) then (some (([] : List Int), (([] : List Int), true))) else (bif (decide (0 ≤ x1 ∧ x1 ≤ (List.length x2 : Int))) then (bif (decide (0 ≤ (0 : Int) ∧ (0 : Int) ≤ x1)) then (bif (decide (0 ≤ (List.length x2 : Int) ∧ (List.length x2 : Int) ≤ (List.length x2 : Int))) then (bif (decide (0 ≤ x1 ∧ x1 ≤ (List.length x2 : Int))) then (some ((List.drop (Int.toNat (0 : Int)) (List.take (Int.toNat x1) x2)), ((List.drop (Int.toNat x1) (List.take (Int.toNat (List.length x2 : Int)) x2)), x3))) else none) else none) else none) else none)))
theorem ok_73 (N : Nat) (x1 : Int) (x2 : List Int) (x3 : Bool) : f_73 N x1 x2 x3 = exec (X_73 N) Go.Proofs.Tryz.f73.ntmps (lp_73 N) c_73 0 (fnK (X_73 N) Go.Proofs.Tryz.f73.results.toList 1 [.one (.d (.sl [.int .u8])), .agg [.d (.sl [.int .u8]), .d (.bool)]]) (fnSt 2 1 [.one (.ptr 0 0), .one (.d (.int .i64)), .agg [.d (.sl [.int .u8]), .d (.bool)]] ((), x1, (x2, x3))) := by kernel_rfl
noncomputable def S_73 (N : Nat) : Sum := fnSum 2 1 1 [.one (.ptr 0 0), .one (.d (.int .i64)), .agg [.d (.sl [.int .u8]), .d (.bool)]] [.one (.d (.sl [.int .u8])), .agg [.d (.sl [.int .u8]), .d (.bool)]] (fun p => f_73 N p.2.1 p.2.2.1 p.2.2.2)
theorem s_73 (N : Nat) : SumOk Go.Proofs.Tryz.prog laidL 73 (S_73 N) :=
  fn_ok (lp := lp_73 N) (x_73 N) Go.Proofs.Tryz.func73 (c := c_73) (by kernel_rfl) (by kernel_rfl) rfl (fun p => ok_73 N p.2.1 p.2.2.1 p.2.2.2) (loopsAll (by kernel_rfl) (lookOk_nil))
noncomputable def X_74 (_ : Nat) : Ctx := ⟨tyT, lookF [], eqT, fun _ => false⟩
noncomputable def c_74 : Code := bodyOf Go.Proofs.Tryz.f74
theorem x_74 (N : Nat) : CtxOk Go.Proofs.Tryz.prog laidL (X_74 N) := ⟨tyOk, eqOk, fun _ _ => fnsOk_nil.get, by kernel_rfl⟩
noncomputable def lp_74 (_ : Nat) : Nat → Option LSum := lookL []
noncomputable def f_74 (_ : Nat) (x1 : List Int) : Option (TAs [.one (.d (.int .u8)), .one (.d (.int .i64)), .one (.d (.int .i64))]) :=
  (bif (decide ((List.length x1 : Int) < 5)) then (some (0, 0, 3)) else (bif (decide (0 ≤ (0 : Int) ∧ (0 : Int) < (List.length x1 : Int))) then (bif ((List.getD x1 (Int.toNat 0) 0) != 116) then (some (0, 0, 3)) else (bif (decide (0 ≤ (1 : Int) ∧ (1 : Int) < (List.length x1 : Int))) then (bif ((List.getD x1 (Int.toNat 1) 0) != 109) then (some (0, 0, 3)) else (bif (decide (0 ≤ (2 : Int) ∧ (2 : Int) < (List.length x1 : Int))) then (bif (decide ((List.getD x1 (Int.toNat 2) 0) < 1)) then (some (0, 0, 3)) else (bif (decide (0 ≤ (2 : Int) ∧ (2 : Int) < (List.length x1 : Int))) then (bif (decide ((List.getD x1 (Int.toNat 2) 0) > 6)) then (some (0, 0, 3)) else (bif (decide (0 ≤ (3 : Int) ∧ (3 : Int) < (List.length x1 : Int))) then (bif (decide (0 ≤ (4 : Int) ∧ (4 : Int) < (List.length x1 : Int))) then (bif (decide ((IntKind.i64.wrap ((IntKind.i64.wrap (List.getD x1 (Int.toNat 3) 0)) + (IntKind.i64.wrap (256 * (IntKind.i64.wrap (List.getD x1 (Int.toNat 4) 0)))))) > 1024)) then (some (0, 0, 3)) else (bif (decide (0 ≤ (2 : Int) ∧ (2 : Int) < (List.length x1 : Int))) then (bif (decide (0 ≤ (3 : Int) ∧ (3 : Int) < (List.length x1 : Int))) then (bif (decide (0 ≤ (4 : Int) ∧ (4 : Int) < (List.length x1 : Int))) then (some ((List.getD x1 (Int.toNat 2) 0), (IntKind.i64.wrap ((IntKind.i64.wrap (9 + (IntKind.i64.wrap (List.getD x1 (Int.toNat 3) 0)))) + (IntKind.i64.wrap (256 * (IntKind.i64.wrap (List.getD x1 (Int.toNat 4) 0)))))), 0)) else none) else none) else none)) else none) else none)) else none)) else none)) else none)) else none))
theorem ok_74 (N : Nat) (x1 : List Int) : f_74 N x1 = exec (X_74 N) Go.Proofs.Tryz.f74.ntmps (lp_74 N) c_74 0 (fnK (X_74 N) Go.Proofs.Tryz.f74.results.toList 0 [.one (.d (.int .u8)), .one (.d (.int .i64)), .one (.d (.int .i64))]) (fnSt 1 0 [.one (.d (.sl [.int .u8]))] x1) := by kernel_rfl
noncomputable def S_74 (N : Nat) : Sum := fnSum 1 0 3 [.one (.d (.sl [.int .u8]))] [.one (.d (.int .u8)), .one (.d (.int .i64)), .one (.d (.int .i64))] (fun p => f_74 N p)
theorem s_74 (N : Nat) : SumOk Go.Proofs.Tryz.prog laidL 74 (S_74 N) :=
  fn_ok (lp := lp_74 N) (x_74 N) Go.Proofs.Tryz.func74 (c := c_74) (by kernel_rfl) (by kernel_rfl) rfl (fun p => ok_74 N p) (loopsAll (by kernel_rfl) (lookOk_nil))
noncomputable def X_78 (_ : Nat) : Ctx := ⟨tyT, lookF [], eqT, fun _ => false⟩
noncomputable def c_78 : Code := bodyOf Go.Proofs.Tryz.f78
theorem x_78 (N : Nat) : CtxOk Go.Proofs.Tryz.prog laidL (X_78 N) := ⟨tyOk, eqOk, fun _ _ => fnsOk_nil.get, by kernel_rfl⟩
noncomputable def lp_78 (_ : Nat) : Nat → Option LSum := lookL []
noncomputable def f_78 (_ : Nat) (x1 : Bool) : Option (TAs [.one (.d (.int .u8))]) :=
  (bif x1 then (some 1) else (some 0))
theorem ok_78 (N : Nat) (x1 : Bool) : f_78 N x1 = exec (X_78 N) Go.Proofs.Tryz.f78.ntmps (lp_78 N) c_78 0 (fnK (X_78 N) Go.Proofs.Tryz.f78.results.toList 0 [.one (.d (.int .u8))]) (fnSt 1 0 [.one (.d (.bool))] x1) := by kernel_rfl
noncomputable def S_78 (N : Nat) : Sum := fnSum 1 0 1 [.one (.d (.bool))] [.one (.d (.int .u8))] (fun p => f_78 N p)
theorem s_78 (N : Nat) : SumOk Go.Proofs.Tryz.prog laidL 78 (S_78 N) :=
  fn_ok (lp := lp_78 N) (x_78 N) Go.Proofs.Tryz.func78 (c := c_78) (by kernel_rfl) (by kernel_rfl) rfl (fun p => ok_78 N p) (loopsAll (by kernel_rfl) (lookOk_nil))
noncomputable def X_79 (_ : Nat) : Ctx := ⟨tyT, lookF [], eqT, fun _ => false⟩
noncomputable def c_79 : Code := bodyOf Go.Proofs.Tryz.f79
theorem x_79 (N : Nat) : CtxOk Go.Proofs.Tryz.prog laidL (X_79 N) := ⟨tyOk, eqOk, fun _ _ => fnsOk_nil.get, by kernel_rfl⟩
noncomputable def nd_79_0 : Code := loopAt 0 0 c_79
noncomputable def cb_79_0 : Code := unloop nd_79_0
theorem ne_79_0 : nd_79_0 = .loop cb_79_0 := by kernel_rfl
noncomputable def sh_79_0 : List ShA := [.one (.ptr 144 0), .one (.ptr 160 0), .one (.ptr 176 0), .one (.d (.int .i64)), .agg [.d (.str), .d (.int .i64), .d (.sl [.int .i64, .int .i64, .str])], .agg [.d (.str), .d (.int .i64), .slt [.int .i64, .int .i64, .str] 177 3], .agg [.d (.str), .d (.int .i64), .slt [.int .i64, .int .i64, .str] 177 3]]
noncomputable def o_79_0 : OutK 0 (TAs [.one (.ptr 160 0), .one (.ptr 176 0), .agg [.d (.str), .d (.int .i64), .slt [.int .i64, .int .i64, .str] 177 3], .agg [.d (.str), .d (.int .i64), .slt [.int .i64, .int .i64, .str] 177 3]]) := (outOne 0 (.exit 0) [2, 3] [160, 176] [.one (.ptr 160 0), .one (.ptr 176 0), .agg [.d (.str), .d (.int .i64), .slt [.int .i64, .int .i64, .str] 177 3], .agg [.d (.str), .d (.int .i64), .slt [.int .i64, .int .i64, .str] 177 3]])
noncomputable def b_79_0 (_ : Nat) (ih : TAs sh_79_0 → Option (TAs [.one (.ptr 160 0), .one (.ptr 176 0), .agg [.d (.str), .d (.int .i64), .slt [.int .i64, .int .i64, .str] 177 3], .agg [.d (.str), .d (.int .i64), .slt [.int .i64, .int .i64, .str] 177 3]])) : TAs sh_79_0 → Option (TAs [.one (.ptr 160 0), .one (.ptr 176 0), .agg [.d (.str), .d (.int .i64), .slt [.int .i64, .int .i64, .str] 177 3], .agg [.d (.str), .d (.int .i64), .slt [.int .i64, .int .i64, .str] 177 3]]) := fun (_, _, _, y4, (y5, y6, y7), (y8, y9, y10), (y11, y12, y13)) =>
  (bif (decide (y4 < (List.length y7 : Int))) then (bif (decide (0 ≤ y4 ∧ y4 < (List.length y7 : Int))) then (bif (decide ((List.length y13 + List.length ([((List.getD y7 (Int.toNat y4) (0, 0, ByteArray.empty)).1, (List.getD y7 (Int.toNat y4) (0, 0, ByteArray.empty)).2.1, (List.getD y7 (Int.toNat y4) (0, 0, ByteArray.empty)).2.2)] : List (Int × Int × ByteArray))) * 32 ≤ 140737488355328)) then (ih ((), (), (), (IntKind.i64.wrap (y4 + 1)), (y5, y6, y7), (y8, y9, y10), (y11, y12, (y13 ++ ([((List.getD y7 (Int.toNat y4) (0, 0, ByteArray.empty)).1, (List.getD y7 (Int.toNat y4) (0, 0, ByteArray.empty)).2.1, (List.getD y7 (Int.toNat y4) (0, 0, ByteArray.empty)).2.2)] : List (Int × Int × ByteArray)))))) else none) else none) else (some (((), (), (y8, y9, y10), (y11, y12, y13)))))
noncomputable def l_79_0 (N : Nat) : TAs sh_79_0 → Option (TAs [.one (.ptr 160 0), .one (.ptr 176 0), .agg [.d (.str), .d (.int .i64), .slt [.int .i64, .int .i64, .str] 177 3], .agg [.d (.str), .d (.int .i64), .slt [.int .i64, .int .i64, .str] 177 3]]) := iter (b_79_0 N) N
noncomputable def lp_79_0 (_ : Nat) : Nat → Option LSum := lookL []
noncomputable def L_79_0 (N : Nat) : LSum := loopSum [1, 2, 3, 4] [144, 160, 176] sh_79_0 o_79_0 (l_79_0 N)
theorem b_ok_79_0 (N : Nat) (ih : TAs sh_79_0 → Option (TAs [.one (.ptr 160 0), .one (.ptr 176 0), .agg [.d (.str), .d (.int .i64), .slt [.int .i64, .int .i64, .str] 177 3], .agg [.d (.str), .d (.int .i64), .slt [.int .i64, .int .i64, .str] 177 3]])) (p : TAs sh_79_0) : b_79_0 N ih p = exec (X_79 N) Go.Proofs.Tryz.f79.ntmps (lp_79_0 N) cb_79_0 0 (roundK [1, 2, 3, 4] [144, 160, 176] sh_79_0 o_79_0 ih) (stOf [1, 2, 3, 4] [144, 160, 176] sh_79_0 p) := by kernel_rfl
theorem L_ok_79_0 (N : Nat) : SegOk Go.Proofs.Tryz.prog laidL 0 Go.Proofs.Tryz.f79.ntmps nd_79_0 (L_79_0 N) :=
  ne_79_0 ▸ loop_ok (cur := 0) (lp := lp_79_0 N) (x_79 N) (fun n => iter (b_79_0 N) n) (fun _ => rfl) (fun n p => b_ok_79_0 N (iter (b_79_0 N) n) p) (loopsAll (by kernel_rfl) (lookOk_nil)) N
noncomputable def lp_79 (N : Nat) : Nat → Option LSum := lookL [(0, L_79_0 N)]
noncomputable def f_79 (N : Nat) (x1 : ByteArray) (x2 : Int) (x3 : List (Int × Int × ByteArray)) : Option (TAs [.agg [.d (.str), .d (.int .i64), .slt [.int .i64, .int .i64, .str] 177 3]]) :=
  ((l_79_0 N ((), (), (), 0, (x1, x2, x3), (ByteArray.empty, 0, ([] : List (Int × Int × ByteArray))), (x1, x2, ([] : List (Int × Int × ByteArray))))).bind fun q14 => (some (q14.2.2.2.1, q14.2.2.2.2.1, q14.2.2.2.2.2)))
theorem ok_79 (N : Nat) (x1 : ByteArray) (x2 : Int) (x3 : List (Int × Int × ByteArray)) : f_79 N x1 x2 x3 = exec (X_79 N) Go.Proofs.Tryz.f79.ntmps (lp_79 N) c_79 0 (fnK (X_79 N) Go.Proofs.Tryz.f79.results.toList 0 [.agg [.d (.str), .d (.int .i64), .slt [.int .i64, .int .i64, .str] 177 3]]) (fnSt 1 0 [.agg [.d (.str), .d (.int .i64), .d (.sl [.int .i64, .int .i64, .str])]] (x1, x2, x3)) := by kernel_rfl
noncomputable def S_79 (N : Nat) : Sum := fnSum 1 0 1 [.agg [.d (.str), .d (.int .i64), .d (.sl [.int .i64, .int .i64, .str])]] [.agg [.d (.str), .d (.int .i64), .slt [.int .i64, .int .i64, .str] 177 3]] (fun p => f_79 N p.1 p.2.1 p.2.2)
theorem s_79 (N : Nat) : SumOk Go.Proofs.Tryz.prog laidL 79 (S_79 N) :=
  fn_ok (lp := lp_79 N) (x_79 N) Go.Proofs.Tryz.func79 (c := c_79) (by kernel_rfl) (by kernel_rfl) rfl (fun p => ok_79 N p.1 p.2.1 p.2.2) (loopsAll (by kernel_rfl) ((lookOk_cons (L_ok_79_0 N) lookOk_nil)))
noncomputable def X_83 (_ : Nat) : Ctx := ⟨tyT, lookF [(72, rdS)], eqT, fun _ => false⟩
noncomputable def c_83 : Code := bodyOf Go.Proofs.Tryz.f83
theorem x_83 (N : Nat) : CtxOk Go.Proofs.Tryz.prog laidL (X_83 N) := ⟨tyOk, eqOk, fun _ _ => (fnsOk_cons rdS_ok fnsOk_nil).get, by kernel_rfl⟩
noncomputable def lp_83 (_ : Nat) : Nat → Option LSum := lookL []
noncomputable def f_83 (_ : Nat) (x1 : List Int) (x2 : Bool) : Option (TAs [.one (.d (.int .u16)), .agg [.d (.sl [.int .u8]), .d (.bool)]]) :=
  ((rdF 2 x1 x2).bind fun r3 => (some ((IntKind.u16.wrap r3.1), (r3.2.1, r3.2.2))))
theorem ok_83 (N : Nat) (x1 : List Int) (x2 : Bool) : f_83 N x1 x2 = exec (X_83 N) Go.Proofs.Tryz.f83.ntmps (lp_83 N) c_83 0 (fnK (X_83 N) Go.Proofs.Tryz.f83.results.toList 1 [.one (.d (.int .u16)), .agg [.d (.sl [.int .u8]), .d (.bool)]]) (fnSt 1 1 [.one (.ptr 0 0), .agg [.d (.sl [.int .u8]), .d (.bool)]] ((), (x1, x2))) := by kernel_rfl
noncomputable def S_83 (N : Nat) : Sum := fnSum 1 1 1 [.one (.ptr 0 0), .agg [.d (.sl [.int .u8]), .d (.bool)]] [.one (.d (.int .u16)), .agg [.d (.sl [.int .u8]), .d (.bool)]] (fun p => f_83 N p.2.1 p.2.2)
theorem s_83 (N : Nat) : SumOk Go.Proofs.Tryz.prog laidL 83 (S_83 N) :=
  fn_ok (lp := lp_83 N) (x_83 N) Go.Proofs.Tryz.func83 (c := c_83) (by kernel_rfl) (by kernel_rfl) rfl (fun p => ok_83 N p.2.1 p.2.2) (loopsAll (by kernel_rfl) (lookOk_nil))
noncomputable def X_90 (_ : Nat) : Ctx := ⟨tyT, lookF [], eqT, fun _ => false⟩
noncomputable def c_90 : Code := bodyOf Go.Proofs.Tryz.f90
theorem x_90 (N : Nat) : CtxOk Go.Proofs.Tryz.prog laidL (X_90 N) := ⟨tyOk, eqOk, fun _ _ => fnsOk_nil.get, by kernel_rfl⟩
noncomputable def nd_90_0 : Code := loopAt 0 0 c_90
noncomputable def cb_90_0 : Code := unloop nd_90_0
theorem ne_90_0 : nd_90_0 = .loop cb_90_0 := by kernel_rfl
noncomputable def sh_90_0 : List ShA := [.one (.ptr 160 0), .one (.ptr 176 0), .one (.d (.int .i64)), .agg [.d (.str), .d (.int .i64), .d (.sl [.int .i64, .int .i64, .str])], .agg [.d (.str), .d (.int .i64), .d (.sl [.int .i64, .int .i64, .str])]]
noncomputable def o_90_0 : OutK 0 (((TAs [.one (.d (.bool))]) ⊕ (TAs []))) := (outTwo (outOne 0 .ret [4] [] [.one (.d (.bool))]) (outOne 0 (.exit 0) [] [] []))
noncomputable def b_90_0 (_ : Nat) (ih : TAs sh_90_0 → Option (((TAs [.one (.d (.bool))]) ⊕ (TAs [])))) : TAs sh_90_0 → Option (((TAs [.one (.d (.bool))]) ⊕ (TAs []))) := fun (_, _, y7, (y8, y9, y10), (y11, y12, y13)) =>
  (bif (decide (y7 < (List.length y10 : Int))) then (bif (decide (0 ≤ y7 ∧ y7 < (List.length y10 : Int))) then (bif (decide (0 ≤ y7 ∧ y7 < (List.length y13 : Int))) then (bif (!(((List.getD y10 (Int.toNat y7) (0, 0, ByteArray.empty)).1 == (List.getD y13 (Int.toNat y7) (0, 0, ByteArray.empty)).1) && (((List.getD y10 (Int.toNat y7) (0, 0, ByteArray.empty)).2.1 == (List.getD y13 (Int.toNat y7) (0, 0, ByteArray.empty)).2.1) && ((List.getD y10 (Int.toNat y7) (0, 0, ByteArray.empty)).2.2.toList == (List.getD y13 (Int.toNat y7) (0, 0, ByteArray.empty)).2.2.toList)))) then (some (.inl false)) else (ih ((), (), (IntKind.i64.wrap (y7 + 1)), (y8, y9, y10), (y11, y12, y13)))) else none) else none) else (some (.inr ())))
noncomputable def l_90_0 (N : Nat) : TAs sh_90_0 → Option (((TAs [.one (.d (.bool))]) ⊕ (TAs []))) := iter (b_90_0 N) N
noncomputable def lp_90_0 (_ : Nat) : Nat → Option LSum := lookL []
noncomputable def L_90_0 (N : Nat) : LSum := loopSum [2, 3, 5] [160, 176] sh_90_0 o_90_0 (l_90_0 N)
theorem b_ok_90_0 (N : Nat) (ih : TAs sh_90_0 → Option (((TAs [.one (.d (.bool))]) ⊕ (TAs [])))) (p : TAs sh_90_0) : b_90_0 N ih p = exec (X_90 N) Go.Proofs.Tryz.f90.ntmps (lp_90_0 N) cb_90_0 0 (roundK [2, 3, 5] [160, 176] sh_90_0 o_90_0 ih) (stOf [2, 3, 5] [160, 176] sh_90_0 p) := by kernel_rfl
theorem L_ok_90_0 (N : Nat) : SegOk Go.Proofs.Tryz.prog laidL 0 Go.Proofs.Tryz.f90.ntmps nd_90_0 (L_90_0 N) :=
  ne_90_0 ▸ loop_ok (cur := 0) (lp := lp_90_0 N) (x_90 N) (fun n => iter (b_90_0 N) n) (fun _ => rfl) (fun n p => b_ok_90_0 N (iter (b_90_0 N) n) p) (loopsAll (by kernel_rfl) (lookOk_nil)) N
noncomputable def lp_90 (N : Nat) : Nat → Option LSum := lookL [(0, L_90_0 N)]
noncomputable def f_90 (N : Nat) (x1 : ByteArray) (x2 : Int) (x3 : List (Int × Int × ByteArray)) (x4 : ByteArray) (x5 : Int) (x6 : List (Int × Int × ByteArray)) : Option (TAs [.one (.d (.bool))]) :=
  (bif (!((ByteArray.toList x1) == (ByteArray.toList x4))) then (some false) else (bif (x2 != x5) then (some false) else (bif ((List.length x3 : Int) != (List.length x6 : Int)) then (some false) else ((l_90_0 N ((), (), 0, (x1, x2, x3), (x4, x5, x6))).bind fun q => (match q with | .inl q14 => (some q14) | .inr _ => (some true))))))
theorem ok_90 (N : Nat) (x1 : ByteArray) (x2 : Int) (x3 : List (Int × Int × ByteArray)) (x4 : ByteArray) (x5 : Int) (x6 : List (Int × Int × ByteArray)) : f_90 N x1 x2 x3 x4 x5 x6 = exec (X_90 N) Go.Proofs.Tryz.f90.ntmps (lp_90 N) c_90 0 (fnK (X_90 N) Go.Proofs.Tryz.f90.results.toList 0 [.one (.d (.bool))]) (fnSt 2 0 [.agg [.d (.str), .d (.int .i64), .d (.sl [.int .i64, .int .i64, .str])], .agg [.d (.str), .d (.int .i64), .d (.sl [.int .i64, .int .i64, .str])]] ((x1, x2, x3), (x4, x5, x6))) := by kernel_rfl
noncomputable def S_90 (N : Nat) : Sum := fnSum 2 0 1 [.agg [.d (.str), .d (.int .i64), .d (.sl [.int .i64, .int .i64, .str])], .agg [.d (.str), .d (.int .i64), .d (.sl [.int .i64, .int .i64, .str])]] [.one (.d (.bool))] (fun p => f_90 N p.1.1 p.1.2.1 p.1.2.2 p.2.1 p.2.2.1 p.2.2.2)
theorem s_90 (N : Nat) : SumOk Go.Proofs.Tryz.prog laidL 90 (S_90 N) :=
  fn_ok (lp := lp_90 N) (x_90 N) Go.Proofs.Tryz.func90 (c := c_90) (by kernel_rfl) (by kernel_rfl) rfl (fun p => ok_90 N p.1.1 p.1.2.1 p.1.2.2 p.2.1 p.2.2.1 p.2.2.2) (loopsAll (by kernel_rfl) ((lookOk_cons (L_ok_90_0 N) lookOk_nil)))
noncomputable def X_95 (_ : Nat) : Ctx := ⟨tyT, lookF [], eqT, fun _ => false⟩
noncomputable def c_95 : Code := bodyOf Go.Proofs.Tryz.f95
theorem x_95 (N : Nat) : CtxOk Go.Proofs.Tryz.prog laidL (X_95 N) := ⟨tyOk, eqOk, fun _ _ => fnsOk_nil.get, by kernel_rfl⟩
noncomputable def nd_95_0 : Code := loopAt 0 0 c_95
noncomputable def cb_95_0 : Code := unloop nd_95_0
theorem ne_95_0 : nd_95_0 = .loop cb_95_0 := by kernel_rfl
noncomputable def sh_95_0 : List ShA := [.one (.d (.sl [.int .i64, .int .i64, .str])), .one (.d (.sl [.int .i64, .int .i64, .str])), .one (.d (.int .i64)), .one (.d (.int .i64))]
noncomputable def o_95_0 : OutK 0 (((TAs [.one (.d (.bool))]) ⊕ (TAs []))) := (outTwo (outOne 0 .ret [4] [] [.one (.d (.bool))]) (outOne 0 (.exit 0) [] [] []))
noncomputable def b_95_0 (_ : Nat) (ih : TAs sh_95_0 → Option (((TAs [.one (.d (.bool))]) ⊕ (TAs [])))) : TAs sh_95_0 → Option (((TAs [.one (.d (.bool))]) ⊕ (TAs []))) := fun (y3, y4, y5, y6) =>
  (bif (decide (y6 < y5)) then (bif (decide (0 ≤ y6 ∧ y6 < (List.length y3 : Int))) then (bif (decide (0 ≤ y6 ∧ y6 < (List.length y4 : Int))) then (bif (!(((List.getD y3 (Int.toNat y6) (0, 0, ByteArray.empty)).1 == (List.getD y4 (Int.toNat y6) (0, 0, ByteArray.empty)).1) && (((List.getD y3 (Int.toNat y6) (0, 0, ByteArray.empty)).2.1 == (List.getD y4 (Int.toNat y6) (0, 0, ByteArray.empty)).2.1) && ((List.getD y3 (Int.toNat y6) (0, 0, ByteArray.empty)).2.2.toList == (List.getD y4 (Int.toNat y6) (0, 0, ByteArray.empty)).2.2.toList)))) then (some (.inl false)) else (ih (y3, y4, y5, (IntKind.i64.wrap (y6 + 1))))) else none) else none) else (some (.inr ())))
noncomputable def l_95_0 (N : Nat) : TAs sh_95_0 → Option (((TAs [.one (.d (.bool))]) ⊕ (TAs []))) := iter (b_95_0 N) N
noncomputable def lp_95_0 (_ : Nat) : Nat → Option LSum := lookL []
noncomputable def L_95_0 (N : Nat) : LSum := loopSum [0, 1, 12, 13] [] sh_95_0 o_95_0 (l_95_0 N)
theorem b_ok_95_0 (N : Nat) (ih : TAs sh_95_0 → Option (((TAs [.one (.d (.bool))]) ⊕ (TAs [])))) (p : TAs sh_95_0) : b_95_0 N ih p = exec (X_95 N) Go.Proofs.Tryz.f95.ntmps (lp_95_0 N) cb_95_0 0 (roundK [0, 1, 12, 13] [] sh_95_0 o_95_0 ih) (stOf [0, 1, 12, 13] [] sh_95_0 p) := by kernel_rfl
theorem L_ok_95_0 (N : Nat) : SegOk Go.Proofs.Tryz.prog laidL 0 Go.Proofs.Tryz.f95.ntmps nd_95_0 (L_95_0 N) :=
  ne_95_0 ▸ loop_ok (cur := 0) (lp := lp_95_0 N) (x_95 N) (fun n => iter (b_95_0 N) n) (fun _ => rfl) (fun n p => b_ok_95_0 N (iter (b_95_0 N) n) p) (loopsAll (by kernel_rfl) (lookOk_nil)) N
noncomputable def lp_95 (N : Nat) : Nat → Option LSum := lookL [(0, L_95_0 N)]
noncomputable def f_95 (N : Nat) (x1 : List (Int × Int × ByteArray)) (x2 : List (Int × Int × ByteArray)) : Option (TAs [.one (.d (.bool))]) :=
  (bif ((List.length x1 : Int) != (List.length x2 : Int)) then (some false) else ((l_95_0 N (x1, x2, (List.length x1 : Int), 0)).bind fun q => (match q with | .inl q7 => (some q7) | .inr _ => (some true))))
theorem ok_95 (N : Nat) (x1 : List (Int × Int × ByteArray)) (x2 : List (Int × Int × ByteArray)) : f_95 N x1 x2 = exec (X_95 N) Go.Proofs.Tryz.f95.ntmps (lp_95 N) c_95 0 (fnK (X_95 N) Go.Proofs.Tryz.f95.results.toList 0 [.one (.d (.bool))]) (fnSt 2 0 [.one (.d (.sl [.int .i64, .int .i64, .str])), .one (.d (.sl [.int .i64, .int .i64, .str]))] (x1, x2)) := by kernel_rfl
noncomputable def S_95 (N : Nat) : Sum := fnSum 2 0 1 [.one (.d (.sl [.int .i64, .int .i64, .str])), .one (.d (.sl [.int .i64, .int .i64, .str]))] [.one (.d (.bool))] (fun p => f_95 N p.1 p.2)
theorem s_95 (N : Nat) : SumOk Go.Proofs.Tryz.prog laidL 95 (S_95 N) :=
  fn_ok (lp := lp_95 N) (x_95 N) Go.Proofs.Tryz.func95 (c := c_95) (by kernel_rfl) (by kernel_rfl) rfl (fun p => ok_95 N p.1 p.2) (loopsAll (by kernel_rfl) ((lookOk_cons (L_ok_95_0 N) lookOk_nil)))
noncomputable def X_96 (_ : Nat) : Ctx := ⟨tyT, lookF [], eqT, fun _ => false⟩
noncomputable def c_96 : Code := bodyOf Go.Proofs.Tryz.f96
theorem x_96 (N : Nat) : CtxOk Go.Proofs.Tryz.prog laidL (X_96 N) := ⟨tyOk, eqOk, fun _ _ => fnsOk_nil.get, by kernel_rfl⟩
noncomputable def nd_96_0 : Code := loopAt 0 0 c_96
noncomputable def cb_96_0 : Code := unloop nd_96_0
theorem ne_96_0 : nd_96_0 = .loop cb_96_0 := by kernel_rfl
noncomputable def nd_96_2 : Code := loopAt 0 2 cb_96_0
noncomputable def cb_96_2 : Code := unloop nd_96_2
theorem ne_96_2 : nd_96_2 = .loop cb_96_2 := by kernel_rfl
noncomputable def sh_96_2 : List ShA := [.one (.d (.sl [.int .u8])), .one (.d (.int .u32)), .one (.d (.int .i64)), .one (.d (.int .u32)), .one (.d (.int .i64))]
noncomputable def o_96_2 : OutK 0 (TAs [.one (.d (.sl [.int .u8])), .one (.d (.int .u32)), .one (.d (.int .i64))]) := (outOne 0 (.exit 2) [0, 3, 4] [] [.one (.d (.sl [.int .u8])), .one (.d (.int .u32)), .one (.d (.int .i64))])
noncomputable def b_96_2 (_ : Nat) (ih : TAs sh_96_2 → Option (TAs [.one (.d (.sl [.int .u8])), .one (.d (.int .u32)), .one (.d (.int .i64))])) : TAs sh_96_2 → Option (TAs [.one (.d (.sl [.int .u8])), .one (.d (.int .u32)), .one (.d (.int .i64))]) := fun (y5, y6, y7, y8, y9) =>
  (bif (decide (y9 < 8)) then (bif ((Int.tmod (IntKind.u32.wrap (y6 + y8)) 2) == 1) then (ih (y5, (ibits .xor .u32 (IntKind.u32.wrap (Int.tdiv y6 2)) 3988292384), y7, (IntKind.u32.wrap (Int.tdiv y8 2)), (IntKind.i64.wrap (y9 + 1)))) else (ih (y5, (IntKind.u32.wrap (Int.tdiv y6 2)), y7, (IntKind.u32.wrap (Int.tdiv y8 2)), (IntKind.i64.wrap (y9 + 1))))) else (some ((y5, y6, y7))))
noncomputable def l_96_2 (N : Nat) : TAs sh_96_2 → Option (TAs [.one (.d (.sl [.int .u8])), .one (.d (.int .u32)), .one (.d (.int .i64))]) := iter (b_96_2 N) N
noncomputable def lp_96_2 (_ : Nat) : Nat → Option LSum := lookL []
noncomputable def L_96_2 (N : Nat) : LSum := loopSum [0, 3, 4, 5, 6] [] sh_96_2 o_96_2 (l_96_2 N)
theorem b_ok_96_2 (N : Nat) (ih : TAs sh_96_2 → Option (TAs [.one (.d (.sl [.int .u8])), .one (.d (.int .u32)), .one (.d (.int .i64))])) (p : TAs sh_96_2) : b_96_2 N ih p = exec (X_96 N) Go.Proofs.Tryz.f96.ntmps (lp_96_2 N) cb_96_2 2 (roundK [0, 3, 4, 5, 6] [] sh_96_2 o_96_2 ih) (stOf [0, 3, 4, 5, 6] [] sh_96_2 p) := by kernel_rfl
theorem L_ok_96_2 (N : Nat) : SegOk Go.Proofs.Tryz.prog laidL 0 Go.Proofs.Tryz.f96.ntmps nd_96_2 (L_96_2 N) :=
  ne_96_2 ▸ loop_ok (cur := 2) (lp := lp_96_2 N) (x_96 N) (fun n => iter (b_96_2 N) n) (fun _ => rfl) (fun n p => b_ok_96_2 N (iter (b_96_2 N) n) p) (loopsAll (by kernel_rfl) (lookOk_nil)) N
noncomputable def sh_96_0 : List ShA := [.one (.d (.sl [.int .u8])), .one (.d (.int .u32)), .one (.d (.int .i64))]
noncomputable def o_96_0 : OutK 0 (TAs [.one (.d (.int .u32))]) := (outOne 0 (.exit 0) [3] [] [.one (.d (.int .u32))])
noncomputable def b_96_0 (N : Nat) (ih : TAs sh_96_0 → Option (TAs [.one (.d (.int .u32))])) : TAs sh_96_0 → Option (TAs [.one (.d (.int .u32))]) := fun (y2, y3, y4) =>
  (bif (decide (y4 < (List.length y2 : Int))) then (bif (decide (0 ≤ y4 ∧ y4 < (List.length y2 : Int))) then ((l_96_2 N (y2, y3, y4, (IntKind.u32.wrap (List.getD y2 (Int.toNat y4) 0)), 0)).bind fun q10 => (ih (q10.1, q10.2.1, (IntKind.i64.wrap (q10.2.2 + 1))))) else none) else (some (y3)))
noncomputable def l_96_0 (N : Nat) : TAs sh_96_0 → Option (TAs [.one (.d (.int .u32))]) := iter (b_96_0 N) N
noncomputable def lp_96_0 (N : Nat) : Nat → Option LSum := lookL [(2, L_96_2 N)]
noncomputable def L_96_0 (N : Nat) : LSum := loopSum [0, 3, 4] [] sh_96_0 o_96_0 (l_96_0 N)
theorem b_ok_96_0 (N : Nat) (ih : TAs sh_96_0 → Option (TAs [.one (.d (.int .u32))])) (p : TAs sh_96_0) : b_96_0 N ih p = exec (X_96 N) Go.Proofs.Tryz.f96.ntmps (lp_96_0 N) cb_96_0 0 (roundK [0, 3, 4] [] sh_96_0 o_96_0 ih) (stOf [0, 3, 4] [] sh_96_0 p) := by kernel_rfl
theorem L_ok_96_0 (N : Nat) : SegOk Go.Proofs.Tryz.prog laidL 0 Go.Proofs.Tryz.f96.ntmps nd_96_0 (L_96_0 N) :=
  ne_96_0 ▸ loop_ok (cur := 0) (lp := lp_96_0 N) (x_96 N) (fun n => iter (b_96_0 N) n) (fun _ => rfl) (fun n p => b_ok_96_0 N (iter (b_96_0 N) n) p) (loopsAll (by kernel_rfl) ((lookOk_cons (L_ok_96_2 N) lookOk_nil))) N
noncomputable def lp_96 (N : Nat) : Nat → Option LSum := lookL [(0, L_96_0 N)]
noncomputable def f_96 (N : Nat) (x1 : List Int) : Option (TAs [.one (.d (.int .u32))]) :=
  ((l_96_0 N (x1, 4294967295, 0)).bind fun q11 => (some (IntKind.u32.wrap (4294967295 - q11))))
theorem ok_96 (N : Nat) (x1 : List Int) : f_96 N x1 = exec (X_96 N) Go.Proofs.Tryz.f96.ntmps (lp_96 N) c_96 0 (fnK (X_96 N) Go.Proofs.Tryz.f96.results.toList 0 [.one (.d (.int .u32))]) (fnSt 1 0 [.one (.d (.sl [.int .u8]))] x1) := by kernel_rfl
noncomputable def S_96 (N : Nat) : Sum := fnSum 1 0 1 [.one (.d (.sl [.int .u8]))] [.one (.d (.int .u32))] (fun p => f_96 N p)
theorem s_96 (N : Nat) : SumOk Go.Proofs.Tryz.prog laidL 96 (S_96 N) :=
  fn_ok (lp := lp_96 N) (x_96 N) Go.Proofs.Tryz.func96 (c := c_96) (by kernel_rfl) (by kernel_rfl) rfl (fun p => ok_96 N p) (loopsAll (by kernel_rfl) ((lookOk_cons (L_ok_96_0 N) lookOk_nil)))
noncomputable def X_97 (_ : Nat) : Ctx := ⟨tyT, lookF [], eqT, fun _ => false⟩
noncomputable def c_97 : Code := bodyOf Go.Proofs.Tryz.f97
theorem x_97 (N : Nat) : CtxOk Go.Proofs.Tryz.prog laidL (X_97 N) := ⟨tyOk, eqOk, fun _ _ => fnsOk_nil.get, by kernel_rfl⟩
noncomputable def nd_97_0 : Code := loopAt 0 0 c_97
noncomputable def cb_97_0 : Code := unloop nd_97_0
theorem ne_97_0 : nd_97_0 = .loop cb_97_0 := by kernel_rfl
noncomputable def sh_97_0 : List ShA := [.one (.d (.sl [.int .u8])), .one (.d (.sl [.int .u8])), .one (.d (.int .i64)), .one (.d (.int .i64))]
noncomputable def o_97_0 : OutK 0 (((TAs [.one (.d (.bool))]) ⊕ (TAs []))) := (outTwo (outOne 0 .ret [4] [] [.one (.d (.bool))]) (outOne 0 (.exit 0) [] [] []))
noncomputable def b_97_0 (_ : Nat) (ih : TAs sh_97_0 → Option (((TAs [.one (.d (.bool))]) ⊕ (TAs [])))) : TAs sh_97_0 → Option (((TAs [.one (.d (.bool))]) ⊕ (TAs []))) := fun (y3, y4, y5, y6) =>
  (bif (decide (y6 < y5)) then (bif (decide (0 ≤ y6 ∧ y6 < (List.length y3 : Int))) then (bif (decide (0 ≤ y6 ∧ y6 < (List.length y4 : Int))) then (bif ((List.getD y3 (Int.toNat y6) 0) != (List.getD y4 (Int.toNat y6) 0)) then (some (.inl false)) else (ih (y3, y4, y5, (IntKind.i64.wrap (y6 + 1))))) else none) else none) else (some (.inr ())))
noncomputable def l_97_0 (N : Nat) : TAs sh_97_0 → Option (((TAs [.one (.d (.bool))]) ⊕ (TAs []))) := iter (b_97_0 N) N
noncomputable def lp_97_0 (_ : Nat) : Nat → Option LSum := lookL []
noncomputable def L_97_0 (N : Nat) : LSum := loopSum [0, 1, 12, 13] [] sh_97_0 o_97_0 (l_97_0 N)
theorem b_ok_97_0 (N : Nat) (ih : TAs sh_97_0 → Option (((TAs [.one (.d (.bool))]) ⊕ (TAs [])))) (p : TAs sh_97_0) : b_97_0 N ih p = exec (X_97 N) Go.Proofs.Tryz.f97.ntmps (lp_97_0 N) cb_97_0 0 (roundK [0, 1, 12, 13] [] sh_97_0 o_97_0 ih) (stOf [0, 1, 12, 13] [] sh_97_0 p) := by kernel_rfl
theorem L_ok_97_0 (N : Nat) : SegOk Go.Proofs.Tryz.prog laidL 0 Go.Proofs.Tryz.f97.ntmps nd_97_0 (L_97_0 N) :=
  ne_97_0 ▸ loop_ok (cur := 0) (lp := lp_97_0 N) (x_97 N) (fun n => iter (b_97_0 N) n) (fun _ => rfl) (fun n p => b_ok_97_0 N (iter (b_97_0 N) n) p) (loopsAll (by kernel_rfl) (lookOk_nil)) N
noncomputable def lp_97 (N : Nat) : Nat → Option LSum := lookL [(0, L_97_0 N)]
noncomputable def f_97 (N : Nat) (x1 : List Int) (x2 : List Int) : Option (TAs [.one (.d (.bool))]) :=
  (bif ((List.length x1 : Int) != (List.length x2 : Int)) then (some false) else ((l_97_0 N (x1, x2, (List.length x1 : Int), 0)).bind fun q => (match q with | .inl q7 => (some q7) | .inr _ => (some true))))
theorem ok_97 (N : Nat) (x1 : List Int) (x2 : List Int) : f_97 N x1 x2 = exec (X_97 N) Go.Proofs.Tryz.f97.ntmps (lp_97 N) c_97 0 (fnK (X_97 N) Go.Proofs.Tryz.f97.results.toList 0 [.one (.d (.bool))]) (fnSt 2 0 [.one (.d (.sl [.int .u8])), .one (.d (.sl [.int .u8]))] (x1, x2)) := by kernel_rfl
noncomputable def S_97 (N : Nat) : Sum := fnSum 2 0 1 [.one (.d (.sl [.int .u8])), .one (.d (.sl [.int .u8]))] [.one (.d (.bool))] (fun p => f_97 N p.1 p.2)
theorem s_97 (N : Nat) : SumOk Go.Proofs.Tryz.prog laidL 97 (S_97 N) :=
  fn_ok (lp := lp_97 N) (x_97 N) Go.Proofs.Tryz.func97 (c := c_97) (by kernel_rfl) (by kernel_rfl) rfl (fun p => ok_97 N p.1 p.2) (loopsAll (by kernel_rfl) ((lookOk_cons (L_ok_97_0 N) lookOk_nil)))
noncomputable def X_99 (_ : Nat) : Ctx := ⟨tyT, lookF [], eqT, fun _ => false⟩
noncomputable def c_99 : Code := bodyOf Go.Proofs.Tryz.f99
theorem x_99 (N : Nat) : CtxOk Go.Proofs.Tryz.prog laidL (X_99 N) := ⟨tyOk, eqOk, fun _ _ => fnsOk_nil.get, by kernel_rfl⟩
noncomputable def lp_99 (_ : Nat) : Nat → Option LSum := lookL []
noncomputable def f_99 (_ : Nat) (x1 : Int) (x2 : Int) (x3 : Int) : Option (TAs [.one (.d (.err 93))]) :=
  (bif (decide (x2 < 0)) then (some (some 1)) else (bif (decide (x2 > 43200)) then (some (some 1)) else (bif (decide (x3 < 0)) then (some (some 1)) else (bif (decide (x3 > 43200)) then (some (some 1)) else (bif (x1 == 0) then (bif ((IntKind.i64.wrap (x2 + x3)) == 0) then (some none) else (some (some 1))) else (bif (x1 == 1) then (bif (decide ((IntKind.i64.wrap (x2 + x3)) > 0)) then (some none) else (some (some 1))) else (bif (x1 == 2) then (bif (decide ((IntKind.i64.wrap (x2 + x3)) ≥ 3600)) then (some none) else (some (some 1))) else (some (some 1)))))))))
theorem ok_99 (N : Nat) (x1 : Int) (x2 : Int) (x3 : Int) : f_99 N x1 x2 x3 = exec (X_99 N) Go.Proofs.Tryz.f99.ntmps (lp_99 N) c_99 0 (fnK (X_99 N) Go.Proofs.Tryz.f99.results.toList 0 [.one (.d (.err 93))]) (fnSt 1 0 [.agg [.d (.int .i64), .d (.int .i64), .d (.int .i64)]] (x1, x2, x3)) := by kernel_rfl
noncomputable def S_99 (N : Nat) : Sum := fnSum 1 0 1 [.agg [.d (.int .i64), .d (.int .i64), .d (.int .i64)]] [.one (.d (.err 93))] (fun p => f_99 N p.1 p.2.1 p.2.2)
theorem s_99 (N : Nat) : SumOk Go.Proofs.Tryz.prog laidL 99 (S_99 N) :=
  fn_ok (lp := lp_99 N) (x_99 N) Go.Proofs.Tryz.func99 (c := c_99) (by kernel_rfl) (by kernel_rfl) rfl (fun p => ok_99 N p.1 p.2.1 p.2.2) (loopsAll (by kernel_rfl) (lookOk_nil))
noncomputable def X_100 (_ : Nat) : Ctx := ⟨tyT, lookF [], eqT, fun _ => false⟩
noncomputable def c_100 : Code := bodyOf Go.Proofs.Tryz.f100
theorem x_100 (N : Nat) : CtxOk Go.Proofs.Tryz.prog laidL (X_100 N) := ⟨tyOk, eqOk, fun _ _ => fnsOk_nil.get, by kernel_rfl⟩
noncomputable def lp_100 (_ : Nat) : Nat → Option LSum := lookL []
noncomputable def f_100 (_ : Nat) (x1 : Int) : Option (TAs [.one (.d (.err 93))]) :=
  (bif (decide (x1 < 1)) then (some (some 1)) else (bif (decide (x1 > 68719476736)) then (some (some 1)) else (some none)))
theorem ok_100 (N : Nat) (x1 : Int) : f_100 N x1 = exec (X_100 N) Go.Proofs.Tryz.f100.ntmps (lp_100 N) c_100 0 (fnK (X_100 N) Go.Proofs.Tryz.f100.results.toList 0 [.one (.d (.err 93))]) (fnSt 1 0 [.one (.d (.int .i64))] x1) := by kernel_rfl
noncomputable def S_100 (N : Nat) : Sum := fnSum 1 0 1 [.one (.d (.int .i64))] [.one (.d (.err 93))] (fun p => f_100 N p)
theorem s_100 (N : Nat) : SumOk Go.Proofs.Tryz.prog laidL 100 (S_100 N) :=
  fn_ok (lp := lp_100 N) (x_100 N) Go.Proofs.Tryz.func100 (c := c_100) (by kernel_rfl) (by kernel_rfl) rfl (fun p => ok_100 N p) (loopsAll (by kernel_rfl) (lookOk_nil))
noncomputable def X_101 (_ : Nat) : Ctx := ⟨tyT, lookF [], eqT, fun _ => false⟩
noncomputable def c_101 : Code := bodyOf Go.Proofs.Tryz.f101
theorem x_101 (N : Nat) : CtxOk Go.Proofs.Tryz.prog laidL (X_101 N) := ⟨tyOk, eqOk, fun _ _ => fnsOk_nil.get, by kernel_rfl⟩
noncomputable def lp_101 (_ : Nat) : Nat → Option LSum := lookL []
noncomputable def f_101 (_ : Nat) (x1 : Int) (x2 : Int) : Option (TAs [.one (.d (.err 93))]) :=
  (bif (decide (x1 < 0)) then (some (some 1)) else (bif (decide (x1 > 1099511627776)) then (some (some 1)) else (bif (decide (x2 < 1)) then (some (some 1)) else (bif (decide (x2 > 1125899906842624)) then (some (some 1)) else (some none)))))
theorem ok_101 (N : Nat) (x1 : Int) (x2 : Int) : f_101 N x1 x2 = exec (X_101 N) Go.Proofs.Tryz.f101.ntmps (lp_101 N) c_101 0 (fnK (X_101 N) Go.Proofs.Tryz.f101.results.toList 0 [.one (.d (.err 93))]) (fnSt 1 0 [.agg [.d (.int .i64), .d (.int .i64)]] (x1, x2)) := by kernel_rfl
noncomputable def S_101 (N : Nat) : Sum := fnSum 1 0 1 [.agg [.d (.int .i64), .d (.int .i64)]] [.one (.d (.err 93))] (fun p => f_101 N p.1 p.2)
theorem s_101 (N : Nat) : SumOk Go.Proofs.Tryz.prog laidL 101 (S_101 N) :=
  fn_ok (lp := lp_101 N) (x_101 N) Go.Proofs.Tryz.func101 (c := c_101) (by kernel_rfl) (by kernel_rfl) rfl (fun p => ok_101 N p.1 p.2) (loopsAll (by kernel_rfl) (lookOk_nil))
noncomputable def X_104 (_ : Nat) : Ctx := ⟨tyT, lookF [], eqT, fun _ => false⟩
noncomputable def c_104 : Code := bodyOf Go.Proofs.Tryz.f104
theorem x_104 (N : Nat) : CtxOk Go.Proofs.Tryz.prog laidL (X_104 N) := ⟨tyOk, eqOk, fun _ _ => fnsOk_nil.get, by kernel_rfl⟩
noncomputable def lp_104 (_ : Nat) : Nat → Option LSum := lookL []
noncomputable def f_104 (_ : Nat) (x1 : Int) (x2 : Int) : Option (TAs [.one (.d (.int .i64)), .one (.d (.int .i64))]) :=
  (bif (decide (x2 = 0)) then none else (bif (decide (x1 < 0)) then (bif ((IntKind.i64.wrap ((IntKind.i64.wrap (Int.tdiv x1 x2)) * x2)) != x1) then (some ((IntKind.i64.wrap ((IntKind.i64.wrap (Int.tdiv x1 x2)) - 1)), (IntKind.i64.wrap (x1 - (IntKind.i64.wrap ((IntKind.i64.wrap ((IntKind.i64.wrap (Int.tdiv x1 x2)) - 1)) * x2)))))) else (some ((IntKind.i64.wrap (Int.tdiv x1 x2)), (IntKind.i64.wrap (x1 - (IntKind.i64.wrap ((IntKind.i64.wrap (Int.tdiv x1 x2)) * x2))))))) else (some ((IntKind.i64.wrap (Int.tdiv x1 x2)), (IntKind.i64.wrap (x1 - (IntKind.i64.wrap ((IntKind.i64.wrap (Int.tdiv x1 x2)) * x2))))))))
theorem ok_104 (N : Nat) (x1 : Int) (x2 : Int) : f_104 N x1 x2 = exec (X_104 N) Go.Proofs.Tryz.f104.ntmps (lp_104 N) c_104 0 (fnK (X_104 N) Go.Proofs.Tryz.f104.results.toList 0 [.one (.d (.int .i64)), .one (.d (.int .i64))]) (fnSt 2 0 [.one (.d (.int .i64)), .one (.d (.int .i64))] (x1, x2)) := by kernel_rfl
noncomputable def S_104 (N : Nat) : Sum := fnSum 2 0 2 [.one (.d (.int .i64)), .one (.d (.int .i64))] [.one (.d (.int .i64)), .one (.d (.int .i64))] (fun p => f_104 N p.1 p.2)
theorem s_104 (N : Nat) : SumOk Go.Proofs.Tryz.prog laidL 104 (S_104 N) :=
  fn_ok (lp := lp_104 N) (x_104 N) Go.Proofs.Tryz.func104 (c := c_104) (by kernel_rfl) (by kernel_rfl) rfl (fun p => ok_104 N p.1 p.2) (loopsAll (by kernel_rfl) (lookOk_nil))
noncomputable def X_105 (_ : Nat) : Ctx := ⟨tyT, lookF [], eqT, fun _ => false⟩
noncomputable def c_105 : Code := bodyOf Go.Proofs.Tryz.f105
theorem x_105 (N : Nat) : CtxOk Go.Proofs.Tryz.prog laidL (X_105 N) := ⟨tyOk, eqOk, fun _ _ => fnsOk_nil.get, by kernel_rfl⟩
noncomputable def lp_105 (_ : Nat) : Nat → Option LSum := lookL []
noncomputable def f_105 (_ : Nat) (x1 : Int) (x2 : Int) (x3 : Int) : Option (TAs [.one (.d (.bool))]) :=
  (bif (decide (x2 < 0)) then (some false) else (bif (decide (x2 > 43200)) then (some false) else (bif (decide (x3 < 0)) then (some false) else (bif (decide (x3 > 43200)) then (some false) else (bif (x1 == 0) then (bif ((IntKind.i64.wrap (x2 + x3)) == 0) then (some true) else (bif (x1 == 1) then (bif (decide ((IntKind.i64.wrap (x2 + x3)) ≥ 1)) then (some true) else (bif (x1 == 2) then (some (decide ((IntKind.i64.wrap (x2 + x3)) ≥ 3600))) else (some false))) else (bif (x1 == 2) then (some (decide ((IntKind.i64.wrap (x2 + x3)) ≥ 3600))) else (some false)))) else (bif (x1 == 1) then (bif (decide ((IntKind.i64.wrap (x2 + x3)) ≥ 1)) then (some true) else (bif (x1 == 2) then (some (decide ((IntKind.i64.wrap (x2 + x3)) ≥ 3600))) else (some false))) else (bif (x1 == 2) then (some (decide ((IntKind.i64.wrap (x2 + x3)) ≥ 3600))) else (some false))))))))
theorem ok_105 (N : Nat) (x1 : Int) (x2 : Int) (x3 : Int) : f_105 N x1 x2 x3 = exec (X_105 N) Go.Proofs.Tryz.f105.ntmps (lp_105 N) c_105 0 (fnK (X_105 N) Go.Proofs.Tryz.f105.results.toList 0 [.one (.d (.bool))]) (fnSt 1 0 [.agg [.d (.int .i64), .d (.int .i64), .d (.int .i64)]] (x1, x2, x3)) := by kernel_rfl
noncomputable def S_105 (N : Nat) : Sum := fnSum 1 0 1 [.agg [.d (.int .i64), .d (.int .i64), .d (.int .i64)]] [.one (.d (.bool))] (fun p => f_105 N p.1 p.2.1 p.2.2)
theorem s_105 (N : Nat) : SumOk Go.Proofs.Tryz.prog laidL 105 (S_105 N) :=
  fn_ok (lp := lp_105 N) (x_105 N) Go.Proofs.Tryz.func105 (c := c_105) (by kernel_rfl) (by kernel_rfl) rfl (fun p => ok_105 N p.1 p.2.1 p.2.2) (loopsAll (by kernel_rfl) (lookOk_nil))
noncomputable def X_106 (_ : Nat) : Ctx := ⟨tyT, lookF [], eqT, fun _ => false⟩
noncomputable def c_106 : Code := bodyOf Go.Proofs.Tryz.f106
theorem x_106 (N : Nat) : CtxOk Go.Proofs.Tryz.prog laidL (X_106 N) := ⟨tyOk, eqOk, fun _ _ => fnsOk_nil.get, by kernel_rfl⟩
noncomputable def lp_106 (_ : Nat) : Nat → Option LSum := lookL []
noncomputable def f_106 (_ : Nat) (x1 : Int) : Option (TAs [.one (.d (.bool))]) :=
  (bif (decide (x1 ≥ 1)) then (some (decide (x1 ≤ 68719476736))) else (some false))
theorem ok_106 (N : Nat) (x1 : Int) : f_106 N x1 = exec (X_106 N) Go.Proofs.Tryz.f106.ntmps (lp_106 N) c_106 0 (fnK (X_106 N) Go.Proofs.Tryz.f106.results.toList 0 [.one (.d (.bool))]) (fnSt 1 0 [.one (.d (.int .i64))] x1) := by kernel_rfl
noncomputable def S_106 (N : Nat) : Sum := fnSum 1 0 1 [.one (.d (.int .i64))] [.one (.d (.bool))] (fun p => f_106 N p)
theorem s_106 (N : Nat) : SumOk Go.Proofs.Tryz.prog laidL 106 (S_106 N) :=
  fn_ok (lp := lp_106 N) (x_106 N) Go.Proofs.Tryz.func106 (c := c_106) (by kernel_rfl) (by kernel_rfl) rfl (fun p => ok_106 N p) (loopsAll (by kernel_rfl) (lookOk_nil))
noncomputable def X_107 (_ : Nat) : Ctx := ⟨tyT, lookF [], eqT, fun _ => false⟩
noncomputable def c_107 : Code := bodyOf Go.Proofs.Tryz.f107
theorem x_107 (N : Nat) : CtxOk Go.Proofs.Tryz.prog laidL (X_107 N) := ⟨tyOk, eqOk, fun _ _ => fnsOk_nil.get, by kernel_rfl⟩
noncomputable def lp_107 (_ : Nat) : Nat → Option LSum := lookL []
noncomputable def f_107 (_ : Nat) (x1 : Int) (x2 : Int) : Option (TAs [.one (.d (.bool))]) :=
  (bif (decide (x1 ≥ 0)) then (bif (decide (x1 ≤ 1099511627776)) then (bif (decide (x2 ≥ 1)) then (some (decide (x2 ≤ 1125899906842624))) else (some false)) else (some false)) else (some false))
theorem ok_107 (N : Nat) (x1 : Int) (x2 : Int) : f_107 N x1 x2 = exec (X_107 N) Go.Proofs.Tryz.f107.ntmps (lp_107 N) c_107 0 (fnK (X_107 N) Go.Proofs.Tryz.f107.results.toList 0 [.one (.d (.bool))]) (fnSt 1 0 [.agg [.d (.int .i64), .d (.int .i64)]] (x1, x2)) := by kernel_rfl
noncomputable def S_107 (N : Nat) : Sum := fnSum 1 0 1 [.agg [.d (.int .i64), .d (.int .i64)]] [.one (.d (.bool))] (fun p => f_107 N p.1 p.2)
theorem s_107 (N : Nat) : SumOk Go.Proofs.Tryz.prog laidL 107 (S_107 N) :=
  fn_ok (lp := lp_107 N) (x_107 N) Go.Proofs.Tryz.func107 (c := c_107) (by kernel_rfl) (by kernel_rfl) rfl (fun p => ok_107 N p.1 p.2) (loopsAll (by kernel_rfl) (lookOk_nil))
noncomputable def X_109 (_ : Nat) : Ctx := ⟨tyT, lookF [], eqT, fun _ => false⟩
noncomputable def c_109 : Code := bodyOf Go.Proofs.Tryz.f109
theorem x_109 (N : Nat) : CtxOk Go.Proofs.Tryz.prog laidL (X_109 N) := ⟨tyOk, eqOk, fun _ _ => fnsOk_nil.get, by kernel_rfl⟩
noncomputable def lp_109 (_ : Nat) : Nat → Option LSum := lookL []
noncomputable def f_109 (_ : Nat) (x1 : List Int) (x2 : Bool) : Option (TAs [.one (.d (.bool))]) :=
  (bif (!x2) then (some ((List.length x1 : Int) == 0)) else (some false))
theorem ok_109 (N : Nat) (x1 : List Int) (x2 : Bool) : f_109 N x1 x2 = exec (X_109 N) Go.Proofs.Tryz.f109.ntmps (lp_109 N) c_109 0 (fnK (X_109 N) Go.Proofs.Tryz.f109.results.toList 0 [.one (.d (.bool))]) (fnSt 1 0 [.agg [.d (.sl [.int .u8]), .d (.bool)]] (x1, x2)) := by kernel_rfl
noncomputable def S_109 (N : Nat) : Sum := fnSum 1 0 1 [.agg [.d (.sl [.int .u8]), .d (.bool)]] [.one (.d (.bool))] (fun p => f_109 N p.1 p.2)
theorem s_109 (N : Nat) : SumOk Go.Proofs.Tryz.prog laidL 109 (S_109 N) :=
  fn_ok (lp := lp_109 N) (x_109 N) Go.Proofs.Tryz.func109 (c := c_109) (by kernel_rfl) (by kernel_rfl) rfl (fun p => ok_109 N p.1 p.2) (loopsAll (by kernel_rfl) (lookOk_nil))
noncomputable def X_118 (N : Nat) : Ctx := ⟨tyT, lookF [(100, (S_100 N))], eqT, fun _ => false⟩
noncomputable def c_118 : Code := bodyOf Go.Proofs.Tryz.f118
theorem x_118 (N : Nat) : CtxOk Go.Proofs.Tryz.prog laidL (X_118 N) := ⟨tyOk, eqOk, fun _ _ => (fnsOk_cons (s_100 N) fnsOk_nil).get, by kernel_rfl⟩
noncomputable def lp_118 (_ : Nat) : Nat → Option LSum := lookL []
noncomputable def f_118 (N : Nat) (x1 : Int) (x2 : Int) : Option (TAs [.one (.d (.bool))]) :=
  ((f_100 N x2).bind fun r3 => (bif (Option.isNone r3) then (bif (decide (x2 = 0)) then none else (some ((Int.tmod x1 x2) == 0))) else (some false)))
theorem ok_118 (N : Nat) (x1 : Int) (x2 : Int) : f_118 N x1 x2 = exec (X_118 N) Go.Proofs.Tryz.f118.ntmps (lp_118 N) c_118 0 (fnK (X_118 N) Go.Proofs.Tryz.f118.results.toList 0 [.one (.d (.bool))]) (fnSt 2 0 [.one (.d (.int .i64)), .one (.d (.int .i64))] (x1, x2)) := by kernel_rfl
noncomputable def S_118 (N : Nat) : Sum := fnSum 2 0 1 [.one (.d (.int .i64)), .one (.d (.int .i64))] [.one (.d (.bool))] (fun p => f_118 N p.1 p.2)
theorem s_118 (N : Nat) : SumOk Go.Proofs.Tryz.prog laidL 118 (S_118 N) :=
  fn_ok (lp := lp_118 N) (x_118 N) Go.Proofs.Tryz.func118 (c := c_118) (by kernel_rfl) (by kernel_rfl) rfl (fun p => ok_118 N p.1 p.2) (loopsAll (by kernel_rfl) (lookOk_nil))
noncomputable def X_121 (_ : Nat) : Ctx := ⟨tyT, lookF [(91, trimS)], eqT, fun _ => false⟩
noncomputable def c_121 : Code := bodyOf Go.Proofs.Tryz.f121
theorem x_121 (N : Nat) : CtxOk Go.Proofs.Tryz.prog laidL (X_121 N) := ⟨tyOk, eqOk, fun _ _ => (fnsOk_cons trimS_ok fnsOk_nil).get, by kernel_rfl⟩
noncomputable def lp_121 (_ : Nat) : Nat → Option LSum := lookL []
noncomputable def f_121 (_ : Nat) (x1 : ByteArray) : Option (TAs [.one (.d (.bool))]) :=
  (bif (!((ByteArray.toList x1) == (ByteArray.toList (⟨#[]⟩ : ByteArray)))) then (bif (decide ((ByteArray.size x1 : Int) ≤ 12)) then ((trimF x1 (⟨#[65, 66, 67, 68, 69, 70, 71, 72, 73, 74, 75, 76, 77, 78, 79, 80, 81, 82, 83, 84, 85, 86, 87, 88, 89, 90, 97, 98, 99, 100, 101, 102, 103, 104, 105, 106, 107, 108, 109, 110, 111, 112, 113, 114, 115, 116, 117, 118, 119, 120, 121, 122, 48, 49, 50, 51, 52, 53, 54, 55, 56, 57, 47, 95, 43, 45]⟩)).bind fun r2 => (some ((ByteArray.toList r2) == (ByteArray.toList (⟨#[]⟩ : ByteArray))))) else (some false)) else (some false))
theorem ok_121 (N : Nat) (x1 : ByteArray) : f_121 N x1 = exec (X_121 N) Go.Proofs.Tryz.f121.ntmps (lp_121 N) c_121 0 (fnK (X_121 N) Go.Proofs.Tryz.f121.results.toList 0 [.one (.d (.bool))]) (fnSt 1 0 [.one (.d (.str))] x1) := by kernel_rfl
noncomputable def S_121 (N : Nat) : Sum := fnSum 1 0 1 [.one (.d (.str))] [.one (.d (.bool))] (fun p => f_121 N p)
theorem s_121 (N : Nat) : SumOk Go.Proofs.Tryz.prog laidL 121 (S_121 N) :=
  fn_ok (lp := lp_121 N) (x_121 N) Go.Proofs.Tryz.func121 (c := c_121) (by kernel_rfl) (by kernel_rfl) rfl (fun p => ok_121 N p) (loopsAll (by kernel_rfl) (lookOk_nil))
noncomputable def X_122 (_ : Nat) : Ctx := ⟨tyT, lookF [], eqT, fun _ => false⟩
noncomputable def c_122 : Code := bodyOf Go.Proofs.Tryz.f122
theorem x_122 (N : Nat) : CtxOk Go.Proofs.Tryz.prog laidL (X_122 N) := ⟨tyOk, eqOk, fun _ _ => fnsOk_nil.get, by kernel_rfl⟩
noncomputable def lp_122 (_ : Nat) : Nat → Option LSum := lookL []
noncomputable def f_122 (_ : Nat) (x1 : Int) : Option (TAs [.one (.d (.bool))]) :=
  (bif (decide (x1 ≥ (-86399))) then (some (decide (x1 ≤ 86399))) else (some false))
theorem ok_122 (N : Nat) (x1 : Int) : f_122 N x1 = exec (X_122 N) Go.Proofs.Tryz.f122.ntmps (lp_122 N) c_122 0 (fnK (X_122 N) Go.Proofs.Tryz.f122.results.toList 0 [.one (.d (.bool))]) (fnSt 1 0 [.one (.d (.int .i64))] x1) := by kernel_rfl
noncomputable def S_122 (N : Nat) : Sum := fnSum 1 0 1 [.one (.d (.int .i64))] [.one (.d (.bool))] (fun p => f_122 N p)
theorem s_122 (N : Nat) : SumOk Go.Proofs.Tryz.prog laidL 122 (S_122 N) :=
  fn_ok (lp := lp_122 N) (x_122 N) Go.Proofs.Tryz.func122 (c := c_122) (by kernel_rfl) (by kernel_rfl) rfl (fun p => ok_122 N p) (loopsAll (by kernel_rfl) (lookOk_nil))
noncomputable def X_123 (_ : Nat) : Ctx := ⟨tyT, lookF [], eqT, fun _ => false⟩
noncomputable def c_123 : Code := bodyOf Go.Proofs.Tryz.f123
theorem x_123 (N : Nat) : CtxOk Go.Proofs.Tryz.prog laidL (X_123 N) := ⟨tyOk, eqOk, fun _ _ => fnsOk_nil.get, by kernel_rfl⟩
noncomputable def lp_123 (_ : Nat) : Nat → Option LSum := lookL []
noncomputable def f_123 (_ : Nat) (x1 : Int) : Option (TAs [.one (.d (.bool))]) :=
  (bif (decide (x1 > (-4611686018427387904))) then (some (decide (x1 < 4611686018427387904))) else (some false))
theorem ok_123 (N : Nat) (x1 : Int) : f_123 N x1 = exec (X_123 N) Go.Proofs.Tryz.f123.ntmps (lp_123 N) c_123 0 (fnK (X_123 N) Go.Proofs.Tryz.f123.results.toList 0 [.one (.d (.bool))]) (fnSt 1 0 [.one (.d (.int .i64))] x1) := by kernel_rfl
noncomputable def S_123 (N : Nat) : Sum := fnSum 1 0 1 [.one (.d (.int .i64))] [.one (.d (.bool))] (fun p => f_123 N p)
theorem s_123 (N : Nat) : SumOk Go.Proofs.Tryz.prog laidL 123 (S_123 N) :=
  fn_ok (lp := lp_123 N) (x_123 N) Go.Proofs.Tryz.func123 (c := c_123) (by kernel_rfl) (by kernel_rfl) rfl (fun p => ok_123 N p) (loopsAll (by kernel_rfl) (lookOk_nil))
noncomputable def X_124 (_ : Nat) : Ctx := ⟨tyT, lookF [], eqT, fun _ => false⟩
noncomputable def c_124 : Code := bodyOf Go.Proofs.Tryz.f124
theorem x_124 (N : Nat) : CtxOk Go.Proofs.Tryz.prog laidL (X_124 N) := ⟨tyOk, eqOk, fun _ _ => fnsOk_nil.get, by kernel_rfl⟩
noncomputable def nd_124_0 : Code := loopAt 0 0 c_124
noncomputable def cb_124_0 : Code := unloop nd_124_0
theorem ne_124_0 : nd_124_0 = .loop cb_124_0 := by kernel_rfl
noncomputable def sh_124_0 : List ShA := [.one (.d (.str)), .one (.d (.int .i64))]
noncomputable def o_124_0 : OutK 0 (((TAs [.one (.d (.bool))]) ⊕ (TAs [.one (.d (.str))]))) := (outTwo (outOne 0 .ret [2] [] [.one (.d (.bool))]) (outOne 0 (.exit 0) [0] [] [.one (.d (.str))]))
noncomputable def b_124_0 (_ : Nat) (ih : TAs sh_124_0 → Option (((TAs [.one (.d (.bool))]) ⊕ (TAs [.one (.d (.str))])))) : TAs sh_124_0 → Option (((TAs [.one (.d (.bool))]) ⊕ (TAs [.one (.d (.str))]))) := fun (y2, y3) =>
  (bif (decide (y3 < (ByteArray.size y2 : Int))) then (bif (decide (0 ≤ y3 ∧ y3 < (ByteArray.size y2 : Int))) then (bif (decide ((byteAt y2 (Int.toNat y3)) ≥ 97)) then (bif (decide ((byteAt y2 (Int.toNat y3)) ≤ 122)) then (ih (y2, (IntKind.i64.wrap (y3 + 1)))) else (bif (decide ((byteAt y2 (Int.toNat y3)) ≥ 65)) then (bif (decide ((byteAt y2 (Int.toNat y3)) ≤ 90)) then (ih (y2, (IntKind.i64.wrap (y3 + 1)))) else (bif (decide ((byteAt y2 (Int.toNat y3)) ≥ 48)) then (bif (decide ((byteAt y2 (Int.toNat y3)) ≤ 57)) then (ih (y2, (IntKind.i64.wrap (y3 + 1)))) else (bif ((byteAt y2 (Int.toNat y3)) == 47) then (ih (y2, (IntKind.i64.wrap (y3 + 1)))) else (bif ((byteAt y2 (Int.toNat y3)) == 95) then (ih (y2, (IntKind.i64.wrap (y3 + 1)))) else (bif ((byteAt y2 (Int.toNat y3)) == 43) then (ih (y2, (IntKind.i64.wrap (y3 + 1)))) else (bif (!((byteAt y2 (Int.toNat y3)) == 45)) then (some (.inl false)) else (ih (y2, (IntKind.i64.wrap (y3 + 1))))))))) else (bif ((byteAt y2 (Int.toNat y3)) == 47) then (ih (y2, (IntKind.i64.wrap (y3 + 1)))) else (bif ((byteAt y2 (Int.toNat y3)) == 95) then (ih (y2, (IntKind.i64.wrap (y3 + 1)))) else (bif ((byteAt y2 (Int.toNat y3)) == 43) then (ih (y2, (IntKind.i64.wrap (y3 + 1)))) else (bif (!((byteAt y2 (Int.toNat y3)) == 45)) then (some (.inl false)) else (ih (y2, (IntKind.i64.wrap (y3 + 1)))))))))) else (bif (decide ((byteAt y2 (Int.toNat y3)) ≥ 48)) then (bif (decide ((byteAt y2 (Int.toNat y3)) ≤ 57)) then (ih (y2, (IntKind.i64.wrap (y3 + 1)))) else (bif ((byteAt y2 (Int.toNat y3)) == 47) then (ih (y2, (IntKind.i64.wrap (y3 + 1)))) else (bif ((byteAt y2 (Int.toNat y3)) == 95) then (ih (y2, (IntKind.i64.wrap (y3 + 1)))) else (bif ((byteAt y2 (Int.toNat y3)) == 43) then (ih (y2, (IntKind.i64.wrap (y3 + 1)))) else (bif (!((byteAt y2 (Int.toNat y3)) == 45)) then (some (.inl false)) else (ih (y2, (IntKind.i64.wrap (y3 + 1))))))))) else (bif ((byteAt y2 (Int.toNat y3)) == 47) then (ih (y2, (IntKind.i64.wrap (y3 + 1)))) else (bif ((byteAt y2 (Int.toNat y3)) == 95) then (ih (y2, (IntKind.i64.wrap (y3 + 1)))) else (bif ((byteAt y2 (Int.toNat y3)) == 43) then (ih (y2, (IntKind.i64.wrap (y3 + 1)))) else (bif (!((byteAt y2 (Int.toNat y3)) == 45)) then (some (.inl false)) else (ih (y2, (IntKind.i64.wrap (y3 + 1))))))))))) else (bif (decide ((byteAt y2 (Int.toNat y3)) ≥ 65)) then (bif (decide ((byteAt y2 (Int.toNat y3)) ≤ 90)) then (ih (y2, (IntKind.i64.wrap (y3 + 1)))) else (bif (decide ((byteAt y2 (Int.toNat y3)) ≥ 48)) then (bif (decide ((byteAt y2 (Int.toNat y3)) ≤ 57)) then (ih (y2, (IntKind.i64.wrap (y3 + 1)))) else (bif ((byteAt y2 (Int.toNat y3)) == 47) then (ih (y2, (IntKind.i64.wrap (y3 + 1)))) else (bif ((byteAt y2 (Int.toNat y3)) == 95) then (ih (y2, (IntKind.i64.wrap (y3 + 1)))) else (bif ((byteAt y2 (Int.toNat y3)) == 43) then (ih (y2, (IntKind.i64.wrap (y3 + 1)))) else (bif (!((byteAt y2 (Int.toNat y3)) == 45)) then (some (.inl false)) else (ih (y2, (IntKind.i64.wrap (y3 + 1))))))))) else (bif ((byteAt y2 (Int.toNat y3)) == 47) then (ih (y2, (IntKind.i64.wrap (y3 + 1)))) else (bif ((byteAt y2 (Int.toNat y3)) == 95) then (ih (y2, (IntKind.i64.wrap (y3 + 1)))) else (bif ((byteAt y2 (Int.toNat y3)) == 43) then (ih (y2, (IntKind.i64.wrap (y3 + 1)))) else (bif (!((byteAt y2 (Int.toNat y3)) == 45)) then (some (.inl false)) else (ih (y2, (IntKind.i64.wrap (y3 + 1)))))))))) else (bif (decide ((byteAt y2 (Int.toNat y3)) ≥ 48)) then (bif (decide ((byteAt y2 (Int.toNat y3)) ≤ 57)) then (ih (y2, (IntKind.i64.wrap (y3 + 1)))) else (bif ((byteAt y2 (Int.toNat y3)) == 47) then (ih (y2, (IntKind.i64.wrap (y3 + 1)))) else (bif ((byteAt y2 (Int.toNat y3)) == 95) then (ih (y2, (IntKind.i64.wrap (y3 + 1)))) else (bif ((byteAt y2 (Int.toNat y3)) == 43) then (ih (y2, (IntKind.i64.wrap (y3 + 1)))) else (bif (!((byteAt y2 (Int.toNat y3)) == 45)) then (some (.inl false)) else (ih (y2, (IntKind.i64.wrap (y3 + 1))))))))) else (bif ((byteAt y2 (Int.toNat y3)) == 47) then (ih (y2, (IntKind.i64.wrap (y3 + 1)))) else (bif ((byteAt y2 (Int.toNat y3)) == 95) then (ih (y2, (IntKind.i64.wrap (y3 + 1)))) else (bif ((byteAt y2 (Int.toNat y3)) == 43) then (ih (y2, (IntKind.i64.wrap (y3 + 1)))) else (bif (!((byteAt y2 (Int.toNat y3)) == 45)) then (some (.inl false)) else (ih (y2, (IntKind.i64.wrap (y3 + 1))))))))))) else none) else (some (.inr y2)))
noncomputable def l_124_0 (N : Nat) : TAs sh_124_0 → Option (((TAs [.one (.d (.bool))]) ⊕ (TAs [.one (.d (.str))]))) := iter (b_124_0 N) N
noncomputable def lp_124_0 (_ : Nat) : Nat → Option LSum := lookL []
noncomputable def L_124_0 (N : Nat) : LSum := loopSum [0, 3] [] sh_124_0 o_124_0 (l_124_0 N)
theorem b_ok_124_0 (N : Nat) (ih : TAs sh_124_0 → Option (((TAs [.one (.d (.bool))]) ⊕ (TAs [.one (.d (.str))])))) (p : TAs sh_124_0) : b_124_0 N ih p = exec (X_124 N) Go.Proofs.Tryz.f124.ntmps (lp_124_0 N) cb_124_0 0 (roundK [0, 3] [] sh_124_0 o_124_0 ih) (stOf [0, 3] [] sh_124_0 p) := by kernel_rfl
theorem L_ok_124_0 (N : Nat) : SegOk Go.Proofs.Tryz.prog laidL 0 Go.Proofs.Tryz.f124.ntmps nd_124_0 (L_124_0 N) :=
  ne_124_0 ▸ loop_ok (cur := 0) (lp := lp_124_0 N) (x_124 N) (fun n => iter (b_124_0 N) n) (fun _ => rfl) (fun n p => b_ok_124_0 N (iter (b_124_0 N) n) p) (loopsAll (by kernel_rfl) (lookOk_nil)) N
noncomputable def lp_124 (N : Nat) : Nat → Option LSum := lookL [(0, L_124_0 N)]
noncomputable def f_124 (N : Nat) (x1 : ByteArray) : Option (TAs [.one (.d (.bool))]) :=
  ((l_124_0 N (x1, 0)).bind fun q => (match q with | .inl q4 => (some q4) | .inr q5 => (bif (decide ((ByteArray.size q5 : Int) ≥ 1)) then (some (decide ((ByteArray.size q5 : Int) ≤ 12))) else (some false))))
theorem ok_124 (N : Nat) (x1 : ByteArray) : f_124 N x1 = exec (X_124 N) Go.Proofs.Tryz.f124.ntmps (lp_124 N) c_124 0 (fnK (X_124 N) Go.Proofs.Tryz.f124.results.toList 0 [.one (.d (.bool))]) (fnSt 1 0 [.one (.d (.str))] x1) := by kernel_rfl
noncomputable def S_124 (N : Nat) : Sum := fnSum 1 0 1 [.one (.d (.str))] [.one (.d (.bool))] (fun p => f_124 N p)
theorem s_124 (N : Nat) : SumOk Go.Proofs.Tryz.prog laidL 124 (S_124 N) :=
  fn_ok (lp := lp_124 N) (x_124 N) Go.Proofs.Tryz.func124 (c := c_124) (by kernel_rfl) (by kernel_rfl) rfl (fun p => ok_124 N p) (loopsAll (by kernel_rfl) ((lookOk_cons (L_ok_124_0 N) lookOk_nil)))
noncomputable def X_125 (_ : Nat) : Ctx := ⟨tyT, lookF [], eqT, fun _ => false⟩
noncomputable def c_125 : Code := bodyOf Go.Proofs.Tryz.f125
theorem x_125 (N : Nat) : CtxOk Go.Proofs.Tryz.prog laidL (X_125 N) := ⟨tyOk, eqOk, fun _ _ => fnsOk_nil.get, by kernel_rfl⟩
noncomputable def lp_125 (_ : Nat) : Nat → Option LSum := lookL []
noncomputable def f_125 (_ : Nat) (x1 : Int) : Option (TAs [.one (.d (.bool))]) :=
  (bif (decide (x1 > (-86400))) then (some (decide (x1 < 86400))) else (some false))
theorem ok_125 (N : Nat) (x1 : Int) : f_125 N x1 = exec (X_125 N) Go.Proofs.Tryz.f125.ntmps (lp_125 N) c_125 0 (fnK (X_125 N) Go.Proofs.Tryz.f125.results.toList 0 [.one (.d (.bool))]) (fnSt 1 0 [.one (.d (.int .i64))] x1) := by kernel_rfl
noncomputable def S_125 (N : Nat) : Sum := fnSum 1 0 1 [.one (.d (.int .i64))] [.one (.d (.bool))] (fun p => f_125 N p)
theorem s_125 (N : Nat) : SumOk Go.Proofs.Tryz.prog laidL 125 (S_125 N) :=
  fn_ok (lp := lp_125 N) (x_125 N) Go.Proofs.Tryz.func125 (c := c_125) (by kernel_rfl) (by kernel_rfl) rfl (fun p => ok_125 N p) (loopsAll (by kernel_rfl) (lookOk_nil))
noncomputable def X_130 (_ : Nat) : Ctx := ⟨tyT, lookF [], eqT, fun _ => false⟩
noncomputable def c_130 : Code := bodyOf Go.Proofs.Tryz.f130
theorem x_130 (N : Nat) : CtxOk Go.Proofs.Tryz.prog laidL (X_130 N) := ⟨tyOk, eqOk, fun _ _ => fnsOk_nil.get, by kernel_rfl⟩
noncomputable def nd_130_0 : Code := loopAt 0 0 c_130
noncomputable def cb_130_0 : Code := unloop nd_130_0
theorem ne_130_0 : nd_130_0 = .loop cb_130_0 := by kernel_rfl
noncomputable def sh_130_0 : List ShA := [.one (.d (.int .u32)), .one (.d (.int .i64))]
noncomputable def o_130_0 : OutK 0 (TAs [.one (.d (.int .u32))]) := (outOne 0 (.exit 0) [0] [] [.one (.d (.int .u32))])
noncomputable def b_130_0 (_ : Nat) (ih : TAs sh_130_0 → Option (TAs [.one (.d (.int .u32))])) : TAs sh_130_0 → Option (TAs [.one (.d (.int .u32))]) := fun (y3, y4) =>
  (bif (decide (y4 < 8)) then (bif ((ibits .and .u32 y3 1) == 1) then (ih ((ibits .xor .u32 (y3 / 2 ^ (min (Int.toNat 1) IntKind.u32.bits)) 3988292384), (IntKind.i64.wrap (y4 + 1)))) else (ih ((y3 / 2 ^ (min (Int.toNat 1) IntKind.u32.bits)), (IntKind.i64.wrap (y4 + 1))))) else (some (y3)))
noncomputable def l_130_0 (N : Nat) : TAs sh_130_0 → Option (TAs [.one (.d (.int .u32))]) := iter (b_130_0 N) N
noncomputable def lp_130_0 (_ : Nat) : Nat → Option LSum := lookL []
noncomputable def L_130_0 (N : Nat) : LSum := loopSum [0, 9] [] sh_130_0 o_130_0 (l_130_0 N)
theorem b_ok_130_0 (N : Nat) (ih : TAs sh_130_0 → Option (TAs [.one (.d (.int .u32))])) (p : TAs sh_130_0) : b_130_0 N ih p = exec (X_130 N) Go.Proofs.Tryz.f130.ntmps (lp_130_0 N) cb_130_0 0 (roundK [0, 9] [] sh_130_0 o_130_0 ih) (stOf [0, 9] [] sh_130_0 p) := by kernel_rfl
theorem L_ok_130_0 (N : Nat) : SegOk Go.Proofs.Tryz.prog laidL 0 Go.Proofs.Tryz.f130.ntmps nd_130_0 (L_130_0 N) :=
  ne_130_0 ▸ loop_ok (cur := 0) (lp := lp_130_0 N) (x_130 N) (fun n => iter (b_130_0 N) n) (fun _ => rfl) (fun n p => b_ok_130_0 N (iter (b_130_0 N) n) p) (loopsAll (by kernel_rfl) (lookOk_nil)) N
noncomputable def lp_130 (N : Nat) : Nat → Option LSum := lookL [(0, L_130_0 N)]
noncomputable def f_130 (N : Nat) (x1 : Int) (x2 : Int) : Option (TAs [.one (.d (.int .u32))]) :=
  ((l_130_0 N ((ibits .xor .u32 x1 (IntKind.u32.wrap x2)), 0)).bind fun q5 => (some q5))
theorem ok_130 (N : Nat) (x1 : Int) (x2 : Int) : f_130 N x1 x2 = exec (X_130 N) Go.Proofs.Tryz.f130.ntmps (lp_130 N) c_130 0 (fnK (X_130 N) Go.Proofs.Tryz.f130.results.toList 0 [.one (.d (.int .u32))]) (fnSt 2 0 [.one (.d (.int .u32)), .one (.d (.int .u8))] (x1, x2)) := by kernel_rfl
noncomputable def S_130 (N : Nat) : Sum := fnSum 2 0 1 [.one (.d (.int .u32)), .one (.d (.int .u8))] [.one (.d (.int .u32))] (fun p => f_130 N p.1 p.2)
theorem s_130 (N : Nat) : SumOk Go.Proofs.Tryz.prog laidL 130 (S_130 N) :=
  fn_ok (lp := lp_130 N) (x_130 N) Go.Proofs.Tryz.func130 (c := c_130) (by kernel_rfl) (by kernel_rfl) rfl (fun p => ok_130 N p.1 p.2) (loopsAll (by kernel_rfl) ((lookOk_cons (L_ok_130_0 N) lookOk_nil)))
noncomputable def X_138 (_ : Nat) : Ctx := ⟨tyT, lookF [], eqT, fun _ => false⟩
noncomputable def c_138 : Code := bodyOf Go.Proofs.Tryz.f138
theorem x_138 (N : Nat) : CtxOk Go.Proofs.Tryz.prog laidL (X_138 N) := ⟨tyOk, eqOk, fun _ _ => fnsOk_nil.get, by kernel_rfl⟩
noncomputable def lp_138 (_ : Nat) : Nat → Option LSum := lookL []
noncomputable def f_138 (_ : Nat) (x1 : Int) (x2 : Int) : Option (TAs [.one (.d (.int .i64)), .one (.d (.err 93))]) :=
  (bif (!((decide ((IntKind.i64.wrap (x1 - x2)) > x1)) == (decide (x2 < 0)))) then (some (0, (some 2))) else (some ((IntKind.i64.wrap (x1 - x2)), none)))
theorem ok_138 (N : Nat) (x1 : Int) (x2 : Int) : f_138 N x1 x2 = exec (X_138 N) Go.Proofs.Tryz.f138.ntmps (lp_138 N) c_138 0 (fnK (X_138 N) Go.Proofs.Tryz.f138.results.toList 0 [.one (.d (.int .i64)), .one (.d (.err 93))]) (fnSt 2 0 [.one (.d (.int .i64)), .one (.d (.int .i64))] (x1, x2)) := by kernel_rfl
noncomputable def S_138 (N : Nat) : Sum := fnSum 2 0 2 [.one (.d (.int .i64)), .one (.d (.int .i64))] [.one (.d (.int .i64)), .one (.d (.err 93))] (fun p => f_138 N p.1 p.2)
theorem s_138 (N : Nat) : SumOk Go.Proofs.Tryz.prog laidL 138 (S_138 N) :=
  fn_ok (lp := lp_138 N) (x_138 N) Go.Proofs.Tryz.func138 (c := c_138) (by kernel_rfl) (by kernel_rfl) rfl (fun p => ok_138 N p.1 p.2) (loopsAll (by kernel_rfl) (lookOk_nil))
noncomputable def X_139 (_ : Nat) : Ctx := ⟨tyT, lookF [], eqT, fun _ => false⟩
noncomputable def c_139 : Code := bodyOf Go.Proofs.Tryz.f139
theorem x_139 (N : Nat) : CtxOk Go.Proofs.Tryz.prog laidL (X_139 N) := ⟨tyOk, eqOk, fun _ _ => fnsOk_nil.get, by kernel_rfl⟩
noncomputable def lp_139 (_ : Nat) : Nat → Option LSum := lookL []
noncomputable def f_139 (_ : Nat) (x1 : Bool) : Option (TAs [.one (.d (.int .i64))]) :=
  (bif x1 then (some (-9223372036854775808)) else (some 9223372036854775807))
theorem ok_139 (N : Nat) (x1 : Bool) : f_139 N x1 = exec (X_139 N) Go.Proofs.Tryz.f139.ntmps (lp_139 N) c_139 0 (fnK (X_139 N) Go.Proofs.Tryz.f139.results.toList 0 [.one (.d (.int .i64))]) (fnSt 1 0 [.one (.d (.bool))] x1) := by kernel_rfl
noncomputable def S_139 (N : Nat) : Sum := fnSum 1 0 1 [.one (.d (.bool))] [.one (.d (.int .i64))] (fun p => f_139 N p)
theorem s_139 (N : Nat) : SumOk Go.Proofs.Tryz.prog laidL 139 (S_139 N) :=
  fn_ok (lp := lp_139 N) (x_139 N) Go.Proofs.Tryz.func139 (c := c_139) (by kernel_rfl) (by kernel_rfl) rfl (fun p => ok_139 N p) (loopsAll (by kernel_rfl) (lookOk_nil))
noncomputable def X_7 (N : Nat) : Ctx := ⟨tyT, lookF [(24, (S_24 N))], eqT, fun _ => false⟩
noncomputable def c_7 : Code := bodyOf Go.Proofs.Tryz.f7
theorem x_7 (N : Nat) : CtxOk Go.Proofs.Tryz.prog laidL (X_7 N) := ⟨tyOk, eqOk, fun _ _ => (fnsOk_cons (s_24 N) fnsOk_nil).get, by kernel_rfl⟩
noncomputable def lp_7 (_ : Nat) : Nat → Option LSum := lookL []
noncomputable def f_7 (N : Nat) (x1 : ByteArray) (_x2 : List Int) (_x3 : Int) (_x4 : Int) (_x5 : Int) (_x6 : Int) (_x7 : Int) (_x8 : Int) (_x9 : Bool) (x10 : ByteArray) (x11 : Int) (x12 : List (Int × Int × ByteArray)) (_x13 : Bool) (_x14 : Int) (_x15 : Int) (_x16 : Bool) (_x17 : Int) (_x18 : Int) : Option (TAs [.one (.d (.bool))]) :=
  ((f_24 N x10 x11 x12).bind fun r19 => (bif r19 then (some true) else (some (decide ((ByteArray.size x1 : Int) > 100)))))
theorem ok_7 (N : Nat) (x1 : ByteArray) (x2 : List Int) (x3 : Int) (x4 : Int) (x5 : Int) (x6 : Int) (x7 : Int) (x8 : Int) (x9 : Bool) (x10 : ByteArray) (x11 : Int) (x12 : List (Int × Int × ByteArray)) (x13 : Bool) (x14 : Int) (x15 : Int) (x16 : Bool) (x17 : Int) (x18 : Int) : f_7 N x1 x2 x3 x4 x5 x6 x7 x8 x9 x10 x11 x12 x13 x14 x15 x16 x17 x18 = exec (X_7 N) Go.Proofs.Tryz.f7.ntmps (lp_7 N) c_7 0 (fnK (X_7 N) Go.Proofs.Tryz.f7.results.toList 0 [.one (.d (.bool))]) (fnSt 1 0 [.agg [.d (.str), .d (.arr .u8 16), .d (.int .i64), .d (.int .i64), .d (.int .i64), .d (.int .i64), .d (.int .i64), .d (.int .i64), .d (.bool), .d (.str), .d (.int .i64), .d (.sl [.int .i64, .int .i64, .str]), .d (.bool), .d (.int .i64), .d (.int .i64), .d (.bool), .d (.int .i64), .d (.int .i64)]] (x1, x2, x3, x4, x5, x6, x7, x8, x9, x10, x11, x12, x13, x14, x15, x16, x17, x18)) := by kernel_rfl
noncomputable def S_7 (N : Nat) : Sum := fnSum 1 0 1 [.agg [.d (.str), .d (.arr .u8 16), .d (.int .i64), .d (.int .i64), .d (.int .i64), .d (.int .i64), .d (.int .i64), .d (.int .i64), .d (.bool), .d (.str), .d (.int .i64), .d (.sl [.int .i64, .int .i64, .str]), .d (.bool), .d (.int .i64), .d (.int .i64), .d (.bool), .d (.int .i64), .d (.int .i64)]] [.one (.d (.bool))] (fun p => f_7 N p.1 p.2.1 p.2.2.1 p.2.2.2.1 p.2.2.2.2.1 p.2.2.2.2.2.1 p.2.2.2.2.2.2.1 p.2.2.2.2.2.2.2.1 p.2.2.2.2.2.2.2.2.1 p.2.2.2.2.2.2.2.2.2.1 p.2.2.2.2.2.2.2.2.2.2.1 p.2.2.2.2.2.2.2.2.2.2.2.1 p.2.2.2.2.2.2.2.2.2.2.2.2.1 p.2.2.2.2.2.2.2.2.2.2.2.2.2.1 p.2.2.2.2.2.2.2.2.2.2.2.2.2.2.1 p.2.2.2.2.2.2.2.2.2.2.2.2.2.2.2.1 p.2.2.2.2.2.2.2.2.2.2.2.2.2.2.2.2.1 p.2.2.2.2.2.2.2.2.2.2.2.2.2.2.2.2.2)
theorem s_7 (N : Nat) : SumOk Go.Proofs.Tryz.prog laidL 7 (S_7 N) :=
  fn_ok (lp := lp_7 N) (x_7 N) Go.Proofs.Tryz.func7 (c := c_7) (by kernel_rfl) (by kernel_rfl) rfl (fun p => ok_7 N p.1 p.2.1 p.2.2.1 p.2.2.2.1 p.2.2.2.2.1 p.2.2.2.2.2.1 p.2.2.2.2.2.2.1 p.2.2.2.2.2.2.2.1 p.2.2.2.2.2.2.2.2.1 p.2.2.2.2.2.2.2.2.2.1 p.2.2.2.2.2.2.2.2.2.2.1 p.2.2.2.2.2.2.2.2.2.2.2.1 p.2.2.2.2.2.2.2.2.2.2.2.2.1 p.2.2.2.2.2.2.2.2.2.2.2.2.2.1 p.2.2.2.2.2.2.2.2.2.2.2.2.2.2.1 p.2.2.2.2.2.2.2.2.2.2.2.2.2.2.2.1 p.2.2.2.2.2.2.2.2.2.2.2.2.2.2.2.2.1 p.2.2.2.2.2.2.2.2.2.2.2.2.2.2.2.2.2) (loopsAll (by kernel_rfl) (lookOk_nil))
noncomputable def X_34 (N : Nat) : Ctx := ⟨tyT, lookF [(35, (S_35 N))], eqT, fun _ => false⟩
noncomputable def c_34 : Code := bodyOf Go.Proofs.Tryz.f34
theorem x_34 (N : Nat) : CtxOk Go.Proofs.Tryz.prog laidL (X_34 N) := ⟨tyOk, eqOk, fun _ _ => (fnsOk_cons (s_35 N) fnsOk_nil).get, by kernel_rfl⟩
noncomputable def lp_34 (_ : Nat) : Nat → Option LSum := lookL []
noncomputable def f_34 (N : Nat) (x1 : List Int) (x2 : ByteArray) : Option (TAs [.one (.slt [.int .u8] 5 1), .one (.d (.int .i64))]) :=
  (bif (decide ((ByteArray.size x2 : Int) > 255)) then (some (([] : List Int), 5)) else ((f_35 N x1 (IntKind.u64.wrap (ByteArray.size x2 : Int)) 1).bind fun r3 => (bif (decide (ByteArray.size x2 ≤ 140737488355328)) then (bif (decide ((List.length r3 + List.length (bytesL x2)) * 1 ≤ 140737488355328)) then (some ((r3 ++ (bytesL x2)), 0)) else none) else none)))
theorem ok_34 (N : Nat) (x1 : List Int) (x2 : ByteArray) : f_34 N x1 x2 = exec (X_34 N) Go.Proofs.Tryz.f34.ntmps (lp_34 N) c_34 0 (fnK (X_34 N) Go.Proofs.Tryz.f34.results.toList 0 [.one (.slt [.int .u8] 5 1), .one (.d (.int .i64))]) (fnSt 2 0 [.one (.d (.sl [.int .u8])), .one (.d (.str))] (x1, x2)) := by kernel_rfl
noncomputable def S_34 (N : Nat) : Sum := fnSum 2 0 2 [.one (.d (.sl [.int .u8])), .one (.d (.str))] [.one (.slt [.int .u8] 5 1), .one (.d (.int .i64))] (fun p => f_34 N p.1 p.2)
theorem s_34 (N : Nat) : SumOk Go.Proofs.Tryz.prog laidL 34 (S_34 N) :=
  fn_ok (lp := lp_34 N) (x_34 N) Go.Proofs.Tryz.func34 (c := c_34) (by kernel_rfl) (by kernel_rfl) rfl (fun p => ok_34 N p.1 p.2) (loopsAll (by kernel_rfl) (lookOk_nil))
noncomputable def X_38 (_ : Nat) : Ctx := ⟨tyT, lookF [(71, cl_71)], eqT, fun _ => false⟩
noncomputable def c_38 : Code := bodyOf Go.Proofs.Tryz.f38
theorem x_38 (N : Nat) : CtxOk Go.Proofs.Tryz.prog laidL (X_38 N) := ⟨tyOk, eqOk, fun _ _ => (fnsOk_cons cl_71_ok fnsOk_nil).get, by kernel_rfl⟩
noncomputable def lp_38 (_ : Nat) : Nat → Option LSum := lookL []
noncomputable def f_38 (_ : Nat) (x1 : List Int) : Option (TAs [.one (.ptr 0 0), .agg [.slt [.int .u8] 5 1, .d (.bool)]]) :=
  ((cloneF [.int .u8] 1 x1).bind fun r2 => (some ((), (r2, false))))
theorem ok_38 (N : Nat) (x1 : List Int) : f_38 N x1 = exec (X_38 N) Go.Proofs.Tryz.f38.ntmps (lp_38 N) c_38 0 (fnK (X_38 N) Go.Proofs.Tryz.f38.results.toList 0 [.one (.ptr 0 0), .agg [.slt [.int .u8] 5 1, .d (.bool)]]) (fnSt 1 0 [.one (.d (.sl [.int .u8]))] x1) := by kernel_rfl
noncomputable def S_38 (N : Nat) : Sum := fnSum 1 0 1 [.one (.d (.sl [.int .u8]))] [.one (.ptr 0 0), .agg [.slt [.int .u8] 5 1, .d (.bool)]] (fun p => f_38 N p)
theorem s_38 (N : Nat) : SumOk Go.Proofs.Tryz.prog laidL 38 (S_38 N) :=
  fn_ok (lp := lp_38 N) (x_38 N) Go.Proofs.Tryz.func38 (c := c_38) (by kernel_rfl) (by kernel_rfl) rfl (fun p => ok_38 N p) (loopsAll (by kernel_rfl) (lookOk_nil))
noncomputable def X_41 (N : Nat) : Ctx := ⟨tyT, lookF [(39, (S_39 N)), (73, (S_73 N))], eqT, fun _ => false⟩
noncomputable def c_41 : Code := bodyOf Go.Proofs.Tryz.f41
theorem x_41 (N : Nat) : CtxOk Go.Proofs.Tryz.prog laidL (X_41 N) := ⟨tyOk, eqOk, fun _ _ => (fnsOk_cons (s_39 N) (fnsOk_cons (s_73 N) fnsOk_nil)).get, by kernel_rfl⟩
noncomputable def lp_41 (_ : Nat) : Nat → Option LSum := lookL []
noncomputable def f_41 (N : Nat) (x1 : List Int) (x2 : Bool) : Option (TAs [.one (.d (.str)), .agg [.d (.sl [.int .u8]), .d (.bool)]]) :=
  ((f_39 N x1 x2).bind fun r3 => ((f_73 N (IntKind.i64.wrap r3.1) r3.2.1 r3.2.2).bind fun r4 => (some ((bytesS r4.1), (r4.2.1, r4.2.2)))))
theorem ok_41 (N : Nat) (x1 : List Int) (x2 : Bool) : f_41 N x1 x2 = exec (X_41 N) Go.Proofs.Tryz.f41.ntmps (lp_41 N) c_41 0 (fnK (X_41 N) Go.Proofs.Tryz.f41.results.toList 1 [.one (.d (.str)), .agg [.d (.sl [.int .u8]), .d (.bool)]]) (fnSt 1 1 [.one (.ptr 0 0), .agg [.d (.sl [.int .u8]), .d (.bool)]] ((), (x1, x2))) := by kernel_rfl
noncomputable def S_41 (N : Nat) : Sum := fnSum 1 1 1 [.one (.ptr 0 0), .agg [.d (.sl [.int .u8]), .d (.bool)]] [.one (.d (.str)), .agg [.d (.sl [.int .u8]), .d (.bool)]] (fun p => f_41 N p.2.1 p.2.2)
theorem s_41 (N : Nat) : SumOk Go.Proofs.Tryz.prog laidL 41 (S_41 N) :=
  fn_ok (lp := lp_41 N) (x_41 N) Go.Proofs.Tryz.func41 (c := c_41) (by kernel_rfl) (by kernel_rfl) rfl (fun p => ok_41 N p.2.1 p.2.2) (loopsAll (by kernel_rfl) (lookOk_nil))
noncomputable def X_49 (N : Nat) : Ctx := ⟨tyT, lookF [(79, (S_79 N))], eqT, fun _ => false⟩
noncomputable def c_49 : Code := bodyOf Go.Proofs.Tryz.f49
theorem x_49 (N : Nat) : CtxOk Go.Proofs.Tryz.prog laidL (X_49 N) := ⟨tyOk, eqOk, fun _ _ => (fnsOk_cons (s_79 N) fnsOk_nil).get, by kernel_rfl⟩
noncomputable def lp_49 (_ : Nat) : Nat → Option LSum := lookL []
noncomputable def f_49 (N : Nat) (x1 : Int) (x2 : Int) (x3 : Int) (x4 : Int) (x5 : Int) (x6 : Int) (x7 : Bool) (x8 : ByteArray) (x9 : Int) (x10 : List (Int × Int × ByteArray)) : Option (TAs [.agg [.d (.int .i64), .d (.int .i64), .d (.int .i64), .d (.int .i64), .d (.int .i64), .d (.int .i64), .d (.bool), .d (.str), .d (.int .i64), .slt [.int .i64, .int .i64, .str] 177 3]]) :=
  ((f_79 N x8 x9 x10).bind fun r11 => (some (x1, x2, x3, x4, x5, x6, x7, r11.1, r11.2.1, r11.2.2)))
theorem ok_49 (N : Nat) (x1 : Int) (x2 : Int) (x3 : Int) (x4 : Int) (x5 : Int) (x6 : Int) (x7 : Bool) (x8 : ByteArray) (x9 : Int) (x10 : List (Int × Int × ByteArray)) : f_49 N x1 x2 x3 x4 x5 x6 x7 x8 x9 x10 = exec (X_49 N) Go.Proofs.Tryz.f49.ntmps (lp_49 N) c_49 0 (fnK (X_49 N) Go.Proofs.Tryz.f49.results.toList 0 [.agg [.d (.int .i64), .d (.int .i64), .d (.int .i64), .d (.int .i64), .d (.int .i64), .d (.int .i64), .d (.bool), .d (.str), .d (.int .i64), .slt [.int .i64, .int .i64, .str] 177 3]]) (fnSt 1 0 [.agg [.d (.int .i64), .d (.int .i64), .d (.int .i64), .d (.int .i64), .d (.int .i64), .d (.int .i64), .d (.bool), .d (.str), .d (.int .i64), .d (.sl [.int .i64, .int .i64, .str])]] (x1, x2, x3, x4, x5, x6, x7, x8, x9, x10)) := by kernel_rfl
noncomputable def S_49 (N : Nat) : Sum := fnSum 1 0 1 [.agg [.d (.int .i64), .d (.int .i64), .d (.int .i64), .d (.int .i64), .d (.int .i64), .d (.int .i64), .d (.bool), .d (.str), .d (.int .i64), .d (.sl [.int .i64, .int .i64, .str])]] [.agg [.d (.int .i64), .d (.int .i64), .d (.int .i64), .d (.int .i64), .d (.int .i64), .d (.int .i64), .d (.bool), .d (.str), .d (.int .i64), .slt [.int .i64, .int .i64, .str] 177 3]] (fun p => f_49 N p.1 p.2.1 p.2.2.1 p.2.2.2.1 p.2.2.2.2.1 p.2.2.2.2.2.1 p.2.2.2.2.2.2.1 p.2.2.2.2.2.2.2.1 p.2.2.2.2.2.2.2.2.1 p.2.2.2.2.2.2.2.2.2)
theorem s_49 (N : Nat) : SumOk Go.Proofs.Tryz.prog laidL 49 (S_49 N) :=
  fn_ok (lp := lp_49 N) (x_49 N) Go.Proofs.Tryz.func49 (c := c_49) (by kernel_rfl) (by kernel_rfl) rfl (fun p => ok_49 N p.1 p.2.1 p.2.2.1 p.2.2.2.1 p.2.2.2.2.1 p.2.2.2.2.2.1 p.2.2.2.2.2.2.1 p.2.2.2.2.2.2.2.1 p.2.2.2.2.2.2.2.2.1 p.2.2.2.2.2.2.2.2.2) (loopsAll (by kernel_rfl) (lookOk_nil))
noncomputable def X_57 (N : Nat) : Ctx := ⟨tyT, lookF [(90, (S_90 N))], eqT, fun _ => false⟩
noncomputable def c_57 : Code := bodyOf Go.Proofs.Tryz.f57
theorem x_57 (N : Nat) : CtxOk Go.Proofs.Tryz.prog laidL (X_57 N) := ⟨tyOk, eqOk, fun _ _ => (fnsOk_cons (s_90 N) fnsOk_nil).get, by kernel_rfl⟩
noncomputable def lp_57 (_ : Nat) : Nat → Option LSum := lookL []
noncomputable def f_57 (N : Nat) (x1 : Int) (x2 : Int) (x3 : Int) (x4 : Int) (x5 : Int) (x6 : Int) (x7 : Bool) (x8 : ByteArray) (x9 : Int) (x10 : List (Int × Int × ByteArray)) (x11 : Int) (x12 : Int) (x13 : Int) (x14 : Int) (x15 : Int) (x16 : Int) (x17 : Bool) (x18 : ByteArray) (x19 : Int) (x20 : List (Int × Int × ByteArray)) : Option (TAs [.one (.d (.bool))]) :=
  (bif ((x1 == x11) && ((x2 == x12) && (x3 == x13))) then (bif (x4 == x14) then (bif ((x5 == x15) && (x6 == x16)) then (bif (x7 == x17) then ((f_90 N x8 x9 x10 x18 x19 x20).bind fun r21 => (some r21)) else (some false)) else (some false)) else (some false)) else (some false))
theorem ok_57 (N : Nat) (x1 : Int) (x2 : Int) (x3 : Int) (x4 : Int) (x5 : Int) (x6 : Int) (x7 : Bool) (x8 : ByteArray) (x9 : Int) (x10 : List (Int × Int × ByteArray)) (x11 : Int) (x12 : Int) (x13 : Int) (x14 : Int) (x15 : Int) (x16 : Int) (x17 : Bool) (x18 : ByteArray) (x19 : Int) (x20 : List (Int × Int × ByteArray)) : f_57 N x1 x2 x3 x4 x5 x6 x7 x8 x9 x10 x11 x12 x13 x14 x15 x16 x17 x18 x19 x20 = exec (X_57 N) Go.Proofs.Tryz.f57.ntmps (lp_57 N) c_57 0 (fnK (X_57 N) Go.Proofs.Tryz.f57.results.toList 0 [.one (.d (.bool))]) (fnSt 2 0 [.agg [.d (.int .i64), .d (.int .i64), .d (.int .i64), .d (.int .i64), .d (.int .i64), .d (.int .i64), .d (.bool), .d (.str), .d (.int .i64), .d (.sl [.int .i64, .int .i64, .str])], .agg [.d (.int .i64), .d (.int .i64), .d (.int .i64), .d (.int .i64), .d (.int .i64), .d (.int .i64), .d (.bool), .d (.str), .d (.int .i64), .d (.sl [.int .i64, .int .i64, .str])]] ((x1, x2, x3, x4, x5, x6, x7, x8, x9, x10), (x11, x12, x13, x14, x15, x16, x17, x18, x19, x20))) := by kernel_rfl
noncomputable def S_57 (N : Nat) : Sum := fnSum 2 0 1 [.agg [.d (.int .i64), .d (.int .i64), .d (.int .i64), .d (.int .i64), .d (.int .i64), .d (.int .i64), .d (.bool), .d (.str), .d (.int .i64), .d (.sl [.int .i64, .int .i64, .str])], .agg [.d (.int .i64), .d (.int .i64), .d (.int .i64), .d (.int .i64), .d (.int .i64), .d (.int .i64), .d (.bool), .d (.str), .d (.int .i64), .d (.sl [.int .i64, .int .i64, .str])]] [.one (.d (.bool))] (fun p => f_57 N p.1.1 p.1.2.1 p.1.2.2.1 p.1.2.2.2.1 p.1.2.2.2.2.1 p.1.2.2.2.2.2.1 p.1.2.2.2.2.2.2.1 p.1.2.2.2.2.2.2.2.1 p.1.2.2.2.2.2.2.2.2.1 p.1.2.2.2.2.2.2.2.2.2 p.2.1 p.2.2.1 p.2.2.2.1 p.2.2.2.2.1 p.2.2.2.2.2.1 p.2.2.2.2.2.2.1 p.2.2.2.2.2.2.2.1 p.2.2.2.2.2.2.2.2.1 p.2.2.2.2.2.2.2.2.2.1 p.2.2.2.2.2.2.2.2.2.2)
theorem s_57 (N : Nat) : SumOk Go.Proofs.Tryz.prog laidL 57 (S_57 N) :=
  fn_ok (lp := lp_57 N) (x_57 N) Go.Proofs.Tryz.func57 (c := c_57) (by kernel_rfl) (by kernel_rfl) rfl (fun p => ok_57 N p.1.1 p.1.2.1 p.1.2.2.1 p.1.2.2.2.1 p.1.2.2.2.2.1 p.1.2.2.2.2.2.1 p.1.2.2.2.2.2.2.1 p.1.2.2.2.2.2.2.2.1 p.1.2.2.2.2.2.2.2.2.1 p.1.2.2.2.2.2.2.2.2.2 p.2.1 p.2.2.1 p.2.2.2.1 p.2.2.2.2.1 p.2.2.2.2.2.1 p.2.2.2.2.2.2.1 p.2.2.2.2.2.2.2.1 p.2.2.2.2.2.2.2.2.1 p.2.2.2.2.2.2.2.2.2.1 p.2.2.2.2.2.2.2.2.2.2) (loopsAll (by kernel_rfl) (lookOk_nil))
noncomputable def X_62 (_ : Nat) : Ctx := ⟨tyT, lookF [(71, cl_71)], eqT, fun _ => false⟩
noncomputable def c_62 : Code := bodyOf Go.Proofs.Tryz.f62
theorem x_62 (N : Nat) : CtxOk Go.Proofs.Tryz.prog laidL (X_62 N) := ⟨tyOk, eqOk, fun _ _ => (fnsOk_cons cl_71_ok fnsOk_nil).get, by kernel_rfl⟩
noncomputable def nd_62_0 : Code := loopAt 0 0 c_62
noncomputable def cb_62_0 : Code := unloop nd_62_0
theorem ne_62_0 : nd_62_0 = .loop cb_62_0 := by kernel_rfl
noncomputable def sh_62_0 : List ShA := [.one (.d (.int .u64)), .one (.slt [.int .u8] 5 1), .one (.d (.int .i64)), .one (.d (.int .i64))]
noncomputable def o_62_0 : OutK 0 (TAs [.one (.slt [.int .u8] 5 1)]) := (outOne 0 (.exit 0) [7] [] [.one (.slt [.int .u8] 5 1)])
noncomputable def b_62_0 (_ : Nat) (ih : TAs sh_62_0 → Option (TAs [.one (.slt [.int .u8] 5 1)])) : TAs sh_62_0 → Option (TAs [.one (.slt [.int .u8] 5 1)]) := fun (y5, y6, y7, y8) =>
  (bif (decide (y8 < y7)) then (bif (decide ((IntKind.i64.wrap (8 * y8)) < 0)) then none else (bif (decide ((List.length y6 + List.length ([(IntKind.u8.wrap (y5 / 2 ^ (min (Int.toNat (IntKind.i64.wrap (8 * y8))) IntKind.u64.bits)))] : List Int)) * 1 ≤ 140737488355328)) then (ih (y5, (y6 ++ ([(IntKind.u8.wrap (y5 / 2 ^ (min (Int.toNat (IntKind.i64.wrap (8 * y8))) IntKind.u64.bits)))] : List Int)), y7, (IntKind.i64.wrap (y8 + 1)))) else none)) else (some (y6)))
noncomputable def l_62_0 (N : Nat) : TAs sh_62_0 → Option (TAs [.one (.slt [.int .u8] 5 1)]) := iter (b_62_0 N) N
noncomputable def lp_62_0 (_ : Nat) : Nat → Option LSum := lookL []
noncomputable def L_62_0 (N : Nat) : LSum := loopSum [1, 7, 11, 12] [] sh_62_0 o_62_0 (l_62_0 N)
theorem b_ok_62_0 (N : Nat) (ih : TAs sh_62_0 → Option (TAs [.one (.slt [.int .u8] 5 1)])) (p : TAs sh_62_0) : b_62_0 N ih p = exec (X_62 N) Go.Proofs.Tryz.f62.ntmps (lp_62_0 N) cb_62_0 0 (roundK [1, 7, 11, 12] [] sh_62_0 o_62_0 ih) (stOf [1, 7, 11, 12] [] sh_62_0 p) := by kernel_rfl
theorem L_ok_62_0 (N : Nat) : SegOk Go.Proofs.Tryz.prog laidL 0 Go.Proofs.Tryz.f62.ntmps nd_62_0 (L_62_0 N) :=
  ne_62_0 ▸ loop_ok (cur := 0) (lp := lp_62_0 N) (x_62 N) (fun n => iter (b_62_0 N) n) (fun _ => rfl) (fun n p => b_ok_62_0 N (iter (b_62_0 N) n) p) (loopsAll (by kernel_rfl) (lookOk_nil)) N
noncomputable def lp_62 (N : Nat) : Nat → Option LSum := lookL [(0, L_62_0 N)]
noncomputable def f_62 (N : Nat) (x1 : List Int) (x2 : Int) (x3 : Int) : Option (TAs [.one (.slt [.int .u8] 5 1)]) :=
  ((cloneF [.int .u8] 1 x1).bind fun r4 => ((l_62_0 N (x2, r4, x3, 0)).bind fun q9 => (some q9)))
theorem ok_62 (N : Nat) (x1 : List Int) (x2 : Int) (x3 : Int) : f_62 N x1 x2 x3 = exec (X_62 N) Go.Proofs.Tryz.f62.ntmps (lp_62 N) c_62 0 (fnK (X_62 N) Go.Proofs.Tryz.f62.results.toList 0 [.one (.slt [.int .u8] 5 1)]) (fnSt 3 0 [.one (.d (.sl [.int .u8])), .one (.d (.int .u64)), .one (.d (.int .i64))] (x1, x2, x3)) := by kernel_rfl
noncomputable def S_62 (N : Nat) : Sum := fnSum 3 0 1 [.one (.d (.sl [.int .u8])), .one (.d (.int .u64)), .one (.d (.int .i64))] [.one (.slt [.int .u8] 5 1)] (fun p => f_62 N p.1 p.2.1 p.2.2)
theorem s_62 (N : Nat) : SumOk Go.Proofs.Tryz.prog laidL 62 (S_62 N) :=
  fn_ok (lp := lp_62 N) (x_62 N) Go.Proofs.Tryz.func62 (c := c_62) (by kernel_rfl) (by kernel_rfl) rfl (fun p => ok_62 N p.1 p.2.1 p.2.2) (loopsAll (by kernel_rfl) ((lookOk_cons (L_ok_62_0 N) lookOk_nil)))
noncomputable def X_65 (N : Nat) : Ctx := ⟨tyT, lookF [(62, (S_62 N))], eqT, fun _ => false⟩
noncomputable def c_65 : Code := bodyOf Go.Proofs.Tryz.f65
theorem x_65 (N : Nat) : CtxOk Go.Proofs.Tryz.prog laidL (X_65 N) := ⟨tyOk, eqOk, fun _ _ => (fnsOk_cons (s_62 N) fnsOk_nil).get, by kernel_rfl⟩
noncomputable def lp_65 (_ : Nat) : Nat → Option LSum := lookL []
noncomputable def f_65 (N : Nat) (x1 : List Int) (x2 : Int) : Option (TAs [.one (.slt [.int .u8] 5 1)]) :=
  ((f_62 N x1 (IntKind.u64.wrap x2) 2).bind fun r3 => (some r3))
theorem ok_65 (N : Nat) (x1 : List Int) (x2 : Int) : f_65 N x1 x2 = exec (X_65 N) Go.Proofs.Tryz.f65.ntmps (lp_65 N) c_65 0 (fnK (X_65 N) Go.Proofs.Tryz.f65.results.toList 0 [.one (.slt [.int .u8] 5 1)]) (fnSt 2 0 [.one (.d (.sl [.int .u8])), .one (.d (.int .u16))] (x1, x2)) := by kernel_rfl
noncomputable def S_65 (N : Nat) : Sum := fnSum 2 0 1 [.one (.d (.sl [.int .u8])), .one (.d (.int .u16))] [.one (.slt [.int .u8] 5 1)] (fun p => f_65 N p.1 p.2)
theorem s_65 (N : Nat) : SumOk Go.Proofs.Tryz.prog laidL 65 (S_65 N) :=
  fn_ok (lp := lp_65 N) (x_65 N) Go.Proofs.Tryz.func65 (c := c_65) (by kernel_rfl) (by kernel_rfl) rfl (fun p => ok_65 N p.1 p.2) (loopsAll (by kernel_rfl) (lookOk_nil))
noncomputable def X_67 (N : Nat) : Ctx := ⟨tyT, lookF [(95, (S_95 N))], eqT, fun _ => false⟩
noncomputable def c_67 : Code := bodyOf Go.Proofs.Tryz.f67
theorem x_67 (N : Nat) : CtxOk Go.Proofs.Tryz.prog laidL (X_67 N) := ⟨tyOk, eqOk, fun _ _ => (fnsOk_cons (s_95 N) fnsOk_nil).get, by kernel_rfl⟩
noncomputable def lp_67 (_ : Nat) : Nat → Option LSum := lookL []
noncomputable def f_67 (N : Nat) (x1 : Int) (x2 : Int) (x3 : Int) (x4 : Int) (x5 : Int) (x6 : Int) (x7 : Bool) (x8 : ByteArray) (x9 : Int) (x10 : List (Int × Int × ByteArray)) (x11 : Int) (x12 : Int) (x13 : Int) (x14 : Int) (x15 : Int) (x16 : Int) (x17 : Bool) (x18 : ByteArray) (x19 : Int) (x20 : List (Int × Int × ByteArray)) : Option (TAs [.one (.d (.bool))]) :=
  (bif ((x1 == x11) && ((x2 == x12) && (x3 == x13))) then (bif (x4 == x14) then (bif ((x5 == x15) && (x6 == x16)) then (bif (x7 == x17) then (bif ((ByteArray.toList x8) == (ByteArray.toList x18)) then (bif (x9 == x19) then ((f_95 N x10 x20).bind fun r21 => (some r21)) else (some false)) else (some false)) else (some false)) else (some false)) else (some false)) else (some false))
theorem ok_67 (N : Nat) (x1 : Int) (x2 : Int) (x3 : Int) (x4 : Int) (x5 : Int) (x6 : Int) (x7 : Bool) (x8 : ByteArray) (x9 : Int) (x10 : List (Int × Int × ByteArray)) (x11 : Int) (x12 : Int) (x13 : Int) (x14 : Int) (x15 : Int) (x16 : Int) (x17 : Bool) (x18 : ByteArray) (x19 : Int) (x20 : List (Int × Int × ByteArray)) : f_67 N x1 x2 x3 x4 x5 x6 x7 x8 x9 x10 x11 x12 x13 x14 x15 x16 x17 x18 x19 x20 = exec (X_67 N) Go.Proofs.Tryz.f67.ntmps (lp_67 N) c_67 0 (fnK (X_67 N) Go.Proofs.Tryz.f67.results.toList 0 [.one (.d (.bool))]) (fnSt 2 0 [.agg [.d (.int .i64), .d (.int .i64), .d (.int .i64), .d (.int .i64), .d (.int .i64), .d (.int .i64), .d (.bool), .d (.str), .d (.int .i64), .d (.sl [.int .i64, .int .i64, .str])], .agg [.d (.int .i64), .d (.int .i64), .d (.int .i64), .d (.int .i64), .d (.int .i64), .d (.int .i64), .d (.bool), .d (.str), .d (.int .i64), .d (.sl [.int .i64, .int .i64, .str])]] ((x1, x2, x3, x4, x5, x6, x7, x8, x9, x10), (x11, x12, x13, x14, x15, x16, x17, x18, x19, x20))) := by kernel_rfl
noncomputable def S_67 (N : Nat) : Sum := fnSum 2 0 1 [.agg [.d (.int .i64), .d (.int .i64), .d (.int .i64), .d (.int .i64), .d (.int .i64), .d (.int .i64), .d (.bool), .d (.str), .d (.int .i64), .d (.sl [.int .i64, .int .i64, .str])], .agg [.d (.int .i64), .d (.int .i64), .d (.int .i64), .d (.int .i64), .d (.int .i64), .d (.int .i64), .d (.bool), .d (.str), .d (.int .i64), .d (.sl [.int .i64, .int .i64, .str])]] [.one (.d (.bool))] (fun p => f_67 N p.1.1 p.1.2.1 p.1.2.2.1 p.1.2.2.2.1 p.1.2.2.2.2.1 p.1.2.2.2.2.2.1 p.1.2.2.2.2.2.2.1 p.1.2.2.2.2.2.2.2.1 p.1.2.2.2.2.2.2.2.2.1 p.1.2.2.2.2.2.2.2.2.2 p.2.1 p.2.2.1 p.2.2.2.1 p.2.2.2.2.1 p.2.2.2.2.2.1 p.2.2.2.2.2.2.1 p.2.2.2.2.2.2.2.1 p.2.2.2.2.2.2.2.2.1 p.2.2.2.2.2.2.2.2.2.1 p.2.2.2.2.2.2.2.2.2.2)
theorem s_67 (N : Nat) : SumOk Go.Proofs.Tryz.prog laidL 67 (S_67 N) :=
  fn_ok (lp := lp_67 N) (x_67 N) Go.Proofs.Tryz.func67 (c := c_67) (by kernel_rfl) (by kernel_rfl) rfl (fun p => ok_67 N p.1.1 p.1.2.1 p.1.2.2.1 p.1.2.2.2.1 p.1.2.2.2.2.1 p.1.2.2.2.2.2.1 p.1.2.2.2.2.2.2.1 p.1.2.2.2.2.2.2.2.1 p.1.2.2.2.2.2.2.2.2.1 p.1.2.2.2.2.2.2.2.2.2 p.2.1 p.2.2.1 p.2.2.2.1 p.2.2.2.2.1 p.2.2.2.2.2.1 p.2.2.2.2.2.2.1 p.2.2.2.2.2.2.2.1 p.2.2.2.2.2.2.2.2.1 p.2.2.2.2.2.2.2.2.2.1 p.2.2.2.2.2.2.2.2.2.2) (loopsAll (by kernel_rfl) (lookOk_nil))
noncomputable def X_68 (N : Nat) : Ctx := ⟨tyT, lookF [(96, (S_96 N))], eqT, fun _ => false⟩
noncomputable def c_68 : Code := bodyOf Go.Proofs.Tryz.f68
theorem x_68 (N : Nat) : CtxOk Go.Proofs.Tryz.prog laidL (X_68 N) := ⟨tyOk, eqOk, fun _ _ => (fnsOk_cons (s_96 N) fnsOk_nil).get, by kernel_rfl⟩
noncomputable def nd_68_0 : Code := loopAt 0 0 c_68
noncomputable def cb_68_0 : Code := unloop nd_68_0
theorem ne_68_0 : nd_68_0 = .loop cb_68_0 := by kernel_rfl
noncomputable def sh_68_0 : List ShA := [.one (.d (.int .u32)), .one (.slt [.int .u8] 5 1), .one (.d (.int .i64))]
noncomputable def o_68_0 : OutK 0 (TAs [.one (.slt [.int .u8] 5 1)]) := (outOne 0 (.exit 0) [4] [] [.one (.slt [.int .u8] 5 1)])
noncomputable def b_68_0 (_ : Nat) (ih : TAs sh_68_0 → Option (TAs [.one (.slt [.int .u8] 5 1)])) : TAs sh_68_0 → Option (TAs [.one (.slt [.int .u8] 5 1)]) := fun (y3, y4, y5) =>
  (bif (decide (y5 < 4)) then (bif (decide ((List.length y4 + List.length ([(IntKind.u8.wrap (Int.tmod y3 256))] : List Int)) * 1 ≤ 140737488355328)) then (ih ((IntKind.u32.wrap (Int.tdiv y3 256)), (y4 ++ ([(IntKind.u8.wrap (Int.tmod y3 256))] : List Int)), (IntKind.i64.wrap (y5 + 1)))) else none) else (some (y4)))
noncomputable def l_68_0 (N : Nat) : TAs sh_68_0 → Option (TAs [.one (.slt [.int .u8] 5 1)]) := iter (b_68_0 N) N
noncomputable def lp_68_0 (_ : Nat) : Nat → Option LSum := lookL []
noncomputable def L_68_0 (N : Nat) : LSum := loopSum [3, 4, 5] [] sh_68_0 o_68_0 (l_68_0 N)
theorem b_ok_68_0 (N : Nat) (ih : TAs sh_68_0 → Option (TAs [.one (.slt [.int .u8] 5 1)])) (p : TAs sh_68_0) : b_68_0 N ih p = exec (X_68 N) Go.Proofs.Tryz.f68.ntmps (lp_68_0 N) cb_68_0 0 (roundK [3, 4, 5] [] sh_68_0 o_68_0 ih) (stOf [3, 4, 5] [] sh_68_0 p) := by kernel_rfl
theorem L_ok_68_0 (N : Nat) : SegOk Go.Proofs.Tryz.prog laidL 0 Go.Proofs.Tryz.f68.ntmps nd_68_0 (L_68_0 N) :=
  ne_68_0 ▸ loop_ok (cur := 0) (lp := lp_68_0 N) (x_68 N) (fun n => iter (b_68_0 N) n) (fun _ => rfl) (fun n p => b_ok_68_0 N (iter (b_68_0 N) n) p) (loopsAll (by kernel_rfl) (lookOk_nil)) N
noncomputable def lp_68 (N : Nat) : Nat → Option LSum := lookL [(0, L_68_0 N)]
noncomputable def f_68 (N : Nat) (x1 : List Int) : Option (TAs [.one (.slt [.int .u8] 5 1)]) :=
  ((f_96 N x1).bind fun r2 => (bif (decide ((List.length ([] : List Int) + List.length x1) * 1 ≤ 140737488355328)) then ((l_68_0 N (r2, (([] : List Int) ++ x1), 0)).bind fun q6 => (some q6)) else none))
theorem ok_68 (N : Nat) (x1 : List Int) : f_68 N x1 = exec (X_68 N) Go.Proofs.Tryz.f68.ntmps (lp_68 N) c_68 0 (fnK (X_68 N) Go.Proofs.Tryz.f68.results.toList 0 [.one (.slt [.int .u8] 5 1)]) (fnSt 1 0 [.one (.d (.sl [.int .u8]))] x1) := by kernel_rfl
noncomputable def S_68 (N : Nat) : Sum := fnSum 1 0 1 [.one (.d (.sl [.int .u8]))] [.one (.slt [.int .u8] 5 1)] (fun p => f_68 N p)
theorem s_68 (N : Nat) : SumOk Go.Proofs.Tryz.prog laidL 68 (S_68 N) :=
  fn_ok (lp := lp_68 N) (x_68 N) Go.Proofs.Tryz.func68 (c := c_68) (by kernel_rfl) (by kernel_rfl) rfl (fun p => ok_68 N p) (loopsAll (by kernel_rfl) ((lookOk_cons (L_ok_68_0 N) lookOk_nil)))
noncomputable def X_69 (N : Nat) : Ctx := ⟨tyT, lookF [(64, (S_64 N)), (38, (S_38 N)), (83, (S_83 N))], eqT, fun _ => false⟩
noncomputable def c_69 : Code := bodyOf Go.Proofs.Tryz.f69
theorem x_69 (N : Nat) : CtxOk Go.Proofs.Tryz.prog laidL (X_69 N) := ⟨tyOk, eqOk, fun _ _ => (fnsOk_cons (s_64 N) (fnsOk_cons (s_38 N) (fnsOk_cons (s_83 N) fnsOk_nil))).get, by kernel_rfl⟩
noncomputable def lp_69 (_ : Nat) : Nat → Option LSum := lookL []
noncomputable def f_69 (N : Nat) (x1 : List Int) : Option (TAs [.one (.d (.int .u8)), .one (.d (.int .i64)), .one (.d (.err 93))]) :=
  (bif (decide ((List.length x1 : Int) < 5)) then (some (0, 0, (some 3))) else (bif (decide (0 ≤ (2 : Int) ∧ (2 : Int) ≤ (List.length x1 : Int))) then (bif (decide (0 ≤ (0 : Int) ∧ (0 : Int) ≤ (2 : Int))) then (bif (!((ByteArray.toList (bytesS (List.drop (Int.toNat (0 : Int)) (List.take (Int.toNat (2 : Int)) x1)))) == (ByteArray.toList (⟨#[116, 109]⟩ : ByteArray)))) then (some (0, 0, (some 3))) else (bif (decide (0 ≤ (2 : Int) ∧ (2 : Int) < (List.length x1 : Int))) then ((f_64 N (List.getD x1 (Int.toNat 2) 0)).bind fun r2 => (bif (!r2) then (some (0, 0, (some 3))) else (bif (decide (0 ≤ (5 : Int) ∧ (5 : Int) ≤ (List.length x1 : Int))) then (bif (decide (0 ≤ (3 : Int) ∧ (3 : Int) ≤ (5 : Int))) then ((f_38 N (List.drop (Int.toNat (3 : Int)) (List.take (Int.toNat (5 : Int)) x1))).bind fun r3 => ((f_83 N r3.2.1 r3.2.2).bind fun r4 => (bif (decide ((IntKind.i64.wrap r4.1) > 1024)) then (some (0, 0, (some 3))) else (bif (decide (0 ≤ (2 : Int) ∧ (2 : Int) < (List.length x1 : Int))) then (some ((List.getD x1 (Int.toNat 2) 0), (IntKind.i64.wrap ((IntKind.i64.wrap (5 + (IntKind.i64.wrap r4.1))) + 4)), none)) else none)))) else none) else none))) else none)) else none) else none))
theorem ok_69 (N : Nat) (x1 : List Int) : f_69 N x1 = exec (X_69 N) Go.Proofs.Tryz.f69.ntmps (lp_69 N) c_69 0 (fnK (X_69 N) Go.Proofs.Tryz.f69.results.toList 0 [.one (.d (.int .u8)), .one (.d (.int .i64)), .one (.d (.err 93))]) (fnSt 1 0 [.one (.d (.sl [.int .u8]))] x1) := by kernel_rfl
noncomputable def S_69 (N : Nat) : Sum := fnSum 1 0 3 [.one (.d (.sl [.int .u8]))] [.one (.d (.int .u8)), .one (.d (.int .i64)), .one (.d (.err 93))] (fun p => f_69 N p)
theorem s_69 (N : Nat) : SumOk Go.Proofs.Tryz.prog laidL 69 (S_69 N) :=
  fn_ok (lp := lp_69 N) (x_69 N) Go.Proofs.Tryz.func69 (c := c_69) (by kernel_rfl) (by kernel_rfl) rfl (fun p => ok_69 N p) (loopsAll (by kernel_rfl) (lookOk_nil))
noncomputable def X_75 (N : Nat) : Ctx := ⟨tyT, lookF [(68, (S_68 N))], eqT, fun _ => false⟩
noncomputable def c_75 : Code := bodyOf Go.Proofs.Tryz.f75
theorem x_75 (N : Nat) : CtxOk Go.Proofs.Tryz.prog laidL (X_75 N) := ⟨tyOk, eqOk, fun _ _ => (fnsOk_cons (s_68 N) fnsOk_nil).get, by kernel_rfl⟩
noncomputable def lp_75 (_ : Nat) : Nat → Option LSum := lookL []
noncomputable def f_75 (N : Nat) (x1 : List Int) : Option (TAs [.one (.d (.sl [.int .u8])), .one (.d (.int .i64))]) :=
  (bif (decide ((IntKind.i64.wrap ((List.length x1 : Int) - 4)) < 0)) then (some (([] : List Int), 4)) else (bif (decide (0 ≤ (IntKind.i64.wrap ((List.length x1 : Int) - 4)) ∧ (IntKind.i64.wrap ((List.length x1 : Int) - 4)) ≤ (List.length x1 : Int))) then (bif (decide (0 ≤ (0 : Int) ∧ (0 : Int) ≤ (IntKind.i64.wrap ((List.length x1 : Int) - 4)))) then ((f_68 N (List.drop (Int.toNat (0 : Int)) (List.take (Int.toNat (IntKind.i64.wrap ((List.length x1 : Int) - 4))) x1))).bind fun r2 => (bif (!((ByteArray.toList (bytesS r2)) == (ByteArray.toList (bytesS x1)))) then (some (([] : List Int), 4)) else (bif (decide (0 ≤ (IntKind.i64.wrap ((List.length x1 : Int) - 4)) ∧ (IntKind.i64.wrap ((List.length x1 : Int) - 4)) ≤ (List.length x1 : Int))) then (bif (decide (0 ≤ (0 : Int) ∧ (0 : Int) ≤ (IntKind.i64.wrap ((List.length x1 : Int) - 4)))) then (some ((List.drop (Int.toNat (0 : Int)) (List.take (Int.toNat (IntKind.i64.wrap ((List.length x1 : Int) - 4))) x1)), 0)) else none) else none))) else none) else none))
theorem ok_75 (N : Nat) (x1 : List Int) : f_75 N x1 = exec (X_75 N) Go.Proofs.Tryz.f75.ntmps (lp_75 N) c_75 0 (fnK (X_75 N) Go.Proofs.Tryz.f75.results.toList 0 [.one (.d (.sl [.int .u8])), .one (.d (.int .i64))]) (fnSt 1 0 [.one (.d (.sl [.int .u8]))] x1) := by kernel_rfl
noncomputable def S_75 (N : Nat) : Sum := fnSum 1 0 2 [.one (.d (.sl [.int .u8]))] [.one (.d (.sl [.int .u8])), .one (.d (.int .i64))] (fun p => f_75 N p)
theorem s_75 (N : Nat) : SumOk Go.Proofs.Tryz.prog laidL 75 (S_75 N) :=
  fn_ok (lp := lp_75 N) (x_75 N) Go.Proofs.Tryz.func75 (c := c_75) (by kernel_rfl) (by kernel_rfl) rfl (fun p => ok_75 N p) (loopsAll (by kernel_rfl) (lookOk_nil))
noncomputable def X_93 (N : Nat) : Ctx := ⟨tyT, lookF [(118, (S_118 N))], eqT, fun _ => false⟩
noncomputable def c_93 : Code := bodyOf Go.Proofs.Tryz.f93
theorem x_93 (N : Nat) : CtxOk Go.Proofs.Tryz.prog laidL (X_93 N) := ⟨tyOk, eqOk, fun _ _ => (fnsOk_cons (s_118 N) fnsOk_nil).get, by kernel_rfl⟩
noncomputable def lp_93 (_ : Nat) : Nat → Option LSum := lookL []
noncomputable def f_93 (N : Nat) (x1 : Bool) (x2 : Int) (x3 : Int) : Option (TAs [.one (.d (.bool))]) :=
  (bif (!x1) then (some (x2 == 0)) else ((f_118 N x2 x3).bind fun r4 => (some r4)))
theorem ok_93 (N : Nat) (x1 : Bool) (x2 : Int) (x3 : Int) : f_93 N x1 x2 x3 = exec (X_93 N) Go.Proofs.Tryz.f93.ntmps (lp_93 N) c_93 0 (fnK (X_93 N) Go.Proofs.Tryz.f93.results.toList 0 [.one (.d (.bool))]) (fnSt 2 0 [.agg [.d (.bool), .d (.int .i64)], .one (.d (.int .i64))] ((x1, x2), x3)) := by kernel_rfl
noncomputable def S_93 (N : Nat) : Sum := fnSum 2 0 1 [.agg [.d (.bool), .d (.int .i64)], .one (.d (.int .i64))] [.one (.d (.bool))] (fun p => f_93 N p.1.1 p.1.2 p.2)
theorem s_93 (N : Nat) : SumOk Go.Proofs.Tryz.prog laidL 93 (S_93 N) :=
  fn_ok (lp := lp_93 N) (x_93 N) Go.Proofs.Tryz.func93 (c := c_93) (by kernel_rfl) (by kernel_rfl) rfl (fun p => ok_93 N p.1.1 p.1.2 p.2) (loopsAll (by kernel_rfl) (lookOk_nil))
noncomputable def X_102 (N : Nat) : Ctx := ⟨tyT, lookF [(121, (S_121 N)), (122, (S_122 N))], eqT, fun _ => false⟩
noncomputable def c_102 : Code := bodyOf Go.Proofs.Tryz.f102
theorem x_102 (N : Nat) : CtxOk Go.Proofs.Tryz.prog laidL (X_102 N) := ⟨tyOk, eqOk, fun _ _ => (fnsOk_cons (s_121 N) (fnsOk_cons (s_122 N) fnsOk_nil)).get, by kernel_rfl⟩
noncomputable def nd_102_0 : Code := loopAt 0 0 c_102
noncomputable def cb_102_0 : Code := unloop nd_102_0
theorem ne_102_0 : nd_102_0 = .loop cb_102_0 := by kernel_rfl
noncomputable def sh_102_0 : List ShA := [.one (.ptr 144 0), .one (.d (.sl [.int .i64, .int .i64, .str])), .one (.d (.int .i64)), .one (.d (.int .i64)), .agg [.d (.str), .d (.int .i64), .d (.sl [.int .i64, .int .i64, .str])]]
noncomputable def o_102_0 : OutK 0 (((TAs [.one (.d (.err 93))]) ⊕ (TAs []))) := (outTwo (outOne 0 .ret [2] [] [.one (.d (.err 93))]) (outOne 0 (.exit 0) [] [] []))
noncomputable def b_102_0 (N : Nat) (ih : TAs sh_102_0 → Option (((TAs [.one (.d (.err 93))]) ⊕ (TAs [])))) : TAs sh_102_0 → Option (((TAs [.one (.d (.err 93))]) ⊕ (TAs []))) := fun (_, y6, y7, y8, (y9, y10, y11)) =>
  (bif (decide (y8 < y7)) then (bif (decide (0 ≤ y8 ∧ y8 < (List.length y6 : Int))) then ((f_121 N ((List.getD y6 (Int.toNat y8) (0, 0, ByteArray.empty)).2.2)).bind fun r12 => (bif (!r12) then (some (.inl (some 1))) else ((f_122 N ((List.getD y6 (Int.toNat y8) (0, 0, ByteArray.empty)).2.1)).bind fun r13 => (bif (!r13) then (some (.inl (some 1))) else (bif (decide ((List.getD y6 (Int.toNat y8) (0, 0, ByteArray.empty)).1 < (-1099511627776))) then (some (.inl (some 1))) else (bif (decide ((List.getD y6 (Int.toNat y8) (0, 0, ByteArray.empty)).1 > 1099511627776)) then (some (.inl (some 1))) else (bif (decide (y8 > 0)) then (bif (decide (0 ≤ (IntKind.i64.wrap (y8 - 1)) ∧ (IntKind.i64.wrap (y8 - 1)) < (List.length y11 : Int))) then (bif (decide ((List.getD y11 (Int.toNat (IntKind.i64.wrap (y8 - 1))) (0, 0, ByteArray.empty)).1 ≥ (List.getD y6 (Int.toNat y8) (0, 0, ByteArray.empty)).1)) then (some (.inl (some 1))) else (ih ((), y6, y7, (IntKind.i64.wrap (y8 + 1)), (y9, y10, y11)))) else none) else (ih ((), y6, y7, (IntKind.i64.wrap (y8 + 1)), (y9, y10, y11)))))))))) else none) else (some (.inr ())))
noncomputable def l_102_0 (N : Nat) : TAs sh_102_0 → Option (((TAs [.one (.d (.err 93))]) ⊕ (TAs []))) := iter (b_102_0 N) N
noncomputable def lp_102_0 (_ : Nat) : Nat → Option LSum := lookL []
noncomputable def L_102_0 (N : Nat) : LSum := loopSum [1, 23, 24, 25] [144] sh_102_0 o_102_0 (l_102_0 N)
theorem b_ok_102_0 (N : Nat) (ih : TAs sh_102_0 → Option (((TAs [.one (.d (.err 93))]) ⊕ (TAs [])))) (p : TAs sh_102_0) : b_102_0 N ih p = exec (X_102 N) Go.Proofs.Tryz.f102.ntmps (lp_102_0 N) cb_102_0 0 (roundK [1, 23, 24, 25] [144] sh_102_0 o_102_0 ih) (stOf [1, 23, 24, 25] [144] sh_102_0 p) := by kernel_rfl
theorem L_ok_102_0 (N : Nat) : SegOk Go.Proofs.Tryz.prog laidL 0 Go.Proofs.Tryz.f102.ntmps nd_102_0 (L_102_0 N) :=
  ne_102_0 ▸ loop_ok (cur := 0) (lp := lp_102_0 N) (x_102 N) (fun n => iter (b_102_0 N) n) (fun _ => rfl) (fun n p => b_ok_102_0 N (iter (b_102_0 N) n) p) (loopsAll (by kernel_rfl) (lookOk_nil)) N
noncomputable def lp_102 (N : Nat) : Nat → Option LSum := lookL [(0, L_102_0 N)]
noncomputable def f_102 (N : Nat) (x1 : ByteArray) (x2 : Int) (x3 : List (Int × Int × ByteArray)) : Option (TAs [.one (.d (.err 93))]) :=
  ((f_121 N x1).bind fun r4 => (bif (!r4) then (some (some 1)) else ((f_122 N x2).bind fun r5 => (bif (!r5) then (some (some 1)) else (bif (decide ((List.length x3 : Int) > 32)) then (some (some 1)) else ((l_102_0 N ((), x3, (List.length x3 : Int), 0, (x1, x2, x3))).bind fun q => (match q with | .inl q14 => (some q14) | .inr _ => (some none))))))))
theorem ok_102 (N : Nat) (x1 : ByteArray) (x2 : Int) (x3 : List (Int × Int × ByteArray)) : f_102 N x1 x2 x3 = exec (X_102 N) Go.Proofs.Tryz.f102.ntmps (lp_102 N) c_102 0 (fnK (X_102 N) Go.Proofs.Tryz.f102.results.toList 0 [.one (.d (.err 93))]) (fnSt 1 0 [.agg [.d (.str), .d (.int .i64), .d (.sl [.int .i64, .int .i64, .str])]] (x1, x2, x3)) := by kernel_rfl
noncomputable def S_102 (N : Nat) : Sum := fnSum 1 0 1 [.agg [.d (.str), .d (.int .i64), .d (.sl [.int .i64, .int .i64, .str])]] [.one (.d (.err 93))] (fun p => f_102 N p.1 p.2.1 p.2.2)
theorem s_102 (N : Nat) : SumOk Go.Proofs.Tryz.prog laidL 102 (S_102 N) :=
  fn_ok (lp := lp_102 N) (x_102 N) Go.Proofs.Tryz.func102 (c := c_102) (by kernel_rfl) (by kernel_rfl) rfl (fun p => ok_102 N p.1 p.2.1 p.2.2) (loopsAll (by kernel_rfl) ((lookOk_cons (L_ok_102_0 N) lookOk_nil)))
noncomputable def X_103 (N : Nat) : Ctx := ⟨tyT, lookF [(123, (S_123 N))], eqT, fun _ => false⟩
noncomputable def c_103 : Code := bodyOf Go.Proofs.Tryz.f103
theorem x_103 (N : Nat) : CtxOk Go.Proofs.Tryz.prog laidL (X_103 N) := ⟨tyOk, eqOk, fun _ _ => (fnsOk_cons (s_123 N) fnsOk_nil).get, by kernel_rfl⟩
noncomputable def lp_103 (_ : Nat) : Nat → Option LSum := lookL []
noncomputable def f_103 (N : Nat) (x1 : Bool) (x2 : Int) (x3 : Int) : Option (TAs [.one (.d (.bool))]) :=
  ((f_123 N x2).bind fun r4 => (bif r4 then (bif x1 then (bif (decide (x3 ≥ 0)) then (some (decide (x3 ≤ 2305843009213693952))) else (some false)) else (bif (x2 == 0) then (bif (decide (x3 ≥ 0)) then (some (decide (x3 ≤ 2305843009213693952))) else (some false)) else (some false))) else (some false)))
theorem ok_103 (N : Nat) (x1 : Bool) (x2 : Int) (x3 : Int) : f_103 N x1 x2 x3 = exec (X_103 N) Go.Proofs.Tryz.f103.ntmps (lp_103 N) c_103 0 (fnK (X_103 N) Go.Proofs.Tryz.f103.results.toList 0 [.one (.d (.bool))]) (fnSt 1 0 [.agg [.d (.bool), .d (.int .i64), .d (.int .i64)]] (x1, x2, x3)) := by kernel_rfl
noncomputable def S_103 (N : Nat) : Sum := fnSum 1 0 1 [.agg [.d (.bool), .d (.int .i64), .d (.int .i64)]] [.one (.d (.bool))] (fun p => f_103 N p.1 p.2.1 p.2.2)
theorem s_103 (N : Nat) : SumOk Go.Proofs.Tryz.prog laidL 103 (S_103 N) :=
  fn_ok (lp := lp_103 N) (x_103 N) Go.Proofs.Tryz.func103 (c := c_103) (by kernel_rfl) (by kernel_rfl) rfl (fun p => ok_103 N p.1 p.2.1 p.2.2) (loopsAll (by kernel_rfl) (lookOk_nil))
noncomputable def X_108 (N : Nat) : Ctx := ⟨tyT, lookF [(124, (S_124 N)), (125, (S_125 N))], eqT, fun _ => false⟩
noncomputable def c_108 : Code := bodyOf Go.Proofs.Tryz.f108
theorem x_108 (N : Nat) : CtxOk Go.Proofs.Tryz.prog laidL (X_108 N) := ⟨tyOk, eqOk, fun _ _ => (fnsOk_cons (s_124 N) (fnsOk_cons (s_125 N) fnsOk_nil)).get, by kernel_rfl⟩
noncomputable def nd_108_0 : Code := loopAt 0 0 c_108
noncomputable def cb_108_0 : Code := unloop nd_108_0
theorem ne_108_0 : nd_108_0 = .loop cb_108_0 := by kernel_rfl
noncomputable def sh_108_0 : List ShA := [.one (.ptr 144 0), .one (.d (.int .i64)), .agg [.d (.str), .d (.int .i64), .d (.sl [.int .i64, .int .i64, .str])]]
noncomputable def o_108_0 : OutK 0 (((TAs [.one (.d (.bool))]) ⊕ (TAs [.one (.ptr 144 0), .agg [.d (.str), .d (.int .i64), .d (.sl [.int .i64, .int .i64, .str])]]))) := (outTwo (outOne 0 .ret [2] [] [.one (.d (.bool))]) (outOne 0 (.exit 0) [1] [144] [.one (.ptr 144 0), .agg [.d (.str), .d (.int .i64), .d (.sl [.int .i64, .int .i64, .str])]]))
noncomputable def b_108_0 (N : Nat) (ih : TAs sh_108_0 → Option (((TAs [.one (.d (.bool))]) ⊕ (TAs [.one (.ptr 144 0), .agg [.d (.str), .d (.int .i64), .d (.sl [.int .i64, .int .i64, .str])]])))) : TAs sh_108_0 → Option (((TAs [.one (.d (.bool))]) ⊕ (TAs [.one (.ptr 144 0), .agg [.d (.str), .d (.int .i64), .d (.sl [.int .i64, .int .i64, .str])]]))) := fun (_, y4, (y5, y6, y7)) =>
  (bif (decide (y4 < (List.length y7 : Int))) then (bif (decide (0 ≤ y4 ∧ y4 < (List.length y7 : Int))) then ((f_124 N ((List.getD y7 (Int.toNat y4) (0, 0, ByteArray.empty)).2.2)).bind fun r8 => (bif (!r8) then (some (.inl false)) else ((f_125 N ((List.getD y7 (Int.toNat y4) (0, 0, ByteArray.empty)).2.1)).bind fun r9 => (bif (!r9) then (some (.inl false)) else (bif (decide ((List.getD y7 (Int.toNat y4) (0, 0, ByteArray.empty)).1 < (-1099511627776))) then (some (.inl false)) else (bif (decide ((List.getD y7 (Int.toNat y4) (0, 0, ByteArray.empty)).1 > 1099511627776)) then (some (.inl false)) else (bif (decide (y4 > 0)) then (bif (decide (0 ≤ (IntKind.i64.wrap (y4 - 1)) ∧ (IntKind.i64.wrap (y4 - 1)) < (List.length y7 : Int))) then (bif (decide ((List.getD y7 (Int.toNat y4) (0, 0, ByteArray.empty)).1 ≤ (List.getD y7 (Int.toNat (IntKind.i64.wrap (y4 - 1))) (0, 0, ByteArray.empty)).1)) then (some (.inl false)) else (ih ((), (IntKind.i64.wrap (y4 + 1)), (y5, y6, y7)))) else none) else (ih ((), (IntKind.i64.wrap (y4 + 1)), (y5, y6, y7)))))))))) else none) else (some (.inr ((), (y5, y6, y7)))))
noncomputable def l_108_0 (N : Nat) : TAs sh_108_0 → Option (((TAs [.one (.d (.bool))]) ⊕ (TAs [.one (.ptr 144 0), .agg [.d (.str), .d (.int .i64), .d (.sl [.int .i64, .int .i64, .str])]]))) := iter (b_108_0 N) N
noncomputable def lp_108_0 (_ : Nat) : Nat → Option LSum := lookL []
noncomputable def L_108_0 (N : Nat) : LSum := loopSum [1, 3] [144] sh_108_0 o_108_0 (l_108_0 N)
theorem b_ok_108_0 (N : Nat) (ih : TAs sh_108_0 → Option (((TAs [.one (.d (.bool))]) ⊕ (TAs [.one (.ptr 144 0), .agg [.d (.str), .d (.int .i64), .d (.sl [.int .i64, .int .i64, .str])]])))) (p : TAs sh_108_0) : b_108_0 N ih p = exec (X_108 N) Go.Proofs.Tryz.f108.ntmps (lp_108_0 N) cb_108_0 0 (roundK [1, 3] [144] sh_108_0 o_108_0 ih) (stOf [1, 3] [144] sh_108_0 p) := by kernel_rfl
theorem L_ok_108_0 (N : Nat) : SegOk Go.Proofs.Tryz.prog laidL 0 Go.Proofs.Tryz.f108.ntmps nd_108_0 (L_108_0 N) :=
  ne_108_0 ▸ loop_ok (cur := 0) (lp := lp_108_0 N) (x_108 N) (fun n => iter (b_108_0 N) n) (fun _ => rfl) (fun n p => b_ok_108_0 N (iter (b_108_0 N) n) p) (loopsAll (by kernel_rfl) (lookOk_nil)) N
noncomputable def lp_108 (N : Nat) : Nat → Option LSum := lookL [(0, L_108_0 N)]
noncomputable def f_108 (N : Nat) (x1 : ByteArray) (x2 : Int) (x3 : List (Int × Int × ByteArray)) : Option (TAs [.one (.d (.bool))]) :=
  ((l_108_0 N ((), 0, (x1, x2, x3))).bind fun q => (match q with | .inl q10 => (some q10) | .inr q11 => ((f_124 N q11.2.1).bind fun r12 => (bif r12 then ((f_125 N q11.2.2.1).bind fun r13 => (bif r13 then (some (decide ((List.length q11.2.2.2 : Int) ≤ 32))) else (some false))) else (some false)))))
theorem ok_108 (N : Nat) (x1 : ByteArray) (x2 : Int) (x3 : List (Int × Int × ByteArray)) : f_108 N x1 x2 x3 = exec (X_108 N) Go.Proofs.Tryz.f108.ntmps (lp_108 N) c_108 0 (fnK (X_108 N) Go.Proofs.Tryz.f108.results.toList 0 [.one (.d (.bool))]) (fnSt 1 0 [.agg [.d (.str), .d (.int .i64), .d (.sl [.int .i64, .int .i64, .str])]] (x1, x2, x3)) := by kernel_rfl
noncomputable def S_108 (N : Nat) : Sum := fnSum 1 0 1 [.agg [.d (.str), .d (.int .i64), .d (.sl [.int .i64, .int .i64, .str])]] [.one (.d (.bool))] (fun p => f_108 N p.1 p.2.1 p.2.2)
theorem s_108 (N : Nat) : SumOk Go.Proofs.Tryz.prog laidL 108 (S_108 N) :=
  fn_ok (lp := lp_108 N) (x_108 N) Go.Proofs.Tryz.func108 (c := c_108) (by kernel_rfl) (by kernel_rfl) rfl (fun p => ok_108 N p.1 p.2.1 p.2.2) (loopsAll (by kernel_rfl) ((lookOk_cons (L_ok_108_0 N) lookOk_nil)))
noncomputable def X_119 (N : Nat) : Ctx := ⟨tyT, lookF [(130, (S_130 N))], eqT, fun _ => false⟩
noncomputable def c_119 : Code := bodyOf Go.Proofs.Tryz.f119
theorem x_119 (N : Nat) : CtxOk Go.Proofs.Tryz.prog laidL (X_119 N) := ⟨tyOk, eqOk, fun _ _ => (fnsOk_cons (s_130 N) fnsOk_nil).get, by kernel_rfl⟩
noncomputable def nd_119_0 : Code := loopAt 0 0 c_119
noncomputable def cb_119_0 : Code := unloop nd_119_0
theorem ne_119_0 : nd_119_0 = .loop cb_119_0 := by kernel_rfl
noncomputable def sh_119_0 : List ShA := [.one (.d (.int .u32)), .one (.d (.sl [.int .u8])), .one (.d (.int .i64)), .one (.d (.int .i64))]
noncomputable def o_119_0 : OutK 0 (TAs [.one (.d (.int .u32))]) := (outOne 0 (.exit 0) [5] [] [.one (.d (.int .u32))])
noncomputable def b_119_0 (N : Nat) (ih : TAs sh_119_0 → Option (TAs [.one (.d (.int .u32))])) : TAs sh_119_0 → Option (TAs [.one (.d (.int .u32))]) := fun (y3, y4, y5, y6) =>
  (bif (decide (y6 < y5)) then (bif (decide (0 ≤ y6 ∧ y6 < (List.length y4 : Int))) then ((f_130 N y3 (List.getD y4 (Int.toNat y6) 0)).bind fun r7 => (ih (r7, y4, y5, (IntKind.i64.wrap (y6 + 1))))) else none) else (some (y3)))
noncomputable def l_119_0 (N : Nat) : TAs sh_119_0 → Option (TAs [.one (.d (.int .u32))]) := iter (b_119_0 N) N
noncomputable def lp_119_0 (_ : Nat) : Nat → Option LSum := lookL []
noncomputable def L_119_0 (N : Nat) : LSum := loopSum [5, 10, 11, 12] [] sh_119_0 o_119_0 (l_119_0 N)
theorem b_ok_119_0 (N : Nat) (ih : TAs sh_119_0 → Option (TAs [.one (.d (.int .u32))])) (p : TAs sh_119_0) : b_119_0 N ih p = exec (X_119 N) Go.Proofs.Tryz.f119.ntmps (lp_119_0 N) cb_119_0 0 (roundK [5, 10, 11, 12] [] sh_119_0 o_119_0 ih) (stOf [5, 10, 11, 12] [] sh_119_0 p) := by kernel_rfl
theorem L_ok_119_0 (N : Nat) : SegOk Go.Proofs.Tryz.prog laidL 0 Go.Proofs.Tryz.f119.ntmps nd_119_0 (L_119_0 N) :=
  ne_119_0 ▸ loop_ok (cur := 0) (lp := lp_119_0 N) (x_119 N) (fun n => iter (b_119_0 N) n) (fun _ => rfl) (fun n p => b_ok_119_0 N (iter (b_119_0 N) n) p) (loopsAll (by kernel_rfl) (lookOk_nil)) N
noncomputable def lp_119 (N : Nat) : Nat → Option LSum := lookL [(0, L_119_0 N)]
noncomputable def f_119 (N : Nat) (x1 : Int) (x2 : List Int) : Option (TAs [.one (.d (.int .u32))]) :=
  ((l_119_0 N ((ibits .xor .u32 (if IntKind.u32.signed then -1 else IntKind.u32.max) x1), x2, (List.length x2 : Int), 0)).bind fun q8 => (some (ibits .xor .u32 (if IntKind.u32.signed then -1 else IntKind.u32.max) q8)))
theorem ok_119 (N : Nat) (x1 : Int) (x2 : List Int) : f_119 N x1 x2 = exec (X_119 N) Go.Proofs.Tryz.f119.ntmps (lp_119 N) c_119 0 (fnK (X_119 N) Go.Proofs.Tryz.f119.results.toList 0 [.one (.d (.int .u32))]) (fnSt 2 0 [.one (.d (.int .u32)), .one (.d (.sl [.int .u8]))] (x1, x2)) := by kernel_rfl
noncomputable def S_119 (N : Nat) : Sum := fnSum 2 0 1 [.one (.d (.int .u32)), .one (.d (.sl [.int .u8]))] [.one (.d (.int .u32))] (fun p => f_119 N p.1 p.2)
theorem s_119 (N : Nat) : SumOk Go.Proofs.Tryz.prog laidL 119 (S_119 N) :=
  fn_ok (lp := lp_119 N) (x_119 N) Go.Proofs.Tryz.func119 (c := c_119) (by kernel_rfl) (by kernel_rfl) rfl (fun p => ok_119 N p.1 p.2) (loopsAll (by kernel_rfl) ((lookOk_cons (L_ok_119_0 N) lookOk_nil)))
noncomputable def X_133 (N : Nat) : Ctx := ⟨tyT, lookF [(138, (S_138 N)), (139, (S_139 N))], eqT, fun _ => false⟩
noncomputable def c_133 : Code := bodyOf Go.Proofs.Tryz.f133
theorem x_133 (N : Nat) : CtxOk Go.Proofs.Tryz.prog laidL (X_133 N) := ⟨tyOk, eqOk, fun _ _ => (fnsOk_cons (s_138 N) (fnsOk_cons (s_139 N) fnsOk_nil)).get, by kernel_rfl⟩
noncomputable def lp_133 (_ : Nat) : Nat → Option LSum := lookL []
noncomputable def f_133 (N : Nat) (x1 : Int) (x2 : Int) : Option (TAs [.one (.d (.int .i64))]) :=
  ((f_138 N x1 x2).bind fun r3 => (bif (!(Option.isNone r3.2)) then ((f_139 N (decide (x2 > 0))).bind fun r4 => (some r4)) else (some r3.1)))
theorem ok_133 (N : Nat) (x1 : Int) (x2 : Int) : f_133 N x1 x2 = exec (X_133 N) Go.Proofs.Tryz.f133.ntmps (lp_133 N) c_133 0 (fnK (X_133 N) Go.Proofs.Tryz.f133.results.toList 0 [.one (.d (.int .i64))]) (fnSt 2 0 [.one (.d (.int .i64)), .one (.d (.int .i64))] (x1, x2)) := by kernel_rfl
noncomputable def S_133 (N : Nat) : Sum := fnSum 2 0 1 [.one (.d (.int .i64)), .one (.d (.int .i64))] [.one (.d (.int .i64))] (fun p => f_133 N p.1 p.2)
theorem s_133 (N : Nat) : SumOk Go.Proofs.Tryz.prog laidL 133 (S_133 N) :=
  fn_ok (lp := lp_133 N) (x_133 N) Go.Proofs.Tryz.func133 (c := c_133) (by kernel_rfl) (by kernel_rfl) rfl (fun p => ok_133 N p.1 p.2) (loopsAll (by kernel_rfl) (lookOk_nil))
noncomputable def X_16 (N : Nat) : Ctx := ⟨tyT, lookF [(49, (S_49 N))], eqT, fun _ => false⟩
noncomputable def c_16 : Code := bodyOf Go.Proofs.Tryz.f16
theorem x_16 (N : Nat) : CtxOk Go.Proofs.Tryz.prog laidL (X_16 N) := ⟨tyOk, eqOk, fun _ _ => (fnsOk_cons (s_49 N) fnsOk_nil).get, by kernel_rfl⟩
noncomputable def lp_16 (_ : Nat) : Nat → Option LSum := lookL []
noncomputable def f_16 (N : Nat) (x1 : ByteArray) (x2 : List Int) (x3 : Int) (x4 : Int) (x5 : Int) (x6 : Int) (x7 : Int) (x8 : Int) (x9 : Bool) (x10 : ByteArray) (x11 : Int) (x12 : List (Int × Int × ByteArray)) (x13 : Bool) (x14 : Int) (x15 : Int) (x16 : Bool) (x17 : Int) (x18 : Int) : Option (TAs [.agg [.d (.str), .d (.arr .u8 16), .d (.int .i64), .d (.int .i64), .d (.int .i64), .d (.int .i64), .d (.int .i64), .d (.int .i64), .d (.bool), .d (.str), .d (.int .i64), .slt [.int .i64, .int .i64, .str] 177 3, .d (.bool), .d (.int .i64), .d (.int .i64), .d (.bool), .d (.int .i64), .d (.int .i64)]]) :=
  ((f_49 N x3 x4 x5 x6 x7 x8 x9 x10 x11 x12).bind fun r19 => (some (x1, x2, r19.1, r19.2.1, r19.2.2.1, r19.2.2.2.1, r19.2.2.2.2.1, r19.2.2.2.2.2.1, r19.2.2.2.2.2.2.1, r19.2.2.2.2.2.2.2.1, r19.2.2.2.2.2.2.2.2.1, r19.2.2.2.2.2.2.2.2.2, x13, x14, x15, x16, x17, x18)))
theorem ok_16 (N : Nat) (x1 : ByteArray) (x2 : List Int) (x3 : Int) (x4 : Int) (x5 : Int) (x6 : Int) (x7 : Int) (x8 : Int) (x9 : Bool) (x10 : ByteArray) (x11 : Int) (x12 : List (Int × Int × ByteArray)) (x13 : Bool) (x14 : Int) (x15 : Int) (x16 : Bool) (x17 : Int) (x18 : Int) : f_16 N x1 x2 x3 x4 x5 x6 x7 x8 x9 x10 x11 x12 x13 x14 x15 x16 x17 x18 = exec (X_16 N) Go.Proofs.Tryz.f16.ntmps (lp_16 N) c_16 0 (fnK (X_16 N) Go.Proofs.Tryz.f16.results.toList 0 [.agg [.d (.str), .d (.arr .u8 16), .d (.int .i64), .d (.int .i64), .d (.int .i64), .d (.int .i64), .d (.int .i64), .d (.int .i64), .d (.bool), .d (.str), .d (.int .i64), .slt [.int .i64, .int .i64, .str] 177 3, .d (.bool), .d (.int .i64), .d (.int .i64), .d (.bool), .d (.int .i64), .d (.int .i64)]]) (fnSt 1 0 [.agg [.d (.str), .d (.arr .u8 16), .d (.int .i64), .d (.int .i64), .d (.int .i64), .d (.int .i64), .d (.int .i64), .d (.int .i64), .d (.bool), .d (.str), .d (.int .i64), .d (.sl [.int .i64, .int .i64, .str]), .d (.bool), .d (.int .i64), .d (.int .i64), .d (.bool), .d (.int .i64), .d (.int .i64)]] (x1, x2, x3, x4, x5, x6, x7, x8, x9, x10, x11, x12, x13, x14, x15, x16, x17, x18)) := by kernel_rfl
noncomputable def S_16 (N : Nat) : Sum := fnSum 1 0 1 [.agg [.d (.str), .d (.arr .u8 16), .d (.int .i64), .d (.int .i64), .d (.int .i64), .d (.int .i64), .d (.int .i64), .d (.int .i64), .d (.bool), .d (.str), .d (.int .i64), .d (.sl [.int .i64, .int .i64, .str]), .d (.bool), .d (.int .i64), .d (.int .i64), .d (.bool), .d (.int .i64), .d (.int .i64)]] [.agg [.d (.str), .d (.arr .u8 16), .d (.int .i64), .d (.int .i64), .d (.int .i64), .d (.int .i64), .d (.int .i64), .d (.int .i64), .d (.bool), .d (.str), .d (.int .i64), .slt [.int .i64, .int .i64, .str] 177 3, .d (.bool), .d (.int .i64), .d (.int .i64), .d (.bool), .d (.int .i64), .d (.int .i64)]] (fun p => f_16 N p.1 p.2.1 p.2.2.1 p.2.2.2.1 p.2.2.2.2.1 p.2.2.2.2.2.1 p.2.2.2.2.2.2.1 p.2.2.2.2.2.2.2.1 p.2.2.2.2.2.2.2.2.1 p.2.2.2.2.2.2.2.2.2.1 p.2.2.2.2.2.2.2.2.2.2.1 p.2.2.2.2.2.2.2.2.2.2.2.1 p.2.2.2.2.2.2.2.2.2.2.2.2.1 p.2.2.2.2.2.2.2.2.2.2.2.2.2.1 p.2.2.2.2.2.2.2.2.2.2.2.2.2.2.1 p.2.2.2.2.2.2.2.2.2.2.2.2.2.2.2.1 p.2.2.2.2.2.2.2.2.2.2.2.2.2.2.2.2.1 p.2.2.2.2.2.2.2.2.2.2.2.2.2.2.2.2.2)
theorem s_16 (N : Nat) : SumOk Go.Proofs.Tryz.prog laidL 16 (S_16 N) :=
  fn_ok (lp := lp_16 N) (x_16 N) Go.Proofs.Tryz.func16 (c := c_16) (by kernel_rfl) (by kernel_rfl) rfl (fun p => ok_16 N p.1 p.2.1 p.2.2.1 p.2.2.2.1 p.2.2.2.2.1 p.2.2.2.2.2.1 p.2.2.2.2.2.2.1 p.2.2.2.2.2.2.2.1 p.2.2.2.2.2.2.2.2.1 p.2.2.2.2.2.2.2.2.2.1 p.2.2.2.2.2.2.2.2.2.2.1 p.2.2.2.2.2.2.2.2.2.2.2.1 p.2.2.2.2.2.2.2.2.2.2.2.2.1 p.2.2.2.2.2.2.2.2.2.2.2.2.2.1 p.2.2.2.2.2.2.2.2.2.2.2.2.2.2.1 p.2.2.2.2.2.2.2.2.2.2.2.2.2.2.2.1 p.2.2.2.2.2.2.2.2.2.2.2.2.2.2.2.2.1 p.2.2.2.2.2.2.2.2.2.2.2.2.2.2.2.2.2) (loopsAll (by kernel_rfl) (lookOk_nil))
noncomputable def X_22 (N : Nat) : Ctx := ⟨tyT, lookF [(57, (S_57 N))], eqT, fun _ => false⟩
noncomputable def c_22 : Code := bodyOf Go.Proofs.Tryz.f22
theorem x_22 (N : Nat) : CtxOk Go.Proofs.Tryz.prog laidL (X_22 N) := ⟨tyOk, eqOk, fun _ _ => (fnsOk_cons (s_57 N) fnsOk_nil).get, by kernel_rfl⟩
noncomputable def lp_22 (_ : Nat) : Nat → Option LSum := lookL []
noncomputable def f_22 (N : Nat) (x1 : ByteArray) (x2 : List Int) (x3 : Int) (x4 : Int) (x5 : Int) (x6 : Int) (x7 : Int) (x8 : Int) (x9 : Bool) (x10 : ByteArray) (x11 : Int) (x12 : List (Int × Int × ByteArray)) (x13 : Bool) (x14 : Int) (x15 : Int) (x16 : Bool) (x17 : Int) (x18 : Int) (x19 : ByteArray) (x20 : List Int) (x21 : Int) (x22 : Int) (x23 : Int) (x24 : Int) (x25 : Int) (x26 : Int) (x27 : Bool) (x28 : ByteArray) (x29 : Int) (x30 : List (Int × Int × ByteArray)) (x31 : Bool) (x32 : Int) (x33 : Int) (x34 : Bool) (x35 : Int) (x36 : Int) : Option (TAs [.one (.d (.bool))]) :=
  (bif ((ByteArray.toList x1) == (ByteArray.toList x19)) then (bif (x2 == x20) then ((f_57 N x3 x4 x5 x6 x7 x8 x9 x10 x11 x12 x21 x22 x23 x24 x25 x26 x27 x28 x29 x30).bind fun r37 => (bif r37 then (bif ((x13 == x31) && ((x14 == x32) && (x15 == x33))) then (bif ((x16 == x34) && (x17 == x35)) then (some (x18 == x36)) else (some false)) else (some false)) else (some false))) else (some false)) else (some false))
theorem ok_22 (N : Nat) (x1 : ByteArray) (x2 : List Int) (x3 : Int) (x4 : Int) (x5 : Int) (x6 : Int) (x7 : Int) (x8 : Int) (x9 : Bool) (x10 : ByteArray) (x11 : Int) (x12 : List (Int × Int × ByteArray)) (x13 : Bool) (x14 : Int) (x15 : Int) (x16 : Bool) (x17 : Int) (x18 : Int) (x19 : ByteArray) (x20 : List Int) (x21 : Int) (x22 : Int) (x23 : Int) (x24 : Int) (x25 : Int) (x26 : Int) (x27 : Bool) (x28 : ByteArray) (x29 : Int) (x30 : List (Int × Int × ByteArray)) (x31 : Bool) (x32 : Int) (x33 : Int) (x34 : Bool) (x35 : Int) (x36 : Int) : f_22 N x1 x2 x3 x4 x5 x6 x7 x8 x9 x10 x11 x12 x13 x14 x15 x16 x17 x18 x19 x20 x21 x22 x23 x24 x25 x26 x27 x28 x29 x30 x31 x32 x33 x34 x35 x36 = exec (X_22 N) Go.Proofs.Tryz.f22.ntmps (lp_22 N) c_22 0 (fnK (X_22 N) Go.Proofs.Tryz.f22.results.toList 0 [.one (.d (.bool))]) (fnSt 2 0 [.agg [.d (.str), .d (.arr .u8 16), .d (.int .i64), .d (.int .i64), .d (.int .i64), .d (.int .i64), .d (.int .i64), .d (.int .i64), .d (.bool), .d (.str), .d (.int .i64), .d (.sl [.int .i64, .int .i64, .str]), .d (.bool), .d (.int .i64), .d (.int .i64), .d (.bool), .d (.int .i64), .d (.int .i64)], .agg [.d (.str), .d (.arr .u8 16), .d (.int .i64), .d (.int .i64), .d (.int .i64), .d (.int .i64), .d (.int .i64), .d (.int .i64), .d (.bool), .d (.str), .d (.int .i64), .d (.sl [.int .i64, .int .i64, .str]), .d (.bool), .d (.int .i64), .d (.int .i64), .d (.bool), .d (.int .i64), .d (.int .i64)]] ((x1, x2, x3, x4, x5, x6, x7, x8, x9, x10, x11, x12, x13, x14, x15, x16, x17, x18), (x19, x20, x21, x22, x23, x24, x25, x26, x27, x28, x29, x30, x31, x32, x33, x34, x35, x36))) := by kernel_rfl
noncomputable def S_22 (N : Nat) : Sum := fnSum 2 0 1 [.agg [.d (.str), .d (.arr .u8 16), .d (.int .i64), .d (.int .i64), .d (.int .i64), .d (.int .i64), .d (.int .i64), .d (.int .i64), .d (.bool), .d (.str), .d (.int .i64), .d (.sl [.int .i64, .int .i64, .str]), .d (.bool), .d (.int .i64), .d (.int .i64), .d (.bool), .d (.int .i64), .d (.int .i64)], .agg [.d (.str), .d (.arr .u8 16), .d (.int .i64), .d (.int .i64), .d (.int .i64), .d (.int .i64), .d (.int .i64), .d (.int .i64), .d (.bool), .d (.str), .d (.int .i64), .d (.sl [.int .i64, .int .i64, .str]), .d (.bool), .d (.int .i64), .d (.int .i64), .d (.bool), .d (.int .i64), .d (.int .i64)]] [.one (.d (.bool))] (fun p => f_22 N p.1.1 p.1.2.1 p.1.2.2.1 p.1.2.2.2.1 p.1.2.2.2.2.1 p.1.2.2.2.2.2.1 p.1.2.2.2.2.2.2.1 p.1.2.2.2.2.2.2.2.1 p.1.2.2.2.2.2.2.2.2.1 p.1.2.2.2.2.2.2.2.2.2.1 p.1.2.2.2.2.2.2.2.2.2.2.1 p.1.2.2.2.2.2.2.2.2.2.2.2.1 p.1.2.2.2.2.2.2.2.2.2.2.2.2.1 p.1.2.2.2.2.2.2.2.2.2.2.2.2.2.1 p.1.2.2.2.2.2.2.2.2.2.2.2.2.2.2.1 p.1.2.2.2.2.2.2.2.2.2.2.2.2.2.2.2.1 p.1.2.2.2.2.2.2.2.2.2.2.2.2.2.2.2.2.1 p.1.2.2.2.2.2.2.2.2.2.2.2.2.2.2.2.2.2 p.2.1 p.2.2.1 p.2.2.2.1 p.2.2.2.2.1 p.2.2.2.2.2.1 p.2.2.2.2.2.2.1 p.2.2.2.2.2.2.2.1 p.2.2.2.2.2.2.2.2.1 p.2.2.2.2.2.2.2.2.2.1 p.2.2.2.2.2.2.2.2.2.2.1 p.2.2.2.2.2.2.2.2.2.2.2.1 p.2.2.2.2.2.2.2.2.2.2.2.2.1 p.2.2.2.2.2.2.2.2.2.2.2.2.2.1 p.2.2.2.2.2.2.2.2.2.2.2.2.2.2.1 p.2.2.2.2.2.2.2.2.2.2.2.2.2.2.2.1 p.2.2.2.2.2.2.2.2.2.2.2.2.2.2.2.2.1 p.2.2.2.2.2.2.2.2.2.2.2.2.2.2.2.2.2.1 p.2.2.2.2.2.2.2.2.2.2.2.2.2.2.2.2.2.2)
theorem s_22 (N : Nat) : SumOk Go.Proofs.Tryz.prog laidL 22 (S_22 N) :=
  fn_ok (lp := lp_22 N) (x_22 N) Go.Proofs.Tryz.func22 (c := c_22) (by kernel_rfl) (by kernel_rfl) rfl (fun p => ok_22 N p.1.1 p.1.2.1 p.1.2.2.1 p.1.2.2.2.1 p.1.2.2.2.2.1 p.1.2.2.2.2.2.1 p.1.2.2.2.2.2.2.1 p.1.2.2.2.2.2.2.2.1 p.1.2.2.2.2.2.2.2.2.1 p.1.2.2.2.2.2.2.2.2.2.1 p.1.2.2.2.2.2.2.2.2.2.2.1 p.1.2.2.2.2.2.2.2.2.2.2.2.1 p.1.2.2.2.2.2.2.2.2.2.2.2.2.1 p.1.2.2.2.2.2.2.2.2.2.2.2.2.2.1 p.1.2.2.2.2.2.2.2.2.2.2.2.2.2.2.1 p.1.2.2.2.2.2.2.2.2.2.2.2.2.2.2.2.1 p.1.2.2.2.2.2.2.2.2.2.2.2.2.2.2.2.2.1 p.1.2.2.2.2.2.2.2.2.2.2.2.2.2.2.2.2.2 p.2.1 p.2.2.1 p.2.2.2.1 p.2.2.2.2.1 p.2.2.2.2.2.1 p.2.2.2.2.2.2.1 p.2.2.2.2.2.2.2.1 p.2.2.2.2.2.2.2.2.1 p.2.2.2.2.2.2.2.2.2.1 p.2.2.2.2.2.2.2.2.2.2.1 p.2.2.2.2.2.2.2.2.2.2.2.1 p.2.2.2.2.2.2.2.2.2.2.2.2.1 p.2.2.2.2.2.2.2.2.2.2.2.2.2.1 p.2.2.2.2.2.2.2.2.2.2.2.2.2.2.1 p.2.2.2.2.2.2.2.2.2.2.2.2.2.2.2.1 p.2.2.2.2.2.2.2.2.2.2.2.2.2.2.2.2.1 p.2.2.2.2.2.2.2.2.2.2.2.2.2.2.2.2.2.1 p.2.2.2.2.2.2.2.2.2.2.2.2.2.2.2.2.2.2) (loopsAll (by kernel_rfl) (lookOk_nil))
noncomputable def X_27 (N : Nat) : Ctx := ⟨tyT, lookF [(62, (S_62 N))], eqT, fun _ => false⟩
noncomputable def c_27 : Code := bodyOf Go.Proofs.Tryz.f27
theorem x_27 (N : Nat) : CtxOk Go.Proofs.Tryz.prog laidL (X_27 N) := ⟨tyOk, eqOk, fun _ _ => (fnsOk_cons (s_62 N) fnsOk_nil).get, by kernel_rfl⟩
noncomputable def lp_27 (_ : Nat) : Nat → Option LSum := lookL []
noncomputable def f_27 (N : Nat) (x1 : List Int) (x2 : ByteArray) : Option (TAs [.one (.slt [.int .u8] 5 1), .one (.d (.err 93))]) :=
  (bif (decide ((ByteArray.size x2 : Int) > 255)) then (some (([] : List Int), (some 5))) else ((f_62 N x1 (IntKind.u64.wrap (ByteArray.size x2 : Int)) 1).bind fun r3 => (bif (decide ((List.length r3 + List.length (bytesL x2)) * 1 ≤ 140737488355328)) then (some ((r3 ++ (bytesL x2)), none)) else none)))
theorem ok_27 (N : Nat) (x1 : List Int) (x2 : ByteArray) : f_27 N x1 x2 = exec (X_27 N) Go.Proofs.Tryz.f27.ntmps (lp_27 N) c_27 0 (fnK (X_27 N) Go.Proofs.Tryz.f27.results.toList 0 [.one (.slt [.int .u8] 5 1), .one (.d (.err 93))]) (fnSt 2 0 [.one (.d (.sl [.int .u8])), .one (.d (.str))] (x1, x2)) := by kernel_rfl
noncomputable def S_27 (N : Nat) : Sum := fnSum 2 0 2 [.one (.d (.sl [.int .u8])), .one (.d (.str))] [.one (.slt [.int .u8] 5 1), .one (.d (.err 93))] (fun p => f_27 N p.1 p.2)
theorem s_27 (N : Nat) : SumOk Go.Proofs.Tryz.prog laidL 27 (S_27 N) :=
  fn_ok (lp := lp_27 N) (x_27 N) Go.Proofs.Tryz.func27 (c := c_27) (by kernel_rfl) (by kernel_rfl) rfl (fun p => ok_27 N p.1 p.2) (loopsAll (by kernel_rfl) (lookOk_nil))
noncomputable def X_28 (N : Nat) : Ctx := ⟨tyT, lookF [(62, (S_62 N))], eqT, fun _ => false⟩
noncomputable def c_28 : Code := bodyOf Go.Proofs.Tryz.f28
theorem x_28 (N : Nat) : CtxOk Go.Proofs.Tryz.prog laidL (X_28 N) := ⟨tyOk, eqOk, fun _ _ => (fnsOk_cons (s_62 N) fnsOk_nil).get, by kernel_rfl⟩
noncomputable def lp_28 (_ : Nat) : Nat → Option LSum := lookL []
noncomputable def f_28 (N : Nat) (x1 : List Int) (x2 : Int) : Option (TAs [.one (.slt [.int .u8] 5 1)]) :=
  ((f_62 N x1 (IntKind.u64.wrap x2) 8).bind fun r3 => (some r3))
theorem ok_28 (N : Nat) (x1 : List Int) (x2 : Int) : f_28 N x1 x2 = exec (X_28 N) Go.Proofs.Tryz.f28.ntmps (lp_28 N) c_28 0 (fnK (X_28 N) Go.Proofs.Tryz.f28.results.toList 0 [.one (.slt [.int .u8] 5 1)]) (fnSt 2 0 [.one (.d (.sl [.int .u8])), .one (.d (.int .i64))] (x1, x2)) := by kernel_rfl
noncomputable def S_28 (N : Nat) : Sum := fnSum 2 0 1 [.one (.d (.sl [.int .u8])), .one (.d (.int .i64))] [.one (.slt [.int .u8] 5 1)] (fun p => f_28 N p.1 p.2)
theorem s_28 (N : Nat) : SumOk Go.Proofs.Tryz.prog laidL 28 (S_28 N) :=
  fn_ok (lp := lp_28 N) (x_28 N) Go.Proofs.Tryz.func28 (c := c_28) (by kernel_rfl) (by kernel_rfl) rfl (fun p => ok_28 N p.1 p.2) (loopsAll (by kernel_rfl) (lookOk_nil))
noncomputable def X_33 (N : Nat) : Ctx := ⟨tyT, lookF [(67, (S_67 N))], eqT, fun _ => false⟩
noncomputable def c_33 : Code := bodyOf Go.Proofs.Tryz.f33
theorem x_33 (N : Nat) : CtxOk Go.Proofs.Tryz.prog laidL (X_33 N) := ⟨tyOk, eqOk, fun _ _ => (fnsOk_cons (s_67 N) fnsOk_nil).get, by kernel_rfl⟩
noncomputable def lp_33 (_ : Nat) : Nat → Option LSum := lookL []
noncomputable def f_33 (N : Nat) (x1 : ByteArray) (x2 : List Int) (x3 : Int) (x4 : Int) (x5 : Int) (x6 : Int) (x7 : Int) (x8 : Int) (x9 : Bool) (x10 : ByteArray) (x11 : Int) (x12 : List (Int × Int × ByteArray)) (x13 : Bool) (x14 : Int) (x15 : Int) (x16 : Bool) (x17 : Int) (x18 : Int) (x19 : ByteArray) (x20 : List Int) (x21 : Int) (x22 : Int) (x23 : Int) (x24 : Int) (x25 : Int) (x26 : Int) (x27 : Bool) (x28 : ByteArray) (x29 : Int) (x30 : List (Int × Int × ByteArray)) (x31 : Bool) (x32 : Int) (x33 : Int) (x34 : Bool) (x35 : Int) (x36 : Int) : Option (TAs [.one (.d (.bool))]) :=
  (bif ((ByteArray.toList x1) == (ByteArray.toList x19)) then (bif (x2 == x20) then (bif (x18 == x36) then (bif ((x13 == x31) && ((x14 == x32) && (x15 == x33))) then (bif ((x16 == x34) && (x17 == x35)) then ((f_67 N x3 x4 x5 x6 x7 x8 x9 x10 x11 x12 x21 x22 x23 x24 x25 x26 x27 x28 x29 x30).bind fun r37 => (some r37)) else (some false)) else (some false)) else (some false)) else (some false)) else (some false))
theorem ok_33 (N : Nat) (x1 : ByteArray) (x2 : List Int) (x3 : Int) (x4 : Int) (x5 : Int) (x6 : Int) (x7 : Int) (x8 : Int) (x9 : Bool) (x10 : ByteArray) (x11 : Int) (x12 : List (Int × Int × ByteArray)) (x13 : Bool) (x14 : Int) (x15 : Int) (x16 : Bool) (x17 : Int) (x18 : Int) (x19 : ByteArray) (x20 : List Int) (x21 : Int) (x22 : Int) (x23 : Int) (x24 : Int) (x25 : Int) (x26 : Int) (x27 : Bool) (x28 : ByteArray) (x29 : Int) (x30 : List (Int × Int × ByteArray)) (x31 : Bool) (x32 : Int) (x33 : Int) (x34 : Bool) (x35 : Int) (x36 : Int) : f_33 N x1 x2 x3 x4 x5 x6 x7 x8 x9 x10 x11 x12 x13 x14 x15 x16 x17 x18 x19 x20 x21 x22 x23 x24 x25 x26 x27 x28 x29 x30 x31 x32 x33 x34 x35 x36 = exec (X_33 N) Go.Proofs.Tryz.f33.ntmps (lp_33 N) c_33 0 (fnK (X_33 N) Go.Proofs.Tryz.f33.results.toList 0 [.one (.d (.bool))]) (fnSt 2 0 [.agg [.d (.str), .d (.arr .u8 16), .d (.int .i64), .d (.int .i64), .d (.int .i64), .d (.int .i64), .d (.int .i64), .d (.int .i64), .d (.bool), .d (.str), .d (.int .i64), .d (.sl [.int .i64, .int .i64, .str]), .d (.bool), .d (.int .i64), .d (.int .i64), .d (.bool), .d (.int .i64), .d (.int .i64)], .agg [.d (.str), .d (.arr .u8 16), .d (.int .i64), .d (.int .i64), .d (.int .i64), .d (.int .i64), .d (.int .i64), .d (.int .i64), .d (.bool), .d (.str), .d (.int .i64), .d (.sl [.int .i64, .int .i64, .str]), .d (.bool), .d (.int .i64), .d (.int .i64), .d (.bool), .d (.int .i64), .d (.int .i64)]] ((x1, x2, x3, x4, x5, x6, x7, x8, x9, x10, x11, x12, x13, x14, x15, x16, x17, x18), (x19, x20, x21, x22, x23, x24, x25, x26, x27, x28, x29, x30, x31, x32, x33, x34, x35, x36))) := by kernel_rfl
noncomputable def S_33 (N : Nat) : Sum := fnSum 2 0 1 [.agg [.d (.str), .d (.arr .u8 16), .d (.int .i64), .d (.int .i64), .d (.int .i64), .d (.int .i64), .d (.int .i64), .d (.int .i64), .d (.bool), .d (.str), .d (.int .i64), .d (.sl [.int .i64, .int .i64, .str]), .d (.bool), .d (.int .i64), .d (.int .i64), .d (.bool), .d (.int .i64), .d (.int .i64)], .agg [.d (.str), .d (.arr .u8 16), .d (.int .i64), .d (.int .i64), .d (.int .i64), .d (.int .i64), .d (.int .i64), .d (.int .i64), .d (.bool), .d (.str), .d (.int .i64), .d (.sl [.int .i64, .int .i64, .str]), .d (.bool), .d (.int .i64), .d (.int .i64), .d (.bool), .d (.int .i64), .d (.int .i64)]] [.one (.d (.bool))] (fun p => f_33 N p.1.1 p.1.2.1 p.1.2.2.1 p.1.2.2.2.1 p.1.2.2.2.2.1 p.1.2.2.2.2.2.1 p.1.2.2.2.2.2.2.1 p.1.2.2.2.2.2.2.2.1 p.1.2.2.2.2.2.2.2.2.1 p.1.2.2.2.2.2.2.2.2.2.1 p.1.2.2.2.2.2.2.2.2.2.2.1 p.1.2.2.2.2.2.2.2.2.2.2.2.1 p.1.2.2.2.2.2.2.2.2.2.2.2.2.1 p.1.2.2.2.2.2.2.2.2.2.2.2.2.2.1 p.1.2.2.2.2.2.2.2.2.2.2.2.2.2.2.1 p.1.2.2.2.2.2.2.2.2.2.2.2.2.2.2.2.1 p.1.2.2.2.2.2.2.2.2.2.2.2.2.2.2.2.2.1 p.1.2.2.2.2.2.2.2.2.2.2.2.2.2.2.2.2.2 p.2.1 p.2.2.1 p.2.2.2.1 p.2.2.2.2.1 p.2.2.2.2.2.1 p.2.2.2.2.2.2.1 p.2.2.2.2.2.2.2.1 p.2.2.2.2.2.2.2.2.1 p.2.2.2.2.2.2.2.2.2.1 p.2.2.2.2.2.2.2.2.2.2.1 p.2.2.2.2.2.2.2.2.2.2.2.1 p.2.2.2.2.2.2.2.2.2.2.2.2.1 p.2.2.2.2.2.2.2.2.2.2.2.2.2.1 p.2.2.2.2.2.2.2.2.2.2.2.2.2.2.1 p.2.2.2.2.2.2.2.2.2.2.2.2.2.2.2.1 p.2.2.2.2.2.2.2.2.2.2.2.2.2.2.2.2.1 p.2.2.2.2.2.2.2.2.2.2.2.2.2.2.2.2.2.1 p.2.2.2.2.2.2.2.2.2.2.2.2.2.2.2.2.2.2)
theorem s_33 (N : Nat) : SumOk Go.Proofs.Tryz.prog laidL 33 (S_33 N) :=
  fn_ok (lp := lp_33 N) (x_33 N) Go.Proofs.Tryz.func33 (c := c_33) (by kernel_rfl) (by kernel_rfl) rfl (fun p => ok_33 N p.1.1 p.1.2.1 p.1.2.2.1 p.1.2.2.2.1 p.1.2.2.2.2.1 p.1.2.2.2.2.2.1 p.1.2.2.2.2.2.2.1 p.1.2.2.2.2.2.2.2.1 p.1.2.2.2.2.2.2.2.2.1 p.1.2.2.2.2.2.2.2.2.2.1 p.1.2.2.2.2.2.2.2.2.2.2.1 p.1.2.2.2.2.2.2.2.2.2.2.2.1 p.1.2.2.2.2.2.2.2.2.2.2.2.2.1 p.1.2.2.2.2.2.2.2.2.2.2.2.2.2.1 p.1.2.2.2.2.2.2.2.2.2.2.2.2.2.2.1 p.1.2.2.2.2.2.2.2.2.2.2.2.2.2.2.2.1 p.1.2.2.2.2.2.2.2.2.2.2.2.2.2.2.2.2.1 p.1.2.2.2.2.2.2.2.2.2.2.2.2.2.2.2.2.2 p.2.1 p.2.2.1 p.2.2.2.1 p.2.2.2.2.1 p.2.2.2.2.2.1 p.2.2.2.2.2.2.1 p.2.2.2.2.2.2.2.1 p.2.2.2.2.2.2.2.2.1 p.2.2.2.2.2.2.2.2.2.1 p.2.2.2.2.2.2.2.2.2.2.1 p.2.2.2.2.2.2.2.2.2.2.2.1 p.2.2.2.2.2.2.2.2.2.2.2.2.1 p.2.2.2.2.2.2.2.2.2.2.2.2.2.1 p.2.2.2.2.2.2.2.2.2.2.2.2.2.2.1 p.2.2.2.2.2.2.2.2.2.2.2.2.2.2.2.1 p.2.2.2.2.2.2.2.2.2.2.2.2.2.2.2.2.1 p.2.2.2.2.2.2.2.2.2.2.2.2.2.2.2.2.2.1 p.2.2.2.2.2.2.2.2.2.2.2.2.2.2.2.2.2.2) (loopsAll (by kernel_rfl) (lookOk_nil))
noncomputable def X_36 (N : Nat) : Ctx := ⟨tyT, lookF [(68, (S_68 N))], eqT, fun _ => false⟩
noncomputable def c_36 : Code := bodyOf Go.Proofs.Tryz.f36
theorem x_36 (N : Nat) : CtxOk Go.Proofs.Tryz.prog laidL (X_36 N) := ⟨tyOk, eqOk, fun _ _ => (fnsOk_cons (s_68 N) fnsOk_nil).get, by kernel_rfl⟩
noncomputable def lp_36 (_ : Nat) : Nat → Option LSum := lookL []
noncomputable def f_36 (N : Nat) (x1 : Int) (x2 : List Int) : Option (TAs [.one (.slt [.int .u8] 5 1), .one (.d (.int .i64))]) :=
  (bif (decide (x1 < 1)) then (some (([] : List Int), 1)) else (bif (decide (x1 > 6)) then (some (([] : List Int), 1)) else (bif (decide ((List.length x2 : Int) > 1024)) then (some (([] : List Int), 5)) else (bif (decide ((List.length ([116, 109, x1, (IntKind.u8.wrap (Int.tmod (List.length x2 : Int) 256)), (IntKind.u8.wrap (IntKind.i64.wrap (Int.tdiv (List.length x2 : Int) 256)))] : List Int) + List.length x2) * 1 ≤ 140737488355328)) then ((f_68 N (([116, 109, x1, (IntKind.u8.wrap (Int.tmod (List.length x2 : Int) 256)), (IntKind.u8.wrap (IntKind.i64.wrap (Int.tdiv (List.length x2 : Int) 256)))] : List Int) ++ x2)).bind fun r3 => (some (r3, 0))) else none))))
theorem ok_36 (N : Nat) (x1 : Int) (x2 : List Int) : f_36 N x1 x2 = exec (X_36 N) Go.Proofs.Tryz.f36.ntmps (lp_36 N) c_36 0 (fnK (X_36 N) Go.Proofs.Tryz.f36.results.toList 0 [.one (.slt [.int .u8] 5 1), .one (.d (.int .i64))]) (fnSt 2 0 [.one (.d (.int .u8)), .one (.d (.sl [.int .u8]))] (x1, x2)) := by kernel_rfl
noncomputable def S_36 (N : Nat) : Sum := fnSum 2 0 2 [.one (.d (.int .u8)), .one (.d (.sl [.int .u8]))] [.one (.slt [.int .u8] 5 1), .one (.d (.int .i64))] (fun p => f_36 N p.1 p.2)
theorem s_36 (N : Nat) : SumOk Go.Proofs.Tryz.prog laidL 36 (S_36 N) :=
  fn_ok (lp := lp_36 N) (x_36 N) Go.Proofs.Tryz.func36 (c := c_36) (by kernel_rfl) (by kernel_rfl) rfl (fun p => ok_36 N p.1 p.2) (loopsAll (by kernel_rfl) (lookOk_nil))
noncomputable def X_44 (N : Nat) : Ctx := ⟨tyT, lookF [(74, (S_74 N)), (75, (S_75 N))], eqT, fun _ => false⟩
noncomputable def c_44 : Code := bodyOf Go.Proofs.Tryz.f44
theorem x_44 (N : Nat) : CtxOk Go.Proofs.Tryz.prog laidL (X_44 N) := ⟨tyOk, eqOk, fun _ _ => (fnsOk_cons (s_74 N) (fnsOk_cons (s_75 N) fnsOk_nil)).get, by kernel_rfl⟩
noncomputable def lp_44 (_ : Nat) : Nat → Option LSum := lookL []
noncomputable def f_44 (N : Nat) (x1 : Int) (x2 : List Int) : Option (TAs [.one (.d (.sl [.int .u8])), .one (.d (.int .i64))]) :=
  (bif (decide (x1 < 1)) then (some (([] : List Int), 1)) else (bif (decide (x1 > 6)) then (some (([] : List Int), 1)) else ((f_74 N x2).bind fun r3 => (bif (r3.2.2 != 0) then (some (([] : List Int), r3.2.2)) else (bif (r3.1 != x1) then (some (([] : List Int), 3)) else (bif (r3.2.1 != (List.length x2 : Int)) then (some (([] : List Int), 3)) else ((f_75 N x2).bind fun r4 => (bif (r4.2 != 0) then (some (([] : List Int), r4.2)) else (bif (decide (0 ≤ (List.length r4.1 : Int) ∧ (List.length r4.1 : Int) ≤ (List.length r4.1 : Int))) then (bif (decide (0 ≤ (5 : Int) ∧ (5 : Int) ≤ (List.length r4.1 : Int))) then (some ((List.drop (Int.toNat (5 : Int)) (List.take (Int.toNat (List.length r4.1 : Int)) r4.1)), 0)) else none) else none)))))))))
theorem ok_44 (N : Nat) (x1 : Int) (x2 : List Int) : f_44 N x1 x2 = exec (X_44 N) Go.Proofs.Tryz.f44.ntmps (lp_44 N) c_44 0 (fnK (X_44 N) Go.Proofs.Tryz.f44.results.toList 0 [.one (.d (.sl [.int .u8])), .one (.d (.int .i64))]) (fnSt 2 0 [.one (.d (.int .u8)), .one (.d (.sl [.int .u8]))] (x1, x2)) := by kernel_rfl
noncomputable def S_44 (N : Nat) : Sum := fnSum 2 0 2 [.one (.d (.int .u8)), .one (.d (.sl [.int .u8]))] [.one (.d (.sl [.int .u8])), .one (.d (.int .i64))] (fun p => f_44 N p.1 p.2)
theorem s_44 (N : Nat) : SumOk Go.Proofs.Tryz.prog laidL 44 (S_44 N) :=
  fn_ok (lp := lp_44 N) (x_44 N) Go.Proofs.Tryz.func44 (c := c_44) (by kernel_rfl) (by kernel_rfl) rfl (fun p => ok_44 N p.1 p.2) (loopsAll (by kernel_rfl) (lookOk_nil))
noncomputable def X_76 (N : Nat) : Ctx := ⟨tyT, lookF [(99, (S_99 N)), (100, (S_100 N)), (101, (S_101 N)), (102, (S_102 N))], eqT, fun _ => false⟩
noncomputable def c_76 : Code := bodyOf Go.Proofs.Tryz.f76
theorem x_76 (N : Nat) : CtxOk Go.Proofs.Tryz.prog laidL (X_76 N) := ⟨tyOk, eqOk, fun _ _ => (fnsOk_cons (s_99 N) (fnsOk_cons (s_100 N) (fnsOk_cons (s_101 N) (fnsOk_cons (s_102 N) fnsOk_nil)))).get, by kernel_rfl⟩
noncomputable def nd_76_0 : Code := loopAt 0 0 c_76
noncomputable def cb_76_0 : Code := unloop nd_76_0
theorem ne_76_0 : nd_76_0 = .loop cb_76_0 := by kernel_rfl
noncomputable def sh_76_0 : List ShA := [.agg [.d (.err 93), .d (.err 93), .d (.err 93), .d (.err 93)], .one (.d (.int .i64))]
noncomputable def o_76_0 : OutK 0 (((TAs [.one (.d (.err 93))]) ⊕ (TAs []))) := (outTwo (outOne 0 .ret [2] [] [.one (.d (.err 93))]) (outOne 0 (.exit 0) [] [] []))
noncomputable def b_76_0 (_ : Nat) (ih : TAs sh_76_0 → Option (((TAs [.one (.d (.err 93))]) ⊕ (TAs [])))) : TAs sh_76_0 → Option (((TAs [.one (.d (.err 93))]) ⊕ (TAs []))) := fun ((y15, y16, y17, y18), y19) =>
  (bif (decide (y19 < 4)) then (bif (decide (y19 = (0 : Int))) then (bif (!(Option.isNone y15)) then (some (.inl (some 1))) else (ih ((y15, y16, y17, y18), (IntKind.i64.wrap (y19 + 1))))) else (bif (decide (y19 = (1 : Int))) then (bif (!(Option.isNone y16)) then (some (.inl (some 1))) else (ih ((y15, y16, y17, y18), (IntKind.i64.wrap (y19 + 1))))) else (bif (decide (y19 = (2 : Int))) then (bif (!(Option.isNone y17)) then (some (.inl (some 1))) else (ih ((y15, y16, y17, y18), (IntKind.i64.wrap (y19 + 1))))) else (bif (decide (y19 = (3 : Int))) then (bif (!(Option.isNone y18)) then (some (.inl (some 1))) else (ih ((y15, y16, y17, y18), (IntKind.i64.wrap (y19 + 1))))) else none)))) else (some (.inr ())))
noncomputable def l_76_0 (N : Nat) : TAs sh_76_0 → Option (((TAs [.one (.d (.err 93))]) ⊕ (TAs []))) := iter (b_76_0 N) N
noncomputable def lp_76_0 (_ : Nat) : Nat → Option LSum := lookL []
noncomputable def L_76_0 (N : Nat) : LSum := loopSum [17, 18] [] sh_76_0 o_76_0 (l_76_0 N)
theorem b_ok_76_0 (N : Nat) (ih : TAs sh_76_0 → Option (((TAs [.one (.d (.err 93))]) ⊕ (TAs [])))) (p : TAs sh_76_0) : b_76_0 N ih p = exec (X_76 N) Go.Proofs.Tryz.f76.ntmps (lp_76_0 N) cb_76_0 0 (roundK [17, 18] [] sh_76_0 o_76_0 ih) (stOf [17, 18] [] sh_76_0 p) := by kernel_rfl
theorem L_ok_76_0 (N : Nat) : SegOk Go.Proofs.Tryz.prog laidL 0 Go.Proofs.Tryz.f76.ntmps nd_76_0 (L_76_0 N) :=
  ne_76_0 ▸ loop_ok (cur := 0) (lp := lp_76_0 N) (x_76 N) (fun n => iter (b_76_0 N) n) (fun _ => rfl) (fun n p => b_ok_76_0 N (iter (b_76_0 N) n) p) (loopsAll (by kernel_rfl) (lookOk_nil)) N
noncomputable def lp_76 (N : Nat) : Nat → Option LSum := lookL [(0, L_76_0 N)]
noncomputable def f_76 (N : Nat) (x1 : Int) (x2 : Int) (x3 : Int) (x4 : Int) (x5 : Int) (x6 : Int) (_x7 : Bool) (x8 : ByteArray) (x9 : Int) (x10 : List (Int × Int × ByteArray)) : Option (TAs [.one (.d (.err 93))]) :=
  ((f_99 N x1 x2 x3).bind fun r11 => ((f_100 N x4).bind fun r12 => ((f_101 N x5 x6).bind fun r13 => ((f_102 N x8 x9 x10).bind fun r14 => ((l_76_0 N ((r11, r12, r13, r14), 0)).bind fun q => (match q with | .inl q20 => (some q20) | .inr _ => (some none)))))))
theorem ok_76 (N : Nat) (x1 : Int) (x2 : Int) (x3 : Int) (x4 : Int) (x5 : Int) (x6 : Int) (x7 : Bool) (x8 : ByteArray) (x9 : Int) (x10 : List (Int × Int × ByteArray)) : f_76 N x1 x2 x3 x4 x5 x6 x7 x8 x9 x10 = exec (X_76 N) Go.Proofs.Tryz.f76.ntmps (lp_76 N) c_76 0 (fnK (X_76 N) Go.Proofs.Tryz.f76.results.toList 0 [.one (.d (.err 93))]) (fnSt 1 0 [.agg [.d (.int .i64), .d (.int .i64), .d (.int .i64), .d (.int .i64), .d (.int .i64), .d (.int .i64), .d (.bool), .d (.str), .d (.int .i64), .d (.sl [.int .i64, .int .i64, .str])]] (x1, x2, x3, x4, x5, x6, x7, x8, x9, x10)) := by kernel_rfl
noncomputable def S_76 (N : Nat) : Sum := fnSum 1 0 1 [.agg [.d (.int .i64), .d (.int .i64), .d (.int .i64), .d (.int .i64), .d (.int .i64), .d (.int .i64), .d (.bool), .d (.str), .d (.int .i64), .d (.sl [.int .i64, .int .i64, .str])]] [.one (.d (.err 93))] (fun p => f_76 N p.1 p.2.1 p.2.2.1 p.2.2.2.1 p.2.2.2.2.1 p.2.2.2.2.2.1 p.2.2.2.2.2.2.1 p.2.2.2.2.2.2.2.1 p.2.2.2.2.2.2.2.2.1 p.2.2.2.2.2.2.2.2.2)
theorem s_76 (N : Nat) : SumOk Go.Proofs.Tryz.prog laidL 76 (S_76 N) :=
  fn_ok (lp := lp_76 N) (x_76 N) Go.Proofs.Tryz.func76 (c := c_76) (by kernel_rfl) (by kernel_rfl) rfl (fun p => ok_76 N p.1 p.2.1 p.2.2.1 p.2.2.2.1 p.2.2.2.2.1 p.2.2.2.2.2.1 p.2.2.2.2.2.2.1 p.2.2.2.2.2.2.2.1 p.2.2.2.2.2.2.2.2.1 p.2.2.2.2.2.2.2.2.2) (loopsAll (by kernel_rfl) ((lookOk_cons (L_ok_76_0 N) lookOk_nil)))
noncomputable def X_81 (N : Nat) : Ctx := ⟨tyT, lookF [(105, (S_105 N)), (106, (S_106 N)), (107, (S_107 N)), (108, (S_108 N))], eqT, fun _ => false⟩
noncomputable def c_81 : Code := bodyOf Go.Proofs.Tryz.f81
theorem x_81 (N : Nat) : CtxOk Go.Proofs.Tryz.prog laidL (X_81 N) := ⟨tyOk, eqOk, fun _ _ => (fnsOk_cons (s_105 N) (fnsOk_cons (s_106 N) (fnsOk_cons (s_107 N) (fnsOk_cons (s_108 N) fnsOk_nil)))).get, by kernel_rfl⟩
noncomputable def lp_81 (_ : Nat) : Nat → Option LSum := lookL []
noncomputable def f_81 (N : Nat) (x1 : Int) (x2 : Int) (x3 : Int) (x4 : Int) (x5 : Int) (x6 : Int) (_x7 : Bool) (x8 : ByteArray) (x9 : Int) (x10 : List (Int × Int × ByteArray)) : Option (TAs [.one (.d (.bool))]) :=
  ((f_105 N x1 x2 x3).bind fun r11 => (bif r11 then ((f_106 N x4).bind fun r12 => (bif r12 then ((f_107 N x5 x6).bind fun r13 => (bif r13 then ((f_108 N x8 x9 x10).bind fun r14 => (some r14)) else (some false))) else (some false))) else (some false)))
theorem ok_81 (N : Nat) (x1 : Int) (x2 : Int) (x3 : Int) (x4 : Int) (x5 : Int) (x6 : Int) (x7 : Bool) (x8 : ByteArray) (x9 : Int) (x10 : List (Int × Int × ByteArray)) : f_81 N x1 x2 x3 x4 x5 x6 x7 x8 x9 x10 = exec (X_81 N) Go.Proofs.Tryz.f81.ntmps (lp_81 N) c_81 0 (fnK (X_81 N) Go.Proofs.Tryz.f81.results.toList 0 [.one (.d (.bool))]) (fnSt 1 0 [.agg [.d (.int .i64), .d (.int .i64), .d (.int .i64), .d (.int .i64), .d (.int .i64), .d (.int .i64), .d (.bool), .d (.str), .d (.int .i64), .d (.sl [.int .i64, .int .i64, .str])]] (x1, x2, x3, x4, x5, x6, x7, x8, x9, x10)) := by kernel_rfl
noncomputable def S_81 (N : Nat) : Sum := fnSum 1 0 1 [.agg [.d (.int .i64), .d (.int .i64), .d (.int .i64), .d (.int .i64), .d (.int .i64), .d (.int .i64), .d (.bool), .d (.str), .d (.int .i64), .d (.sl [.int .i64, .int .i64, .str])]] [.one (.d (.bool))] (fun p => f_81 N p.1 p.2.1 p.2.2.1 p.2.2.2.1 p.2.2.2.2.1 p.2.2.2.2.2.1 p.2.2.2.2.2.2.1 p.2.2.2.2.2.2.2.1 p.2.2.2.2.2.2.2.2.1 p.2.2.2.2.2.2.2.2.2)
theorem s_81 (N : Nat) : SumOk Go.Proofs.Tryz.prog laidL 81 (S_81 N) :=
  fn_ok (lp := lp_81 N) (x_81 N) Go.Proofs.Tryz.func81 (c := c_81) (by kernel_rfl) (by kernel_rfl) rfl (fun p => ok_81 N p.1 p.2.1 p.2.2.1 p.2.2.2.1 p.2.2.2.2.1 p.2.2.2.2.2.1 p.2.2.2.2.2.2.1 p.2.2.2.2.2.2.2.1 p.2.2.2.2.2.2.2.2.1 p.2.2.2.2.2.2.2.2.2) (loopsAll (by kernel_rfl) (lookOk_nil))
noncomputable def X_82 (N : Nat) : Ctx := ⟨tyT, lookF [(108, (S_108 N)), (34, (S_34 N)), (35, (S_35 N)), (36, (S_36 N))], eqT, fun _ => false⟩
noncomputable def c_82 : Code := bodyOf Go.Proofs.Tryz.f82
theorem x_82 (N : Nat) : CtxOk Go.Proofs.Tryz.prog laidL (X_82 N) := ⟨tyOk, eqOk, fun _ _ => (fnsOk_cons (s_108 N) (fnsOk_cons (s_34 N) (fnsOk_cons (s_35 N) (fnsOk_cons (s_36 N) fnsOk_nil)))).get, by kernel_rfl⟩
noncomputable def nd_82_0 : Code := loopAt 0 0 c_82
noncomputable def cb_82_0 : Code := unloop nd_82_0
theorem ne_82_0 : nd_82_0 = .loop cb_82_0 := by kernel_rfl
noncomputable def sh_82_0 : List ShA := [.one (.ptr 144 0), .one (.slt [.int .u8] 5 1), .one (.d (.int .i64)), .agg [.d (.str), .d (.int .i64), .d (.sl [.int .i64, .int .i64, .str])]]
noncomputable def o_82_0 : OutK 0 (TAs [.one (.slt [.int .u8] 5 1)]) := (outOne 0 (.exit 0) [4] [] [.one (.slt [.int .u8] 5 1)])
noncomputable def b_82_0 (N : Nat) (ih : TAs sh_82_0 → Option (TAs [.one (.slt [.int .u8] 5 1)])) : TAs sh_82_0 → Option (TAs [.one (.slt [.int .u8] 5 1)]) := fun (_, y8, y9, (y10, y11, y12)) =>
  (bif (decide (y9 < (List.length y12 : Int))) then (bif (decide (0 ≤ y9 ∧ y9 < (List.length y12 : Int))) then ((f_35 N y8 (IntKind.u64.wrap (List.getD y12 (Int.toNat y9) (0, 0, ByteArray.empty)).1) 8).bind fun r13 => (bif (decide (0 ≤ y9 ∧ y9 < (List.length y12 : Int))) then ((f_35 N r13 (IntKind.u64.wrap (List.getD y12 (Int.toNat y9) (0, 0, ByteArray.empty)).2.1) 8).bind fun r14 => (bif (decide (0 ≤ y9 ∧ y9 < (List.length y12 : Int))) then ((f_34 N r14 ((List.getD y12 (Int.toNat y9) (0, 0, ByteArray.empty)).2.2)).bind fun r15 => (ih ((), r15.1, (IntKind.i64.wrap (y9 + 1)), (y10, y11, y12)))) else none)) else none)) else none) else (some (y8)))
noncomputable def l_82_0 (N : Nat) : TAs sh_82_0 → Option (TAs [.one (.slt [.int .u8] 5 1)]) := iter (b_82_0 N) N
noncomputable def lp_82_0 (_ : Nat) : Nat → Option LSum := lookL []
noncomputable def L_82_0 (N : Nat) : LSum := loopSum [1, 4, 6] [144] sh_82_0 o_82_0 (l_82_0 N)
theorem b_ok_82_0 (N : Nat) (ih : TAs sh_82_0 → Option (TAs [.one (.slt [.int .u8] 5 1)])) (p : TAs sh_82_0) : b_82_0 N ih p = exec (X_82 N) Go.Proofs.Tryz.f82.ntmps (lp_82_0 N) cb_82_0 0 (roundK [1, 4, 6] [144] sh_82_0 o_82_0 ih) (stOf [1, 4, 6] [144] sh_82_0 p) := by kernel_rfl
theorem L_ok_82_0 (N : Nat) : SegOk Go.Proofs.Tryz.prog laidL 0 Go.Proofs.Tryz.f82.ntmps nd_82_0 (L_82_0 N) :=
  ne_82_0 ▸ loop_ok (cur := 0) (lp := lp_82_0 N) (x_82 N) (fun n => iter (b_82_0 N) n) (fun _ => rfl) (fun n p => b_ok_82_0 N (iter (b_82_0 N) n) p) (loopsAll (by kernel_rfl) (lookOk_nil)) N
noncomputable def lp_82 (N : Nat) : Nat → Option LSum := lookL [(0, L_82_0 N)]
noncomputable def f_82 (N : Nat) (x1 : ByteArray) (x2 : Int) (x3 : List (Int × Int × ByteArray)) : Option (TAs [.one (.slt [.int .u8] 5 1), .one (.d (.int .i64))]) :=
  ((f_108 N x1 x2 x3).bind fun r4 => (bif (!r4) then (some (([] : List Int), 1)) else ((f_34 N ([] : List Int) x1).bind fun r5 => ((f_35 N r5.1 (IntKind.u64.wrap x2) 8).bind fun r6 => ((f_35 N r6 (IntKind.u64.wrap (List.length x3 : Int)) 1).bind fun r7 => ((l_82_0 N ((), r7, 0, (x1, x2, x3))).bind fun q16 => ((f_36 N 6 q16).bind fun r17 => (some (r17.1, r17.2)))))))))
theorem ok_82 (N : Nat) (x1 : ByteArray) (x2 : Int) (x3 : List (Int × Int × ByteArray)) : f_82 N x1 x2 x3 = exec (X_82 N) Go.Proofs.Tryz.f82.ntmps (lp_82 N) c_82 0 (fnK (X_82 N) Go.Proofs.Tryz.f82.results.toList 0 [.one (.slt [.int .u8] 5 1), .one (.d (.int .i64))]) (fnSt 1 0 [.agg [.d (.str), .d (.int .i64), .d (.sl [.int .i64, .int .i64, .str])]] (x1, x2, x3)) := by kernel_rfl
noncomputable def S_82 (N : Nat) : Sum := fnSum 1 0 2 [.agg [.d (.str), .d (.int .i64), .d (.sl [.int .i64, .int .i64, .str])]] [.one (.slt [.int .u8] 5 1), .one (.d (.int .i64))] (fun p => f_82 N p.1 p.2.1 p.2.2)
theorem s_82 (N : Nat) : SumOk Go.Proofs.Tryz.prog laidL 82 (S_82 N) :=
  fn_ok (lp := lp_82 N) (x_82 N) Go.Proofs.Tryz.func82 (c := c_82) (by kernel_rfl) (by kernel_rfl) rfl (fun p => ok_82 N p.1 p.2.1 p.2.2) (loopsAll (by kernel_rfl) ((lookOk_cons (L_ok_82_0 N) lookOk_nil)))
noncomputable def X_85 (N : Nat) : Ctx := ⟨tyT, lookF [(44, (S_44 N)), (46, (S_46 N)), (45, (S_45 N)), (109, (S_109 N)), (108, (S_108 N))], eqT, fun _ => false⟩
noncomputable def c_85 : Code := bodyOf Go.Proofs.Tryz.f85
theorem x_85 (N : Nat) : CtxOk Go.Proofs.Tryz.prog laidL (X_85 N) := ⟨tyOk, eqOk, fun _ _ => (fnsOk_cons (s_44 N) (fnsOk_cons (s_46 N) (fnsOk_cons (s_45 N) (fnsOk_cons (s_109 N) (fnsOk_cons (s_108 N) fnsOk_nil))))).get, by kernel_rfl⟩
noncomputable def nd_85_0 : Code := loopAt 0 0 c_85
noncomputable def cb_85_0 : Code := unloop nd_85_0
theorem ne_85_0 : nd_85_0 = .loop cb_85_0 := by kernel_rfl
noncomputable def sh_85_0 : List ShA := [.one (.ptr 160 0), .one (.ptr 224 0), .one (.d (.int .u64)), .one (.ptr 288 0), .one (.d (.int .i64)), .agg [.d (.str), .d (.int .i64), .slt [.int .i64, .int .i64, .str] 127 3], .agg [.d (.sl [.int .u8]), .d (.bool)], .agg [.d (.str), .d (.int .i64), .slt [.int .i64, .int .i64, .str] 127 3]]
noncomputable def o_85_0 : OutK 0 (TAs [.one (.ptr 160 0), .one (.ptr 224 0), .one (.ptr 288 0), .agg [.d (.str), .d (.int .i64), .slt [.int .i64, .int .i64, .str] 127 3], .agg [.d (.sl [.int .u8]), .d (.bool)], .agg [.d (.str), .d (.int .i64), .slt [.int .i64, .int .i64, .str] 127 3]]) := (outOne 0 (.exit 0) [2, 6, 10] [160, 224, 288] [.one (.ptr 160 0), .one (.ptr 224 0), .one (.ptr 288 0), .agg [.d (.str), .d (.int .i64), .slt [.int .i64, .int .i64, .str] 127 3], .agg [.d (.sl [.int .u8]), .d (.bool)], .agg [.d (.str), .d (.int .i64), .slt [.int .i64, .int .i64, .str] 127 3]])
noncomputable def b_85_0 (N : Nat) (ih : TAs sh_85_0 → Option (TAs [.one (.ptr 160 0), .one (.ptr 224 0), .one (.ptr 288 0), .agg [.d (.str), .d (.int .i64), .slt [.int .i64, .int .i64, .str] 127 3], .agg [.d (.sl [.int .u8]), .d (.bool)], .agg [.d (.str), .d (.int .i64), .slt [.int .i64, .int .i64, .str] 127 3]])) : TAs sh_85_0 → Option (TAs [.one (.ptr 160 0), .one (.ptr 224 0), .one (.ptr 288 0), .agg [.d (.str), .d (.int .i64), .slt [.int .i64, .int .i64, .str] 127 3], .agg [.d (.sl [.int .u8]), .d (.bool)], .agg [.d (.str), .d (.int .i64), .slt [.int .i64, .int .i64, .str] 127 3]]) := fun (_, _, y6, _, y7, (y8, y9, y10), (y11, y12), (y13, y14, y15)) =>
  (bif (decide (y7 < (IntKind.i64.wrap y6))) then ((f_45 N y11 y12 8).bind fun r16 => ((f_45 N r16.1.1 r16.1.2 8).bind fun r17 => ((f_46 N r17.1.1 r17.1.2).bind fun r18 => (bif (decide ((List.length y15 + List.length ([((IntKind.i64.wrap r16.2), (IntKind.i64.wrap r17.2), r18.2)] : List (Int × Int × ByteArray))) * 32 ≤ 140737488355328)) then (ih ((), (), y6, (), (IntKind.i64.wrap (y7 + 1)), (y8, y9, y10), (r18.1.1, r18.1.2), (y13, y14, (y15 ++ ([((IntKind.i64.wrap r16.2), (IntKind.i64.wrap r17.2), r18.2)] : List (Int × Int × ByteArray)))))) else none)))) else (some (((), (), (), (y8, y9, y10), (y11, y12), (y13, y14, y15)))))
noncomputable def l_85_0 (N : Nat) : TAs sh_85_0 → Option (TAs [.one (.ptr 160 0), .one (.ptr 224 0), .one (.ptr 288 0), .agg [.d (.str), .d (.int .i64), .slt [.int .i64, .int .i64, .str] 127 3], .agg [.d (.sl [.int .u8]), .d (.bool)], .agg [.d (.str), .d (.int .i64), .slt [.int .i64, .int .i64, .str] 127 3]]) := iter (b_85_0 N) N
noncomputable def lp_85_0 (_ : Nat) : Nat → Option LSum := lookL []
noncomputable def L_85_0 (N : Nat) : LSum := loopSum [2, 6, 9, 10, 11] [160, 224, 288] sh_85_0 o_85_0 (l_85_0 N)
theorem b_ok_85_0 (N : Nat) (ih : TAs sh_85_0 → Option (TAs [.one (.ptr 160 0), .one (.ptr 224 0), .one (.ptr 288 0), .agg [.d (.str), .d (.int .i64), .slt [.int .i64, .int .i64, .str] 127 3], .agg [.d (.sl [.int .u8]), .d (.bool)], .agg [.d (.str), .d (.int .i64), .slt [.int .i64, .int .i64, .str] 127 3]])) (p : TAs sh_85_0) : b_85_0 N ih p = exec (X_85 N) Go.Proofs.Tryz.f85.ntmps (lp_85_0 N) cb_85_0 0 (roundK [2, 6, 9, 10, 11] [160, 224, 288] sh_85_0 o_85_0 ih) (stOf [2, 6, 9, 10, 11] [160, 224, 288] sh_85_0 p) := by kernel_rfl
theorem L_ok_85_0 (N : Nat) : SegOk Go.Proofs.Tryz.prog laidL 0 Go.Proofs.Tryz.f85.ntmps nd_85_0 (L_85_0 N) :=
  ne_85_0 ▸ loop_ok (cur := 0) (lp := lp_85_0 N) (x_85 N) (fun n => iter (b_85_0 N) n) (fun _ => rfl) (fun n p => b_ok_85_0 N (iter (b_85_0 N) n) p) (loopsAll (by kernel_rfl) (lookOk_nil)) N
noncomputable def lp_85 (N : Nat) : Nat → Option LSum := lookL [(0, L_85_0 N)]
noncomputable def f_85 (N : Nat) (x1 : List Int) : Option (TAs [.agg [.d (.str), .d (.int .i64), .slt [.int .i64, .int .i64, .str] 127 3], .one (.d (.int .i64))]) :=
  ((f_44 N 6 x1).bind fun r2 => (bif (r2.2 != 0) then (some ((ByteArray.empty, 0, ([] : List (Int × Int × ByteArray))), r2.2)) else ((f_46 N r2.1 false).bind fun r3 => ((f_45 N r3.1.1 r3.1.2 8).bind fun r4 => ((f_45 N r4.1.1 r4.1.2 1).bind fun r5 => ((l_85_0 N ((), (), r5.2, (), 0, (ByteArray.empty, 0, ([] : List (Int × Int × ByteArray))), (r5.1.1, r5.1.2), (r3.2, (IntKind.i64.wrap r4.2), ([] : List (Int × Int × ByteArray))))).bind fun q19 => ((f_109 N q19.2.2.2.2.1.1 q19.2.2.2.2.1.2).bind fun r20 => (bif (!r20) then (some ((ByteArray.empty, 0, ([] : List (Int × Int × ByteArray))), 3)) else ((f_108 N q19.2.2.2.2.2.1 q19.2.2.2.2.2.2.1 q19.2.2.2.2.2.2.2).bind fun r21 => (bif (!r21) then (some ((ByteArray.empty, 0, ([] : List (Int × Int × ByteArray))), 3)) else (some ((q19.2.2.2.2.2.1, q19.2.2.2.2.2.2.1, q19.2.2.2.2.2.2.2), 0))))))))))))
theorem ok_85 (N : Nat) (x1 : List Int) : f_85 N x1 = exec (X_85 N) Go.Proofs.Tryz.f85.ntmps (lp_85 N) c_85 0 (fnK (X_85 N) Go.Proofs.Tryz.f85.results.toList 0 [.agg [.d (.str), .d (.int .i64), .slt [.int .i64, .int .i64, .str] 127 3], .one (.d (.int .i64))]) (fnSt 1 0 [.one (.d (.sl [.int .u8]))] x1) := by kernel_rfl
noncomputable def S_85 (N : Nat) : Sum := fnSum 1 0 2 [.one (.d (.sl [.int .u8]))] [.agg [.d (.str), .d (.int .i64), .slt [.int .i64, .int .i64, .str] 127 3], .one (.d (.int .i64))] (fun p => f_85 N p)
theorem s_85 (N : Nat) : SumOk Go.Proofs.Tryz.prog laidL 85 (S_85 N) :=
  fn_ok (lp := lp_85 N) (x_85 N) Go.Proofs.Tryz.func85 (c := c_85) (by kernel_rfl) (by kernel_rfl) rfl (fun p => ok_85 N p) (loopsAll (by kernel_rfl) ((lookOk_cons (L_ok_85_0 N) lookOk_nil)))
noncomputable def X_94 (N : Nat) : Ctx := ⟨tyT, lookF [(119, (S_119 N))], eqT, fun _ => false⟩
noncomputable def c_94 : Code := bodyOf Go.Proofs.Tryz.f94
theorem x_94 (N : Nat) : CtxOk Go.Proofs.Tryz.prog laidL (X_94 N) := ⟨tyOk, eqOk, fun _ _ => (fnsOk_cons (s_119 N) fnsOk_nil).get, by kernel_rfl⟩
noncomputable def lp_94 (_ : Nat) : Nat → Option LSum := lookL []
noncomputable def f_94 (N : Nat) (x1 : List Int) : Option (TAs [.one (.d (.int .u32))]) :=
  ((f_119 N 0 x1).bind fun r2 => (some r2))
theorem ok_94 (N : Nat) (x1 : List Int) : f_94 N x1 = exec (X_94 N) Go.Proofs.Tryz.f94.ntmps (lp_94 N) c_94 0 (fnK (X_94 N) Go.Proofs.Tryz.f94.results.toList 0 [.one (.d (.int .u32))]) (fnSt 1 0 [.one (.d (.sl [.int .u8]))] x1) := by kernel_rfl
noncomputable def S_94 (N : Nat) : Sum := fnSum 1 0 1 [.one (.d (.sl [.int .u8]))] [.one (.d (.int .u32))] (fun p => f_94 N p)
theorem s_94 (N : Nat) : SumOk Go.Proofs.Tryz.prog laidL 94 (S_94 N) :=
  fn_ok (lp := lp_94 N) (x_94 N) Go.Proofs.Tryz.func94 (c := c_94) (by kernel_rfl) (by kernel_rfl) rfl (fun p => ok_94 N p) (loopsAll (by kernel_rfl) (lookOk_nil))
noncomputable def X_129 (N : Nat) : Ctx := ⟨tyT, lookF [(133, (S_133 N))], eqT, fun _ => false⟩
noncomputable def c_129 : Code := bodyOf Go.Proofs.Tryz.f129
theorem x_129 (N : Nat) : CtxOk Go.Proofs.Tryz.prog laidL (X_129 N) := ⟨tyOk, eqOk, fun _ _ => (fnsOk_cons (s_133 N) fnsOk_nil).get, by kernel_rfl⟩
noncomputable def lp_129 (_ : Nat) : Nat → Option LSum := lookL []
noncomputable def f_129 (N : Nat) (x1 : Int) : Option (TAs [.one (.d (.int .i64))]) :=
  (bif (decide (x1 < 0)) then ((f_133 N 0 x1).bind fun r2 => (some r2)) else (some x1))
theorem ok_129 (N : Nat) (x1 : Int) : f_129 N x1 = exec (X_129 N) Go.Proofs.Tryz.f129.ntmps (lp_129 N) c_129 0 (fnK (X_129 N) Go.Proofs.Tryz.f129.results.toList 0 [.one (.d (.int .i64))]) (fnSt 1 0 [.one (.d (.int .i64))] x1) := by kernel_rfl
noncomputable def S_129 (N : Nat) : Sum := fnSum 1 0 1 [.one (.d (.int .i64))] [.one (.d (.int .i64))] (fun p => f_129 N p)
theorem s_129 (N : Nat) : SumOk Go.Proofs.Tryz.prog laidL 129 (S_129 N) :=
  fn_ok (lp := lp_129 N) (x_129 N) Go.Proofs.Tryz.func129 (c := c_129) (by kernel_rfl) (by kernel_rfl) rfl (fun p => ok_129 N p) (loopsAll (by kernel_rfl) (lookOk_nil))
noncomputable def X_6 (N : Nat) : Ctx := ⟨tyT, lookF [(16, (S_16 N))], eqT, fun _ => false⟩
noncomputable def c_6 : Code := bodyOf Go.Proofs.Tryz.f6
theorem x_6 (N : Nat) : CtxOk Go.Proofs.Tryz.prog laidL (X_6 N) := ⟨tyOk, eqOk, fun _ _ => (fnsOk_cons (s_16 N) fnsOk_nil).get, by kernel_rfl⟩
noncomputable def lp_6 (_ : Nat) : Nat → Option LSum := lookL []
noncomputable def f_6 (N : Nat) (x1 : Int) (x2 : Int) (x3 : ByteArray) (x4 : ByteArray) (x5 : List Int) (x6 : Int) (x7 : Int) (x8 : Int) (x9 : Int) (x10 : Int) (x11 : Int) (x12 : Bool) (x13 : ByteArray) (x14 : Int) (x15 : List (Int × Int × ByteArray)) (x16 : Bool) (x17 : Int) (x18 : Int) (x19 : Bool) (x20 : Int) (x21 : Int) : Option (TAs [.agg [.d (.int .u8), .d (.int .i64), .d (.str), .d (.str), .d (.arr .u8 16), .d (.int .i64), .d (.int .i64), .d (.int .i64), .d (.int .i64), .d (.int .i64), .d (.int .i64), .d (.bool), .d (.str), .d (.int .i64), .slt [.int .i64, .int .i64, .str] 177 3, .d (.bool), .d (.int .i64), .d (.int .i64), .d (.bool), .d (.int .i64), .d (.int .i64)]]) :=
  ((f_16 N x4 x5 x6 x7 x8 x9 x10 x11 x12 x13 x14 x15 x16 x17 x18 x19 x20 x21).bind fun r22 => (some (x1, x2, x3, r22.1, r22.2.1, r22.2.2.1, r22.2.2.2.1, r22.2.2.2.2.1, r22.2.2.2.2.2.1, r22.2.2.2.2.2.2.1, r22.2.2.2.2.2.2.2.1, r22.2.2.2.2.2.2.2.2.1, r22.2.2.2.2.2.2.2.2.2.1, r22.2.2.2.2.2.2.2.2.2.2.1, r22.2.2.2.2.2.2.2.2.2.2.2.1, r22.2.2.2.2.2.2.2.2.2.2.2.2.1, r22.2.2.2.2.2.2.2.2.2.2.2.2.2.1, r22.2.2.2.2.2.2.2.2.2.2.2.2.2.2.1, r22.2.2.2.2.2.2.2.2.2.2.2.2.2.2.2.1, r22.2.2.2.2.2.2.2.2.2.2.2.2.2.2.2.2.1, r22.2.2.2.2.2.2.2.2.2.2.2.2.2.2.2.2.2)))
theorem ok_6 (N : Nat) (x1 : Int) (x2 : Int) (x3 : ByteArray) (x4 : ByteArray) (x5 : List Int) (x6 : Int) (x7 : Int) (x8 : Int) (x9 : Int) (x10 : Int) (x11 : Int) (x12 : Bool) (x13 : ByteArray) (x14 : Int) (x15 : List (Int × Int × ByteArray)) (x16 : Bool) (x17 : Int) (x18 : Int) (x19 : Bool) (x20 : Int) (x21 : Int) : f_6 N x1 x2 x3 x4 x5 x6 x7 x8 x9 x10 x11 x12 x13 x14 x15 x16 x17 x18 x19 x20 x21 = exec (X_6 N) Go.Proofs.Tryz.f6.ntmps (lp_6 N) c_6 0 (fnK (X_6 N) Go.Proofs.Tryz.f6.results.toList 0 [.agg [.d (.int .u8), .d (.int .i64), .d (.str), .d (.str), .d (.arr .u8 16), .d (.int .i64), .d (.int .i64), .d (.int .i64), .d (.int .i64), .d (.int .i64), .d (.int .i64), .d (.bool), .d (.str), .d (.int .i64), .slt [.int .i64, .int .i64, .str] 177 3, .d (.bool), .d (.int .i64), .d (.int .i64), .d (.bool), .d (.int .i64), .d (.int .i64)]]) (fnSt 1 0 [.agg [.d (.int .u8), .d (.int .i64), .d (.str), .d (.str), .d (.arr .u8 16), .d (.int .i64), .d (.int .i64), .d (.int .i64), .d (.int .i64), .d (.int .i64), .d (.int .i64), .d (.bool), .d (.str), .d (.int .i64), .d (.sl [.int .i64, .int .i64, .str]), .d (.bool), .d (.int .i64), .d (.int .i64), .d (.bool), .d (.int .i64), .d (.int .i64)]] (x1, x2, x3, x4, x5, x6, x7, x8, x9, x10, x11, x12, x13, x14, x15, x16, x17, x18, x19, x20, x21)) := by kernel_rfl
noncomputable def S_6 (N : Nat) : Sum := fnSum 1 0 1 [.agg [.d (.int .u8), .d (.int .i64), .d (.str), .d (.str), .d (.arr .u8 16), .d (.int .i64), .d (.int .i64), .d (.int .i64), .d (.int .i64), .d (.int .i64), .d (.int .i64), .d (.bool), .d (.str), .d (.int .i64), .d (.sl [.int .i64, .int .i64, .str]), .d (.bool), .d (.int .i64), .d (.int .i64), .d (.bool), .d (.int .i64), .d (.int .i64)]] [.agg [.d (.int .u8), .d (.int .i64), .d (.str), .d (.str), .d (.arr .u8 16), .d (.int .i64), .d (.int .i64), .d (.int .i64), .d (.int .i64), .d (.int .i64), .d (.int .i64), .d (.bool), .d (.str), .d (.int .i64), .slt [.int .i64, .int .i64, .str] 177 3, .d (.bool), .d (.int .i64), .d (.int .i64), .d (.bool), .d (.int .i64), .d (.int .i64)]] (fun p => f_6 N p.1 p.2.1 p.2.2.1 p.2.2.2.1 p.2.2.2.2.1 p.2.2.2.2.2.1 p.2.2.2.2.2.2.1 p.2.2.2.2.2.2.2.1 p.2.2.2.2.2.2.2.2.1 p.2.2.2.2.2.2.2.2.2.1 p.2.2.2.2.2.2.2.2.2.2.1 p.2.2.2.2.2.2.2.2.2.2.2.1 p.2.2.2.2.2.2.2.2.2.2.2.2.1 p.2.2.2.2.2.2.2.2.2.2.2.2.2.1 p.2.2.2.2.2.2.2.2.2.2.2.2.2.2.1 p.2.2.2.2.2.2.2.2.2.2.2.2.2.2.2.1 p.2.2.2.2.2.2.2.2.2.2.2.2.2.2.2.2.1 p.2.2.2.2.2.2.2.2.2.2.2.2.2.2.2.2.2.1 p.2.2.2.2.2.2.2.2.2.2.2.2.2.2.2.2.2.2.1 p.2.2.2.2.2.2.2.2.2.2.2.2.2.2.2.2.2.2.2.1 p.2.2.2.2.2.2.2.2.2.2.2.2.2.2.2.2.2.2.2.2)
theorem s_6 (N : Nat) : SumOk Go.Proofs.Tryz.prog laidL 6 (S_6 N) :=
  fn_ok (lp := lp_6 N) (x_6 N) Go.Proofs.Tryz.func6 (c := c_6) (by kernel_rfl) (by kernel_rfl) rfl (fun p => ok_6 N p.1 p.2.1 p.2.2.1 p.2.2.2.1 p.2.2.2.2.1 p.2.2.2.2.2.1 p.2.2.2.2.2.2.1 p.2.2.2.2.2.2.2.1 p.2.2.2.2.2.2.2.2.1 p.2.2.2.2.2.2.2.2.2.1 p.2.2.2.2.2.2.2.2.2.2.1 p.2.2.2.2.2.2.2.2.2.2.2.1 p.2.2.2.2.2.2.2.2.2.2.2.2.1 p.2.2.2.2.2.2.2.2.2.2.2.2.2.1 p.2.2.2.2.2.2.2.2.2.2.2.2.2.2.1 p.2.2.2.2.2.2.2.2.2.2.2.2.2.2.2.1 p.2.2.2.2.2.2.2.2.2.2.2.2.2.2.2.2.1 p.2.2.2.2.2.2.2.2.2.2.2.2.2.2.2.2.2.1 p.2.2.2.2.2.2.2.2.2.2.2.2.2.2.2.2.2.2.1 p.2.2.2.2.2.2.2.2.2.2.2.2.2.2.2.2.2.2.2.1 p.2.2.2.2.2.2.2.2.2.2.2.2.2.2.2.2.2.2.2.2) (loopsAll (by kernel_rfl) (lookOk_nil))
noncomputable def X_11 (N : Nat) : Ctx := ⟨tyT, lookF [(33, (S_33 N))], eqT, fun _ => false⟩
noncomputable def c_11 : Code := bodyOf Go.Proofs.Tryz.f11
theorem x_11 (N : Nat) : CtxOk Go.Proofs.Tryz.prog laidL (X_11 N) := ⟨tyOk, eqOk, fun _ _ => (fnsOk_cons (s_33 N) fnsOk_nil).get, by kernel_rfl⟩
noncomputable def lp_11 (_ : Nat) : Nat → Option LSum := lookL []
noncomputable def f_11 (N : Nat) (x1 : Int) (x2 : Int) (x3 : ByteArray) (x4 : ByteArray) (x5 : List Int) (x6 : Int) (x7 : Int) (x8 : Int) (x9 : Int) (x10 : Int) (x11 : Int) (x12 : Bool) (x13 : ByteArray) (x14 : Int) (x15 : List (Int × Int × ByteArray)) (x16 : Bool) (x17 : Int) (x18 : Int) (x19 : Bool) (x20 : Int) (x21 : Int) (x22 : Int) (x23 : Int) (x24 : ByteArray) (x25 : ByteArray) (x26 : List Int) (x27 : Int) (x28 : Int) (x29 : Int) (x30 : Int) (x31 : Int) (x32 : Int) (x33 : Bool) (x34 : ByteArray) (x35 : Int) (x36 : List (Int × Int × ByteArray)) (x37 : Bool) (x38 : Int) (x39 : Int) (x40 : Bool) (x41 : Int) (x42 : Int) : Option (TAs [.one (.d (.bool))]) :=
  (bif (x1 == x22) then (bif (x2 == x23) then (bif ((ByteArray.toList x3) == (ByteArray.toList x24)) then ((f_33 N x4 x5 x6 x7 x8 x9 x10 x11 x12 x13 x14 x15 x16 x17 x18 x19 x20 x21 x25 x26 x27 x28 x29 x30 x31 x32 x33 x34 x35 x36 x37 x38 x39 x40 x41 x42).bind fun r43 => (some r43)) else (some false)) else (some false)) else (some false))
theorem ok_11 (N : Nat) (x1 : Int) (x2 : Int) (x3 : ByteArray) (x4 : ByteArray) (x5 : List Int) (x6 : Int) (x7 : Int) (x8 : Int) (x9 : Int) (x10 : Int) (x11 : Int) (x12 : Bool) (x13 : ByteArray) (x14 : Int) (x15 : List (Int × Int × ByteArray)) (x16 : Bool) (x17 : Int) (x18 : Int) (x19 : Bool) (x20 : Int) (x21 : Int) (x22 : Int) (x23 : Int) (x24 : ByteArray) (x25 : ByteArray) (x26 : List Int) (x27 : Int) (x28 : Int) (x29 : Int) (x30 : Int) (x31 : Int) (x32 : Int) (x33 : Bool) (x34 : ByteArray) (x35 : Int) (x36 : List (Int × Int × ByteArray)) (x37 : Bool) (x38 : Int) (x39 : Int) (x40 : Bool) (x41 : Int) (x42 : Int) : f_11 N x1 x2 x3 x4 x5 x6 x7 x8 x9 x10 x11 x12 x13 x14 x15 x16 x17 x18 x19 x20 x21 x22 x23 x24 x25 x26 x27 x28 x29 x30 x31 x32 x33 x34 x35 x36 x37 x38 x39 x40 x41 x42 = exec (X_11 N) Go.Proofs.Tryz.f11.ntmps (lp_11 N) c_11 0 (fnK (X_11 N) Go.Proofs.Tryz.f11.results.toList 0 [.one (.d (.bool))]) (fnSt 2 0 [.agg [.d (.int .u8), .d (.int .i64), .d (.str), .d (.str), .d (.arr .u8 16), .d (.int .i64), .d (.int .i64), .d (.int .i64), .d (.int .i64), .d (.int .i64), .d (.int .i64), .d (.bool), .d (.str), .d (.int .i64), .d (.sl [.int .i64, .int .i64, .str]), .d (.bool), .d (.int .i64), .d (.int .i64), .d (.bool), .d (.int .i64), .d (.int .i64)], .agg [.d (.int .u8), .d (.int .i64), .d (.str), .d (.str), .d (.arr .u8 16), .d (.int .i64), .d (.int .i64), .d (.int .i64), .d (.int .i64), .d (.int .i64), .d (.int .i64), .d (.bool), .d (.str), .d (.int .i64), .d (.sl [.int .i64, .int .i64, .str]), .d (.bool), .d (.int .i64), .d (.int .i64), .d (.bool), .d (.int .i64), .d (.int .i64)]] ((x1, x2, x3, x4, x5, x6, x7, x8, x9, x10, x11, x12, x13, x14, x15, x16, x17, x18, x19, x20, x21), (x22, x23, x24, x25, x26, x27, x28, x29, x30, x31, x32, x33, x34, x35, x36, x37, x38, x39, x40, x41, x42))) := by kernel_rfl
noncomputable def S_11 (N : Nat) : Sum := fnSum 2 0 1 [.agg [.d (.int .u8), .d (.int .i64), .d (.str), .d (.str), .d (.arr .u8 16), .d (.int .i64), .d (.int .i64), .d (.int .i64), .d (.int .i64), .d (.int .i64), .d (.int .i64), .d (.bool), .d (.str), .d (.int .i64), .d (.sl [.int .i64, .int .i64, .str]), .d (.bool), .d (.int .i64), .d (.int .i64), .d (.bool), .d (.int .i64), .d (.int .i64)], .agg [.d (.int .u8), .d (.int .i64), .d (.str), .d (.str), .d (.arr .u8 16), .d (.int .i64), .d (.int .i64), .d (.int .i64), .d (.int .i64), .d (.int .i64), .d (.int .i64), .d (.bool), .d (.str), .d (.int .i64), .d (.sl [.int .i64, .int .i64, .str]), .d (.bool), .d (.int .i64), .d (.int .i64), .d (.bool), .d (.int .i64), .d (.int .i64)]] [.one (.d (.bool))] (fun p => f_11 N p.1.1 p.1.2.1 p.1.2.2.1 p.1.2.2.2.1 p.1.2.2.2.2.1 p.1.2.2.2.2.2.1 p.1.2.2.2.2.2.2.1 p.1.2.2.2.2.2.2.2.1 p.1.2.2.2.2.2.2.2.2.1 p.1.2.2.2.2.2.2.2.2.2.1 p.1.2.2.2.2.2.2.2.2.2.2.1 p.1.2.2.2.2.2.2.2.2.2.2.2.1 p.1.2.2.2.2.2.2.2.2.2.2.2.2.1 p.1.2.2.2.2.2.2.2.2.2.2.2.2.2.1 p.1.2.2.2.2.2.2.2.2.2.2.2.2.2.2.1 p.1.2.2.2.2.2.2.2.2.2.2.2.2.2.2.2.1 p.1.2.2.2.2.2.2.2.2.2.2.2.2.2.2.2.2.1 p.1.2.2.2.2.2.2.2.2.2.2.2.2.2.2.2.2.2.1 p.1.2.2.2.2.2.2.2.2.2.2.2.2.2.2.2.2.2.2.1 p.1.2.2.2.2.2.2.2.2.2.2.2.2.2.2.2.2.2.2.2.1 p.1.2.2.2.2.2.2.2.2.2.2.2.2.2.2.2.2.2.2.2.2 p.2.1 p.2.2.1 p.2.2.2.1 p.2.2.2.2.1 p.2.2.2.2.2.1 p.2.2.2.2.2.2.1 p.2.2.2.2.2.2.2.1 p.2.2.2.2.2.2.2.2.1 p.2.2.2.2.2.2.2.2.2.1 p.2.2.2.2.2.2.2.2.2.2.1 p.2.2.2.2.2.2.2.2.2.2.2.1 p.2.2.2.2.2.2.2.2.2.2.2.2.1 p.2.2.2.2.2.2.2.2.2.2.2.2.2.1 p.2.2.2.2.2.2.2.2.2.2.2.2.2.2.1 p.2.2.2.2.2.2.2.2.2.2.2.2.2.2.2.1 p.2.2.2.2.2.2.2.2.2.2.2.2.2.2.2.2.1 p.2.2.2.2.2.2.2.2.2.2.2.2.2.2.2.2.2.1 p.2.2.2.2.2.2.2.2.2.2.2.2.2.2.2.2.2.2.1 p.2.2.2.2.2.2.2.2.2.2.2.2.2.2.2.2.2.2.2.1 p.2.2.2.2.2.2.2.2.2.2.2.2.2.2.2.2.2.2.2.2.1 p.2.2.2.2.2.2.2.2.2.2.2.2.2.2.2.2.2.2.2.2.2)
theorem s_11 (N : Nat) : SumOk Go.Proofs.Tryz.prog laidL 11 (S_11 N) :=
  fn_ok (lp := lp_11 N) (x_11 N) Go.Proofs.Tryz.func11 (c := c_11) (by kernel_rfl) (by kernel_rfl) rfl (fun p => ok_11 N p.1.1 p.1.2.1 p.1.2.2.1 p.1.2.2.2.1 p.1.2.2.2.2.1 p.1.2.2.2.2.2.1 p.1.2.2.2.2.2.2.1 p.1.2.2.2.2.2.2.2.1 p.1.2.2.2.2.2.2.2.2.1 p.1.2.2.2.2.2.2.2.2.2.1 p.1.2.2.2.2.2.2.2.2.2.2.1 p.1.2.2.2.2.2.2.2.2.2.2.2.1 p.1.2.2.2.2.2.2.2.2.2.2.2.2.1 p.1.2.2.2.2.2.2.2.2.2.2.2.2.2.1 p.1.2.2.2.2.2.2.2.2.2.2.2.2.2.2.1 p.1.2.2.2.2.2.2.2.2.2.2.2.2.2.2.2.1 p.1.2.2.2.2.2.2.2.2.2.2.2.2.2.2.2.2.1 p.1.2.2.2.2.2.2.2.2.2.2.2.2.2.2.2.2.2.1 p.1.2.2.2.2.2.2.2.2.2.2.2.2.2.2.2.2.2.2.1 p.1.2.2.2.2.2.2.2.2.2.2.2.2.2.2.2.2.2.2.2.1 p.1.2.2.2.2.2.2.2.2.2.2.2.2.2.2.2.2.2.2.2.2 p.2.1 p.2.2.1 p.2.2.2.1 p.2.2.2.2.1 p.2.2.2.2.2.1 p.2.2.2.2.2.2.1 p.2.2.2.2.2.2.2.1 p.2.2.2.2.2.2.2.2.1 p.2.2.2.2.2.2.2.2.2.1 p.2.2.2.2.2.2.2.2.2.2.1 p.2.2.2.2.2.2.2.2.2.2.2.1 p.2.2.2.2.2.2.2.2.2.2.2.2.1 p.2.2.2.2.2.2.2.2.2.2.2.2.2.1 p.2.2.2.2.2.2.2.2.2.2.2.2.2.2.1 p.2.2.2.2.2.2.2.2.2.2.2.2.2.2.2.1 p.2.2.2.2.2.2.2.2.2.2.2.2.2.2.2.2.1 p.2.2.2.2.2.2.2.2.2.2.2.2.2.2.2.2.2.1 p.2.2.2.2.2.2.2.2.2.2.2.2.2.2.2.2.2.2.1 p.2.2.2.2.2.2.2.2.2.2.2.2.2.2.2.2.2.2.2.1 p.2.2.2.2.2.2.2.2.2.2.2.2.2.2.2.2.2.2.2.2.1 p.2.2.2.2.2.2.2.2.2.2.2.2.2.2.2.2.2.2.2.2.2) (loopsAll (by kernel_rfl) (lookOk_nil))
noncomputable def X_20 (N : Nat) : Ctx := ⟨tyT, lookF [(22, (S_22 N))], eqT, fun _ => false⟩
noncomputable def c_20 : Code := bodyOf Go.Proofs.Tryz.f20
theorem x_20 (N : Nat) : CtxOk Go.Proofs.Tryz.prog laidL (X_20 N) := ⟨tyOk, eqOk, fun _ _ => (fnsOk_cons (s_22 N) fnsOk_nil).get, by kernel_rfl⟩
noncomputable def lp_20 (_ : Nat) : Nat → Option LSum := lookL []
noncomputable def f_20 (N : Nat) (x1 : Int) (x2 : Int) (x3 : ByteArray) (x4 : ByteArray) (x5 : List Int) (x6 : Int) (x7 : Int) (x8 : Int) (x9 : Int) (x10 : Int) (x11 : Int) (x12 : Bool) (x13 : ByteArray) (x14 : Int) (x15 : List (Int × Int × ByteArray)) (x16 : Bool) (x17 : Int) (x18 : Int) (x19 : Bool) (x20 : Int) (x21 : Int) (x22 : Int) (x23 : Int) (x24 : ByteArray) (x25 : ByteArray) (x26 : List Int) (x27 : Int) (x28 : Int) (x29 : Int) (x30 : Int) (x31 : Int) (x32 : Int) (x33 : Bool) (x34 : ByteArray) (x35 : Int) (x36 : List (Int × Int × ByteArray)) (x37 : Bool) (x38 : Int) (x39 : Int) (x40 : Bool) (x41 : Int) (x42 : Int) : Option (TAs [.one (.d (.bool))]) :=
  (bif (x1 == x22) then (bif (x2 == x23) then (bif ((ByteArray.toList x3) == (ByteArray.toList x24)) then ((f_22 N x4 x5 x6 x7 x8 x9 x10 x11 x12 x13 x14 x15 x16 x17 x18 x19 x20 x21 x25 x26 x27 x28 x29 x30 x31 x32 x33 x34 x35 x36 x37 x38 x39 x40 x41 x42).bind fun r43 => (some r43)) else (some false)) else (some false)) else (some false))
theorem ok_20 (N : Nat) (x1 : Int) (x2 : Int) (x3 : ByteArray) (x4 : ByteArray) (x5 : List Int) (x6 : Int) (x7 : Int) (x8 : Int) (x9 : Int) (x10 : Int) (x11 : Int) (x12 : Bool) (x13 : ByteArray) (x14 : Int) (x15 : List (Int × Int × ByteArray)) (x16 : Bool) (x17 : Int) (x18 : Int) (x19 : Bool) (x20 : Int) (x21 : Int) (x22 : Int) (x23 : Int) (x24 : ByteArray) (x25 : ByteArray) (x26 : List Int) (x27 : Int) (x28 : Int) (x29 : Int) (x30 : Int) (x31 : Int) (x32 : Int) (x33 : Bool) (x34 : ByteArray) (x35 : Int) (x36 : List (Int × Int × ByteArray)) (x37 : Bool) (x38 : Int) (x39 : Int) (x40 : Bool) (x41 : Int) (x42 : Int) : f_20 N x1 x2 x3 x4 x5 x6 x7 x8 x9 x10 x11 x12 x13 x14 x15 x16 x17 x18 x19 x20 x21 x22 x23 x24 x25 x26 x27 x28 x29 x30 x31 x32 x33 x34 x35 x36 x37 x38 x39 x40 x41 x42 = exec (X_20 N) Go.Proofs.Tryz.f20.ntmps (lp_20 N) c_20 0 (fnK (X_20 N) Go.Proofs.Tryz.f20.results.toList 0 [.one (.d (.bool))]) (fnSt 2 0 [.agg [.d (.int .u8), .d (.int .i64), .d (.str), .d (.str), .d (.arr .u8 16), .d (.int .i64), .d (.int .i64), .d (.int .i64), .d (.int .i64), .d (.int .i64), .d (.int .i64), .d (.bool), .d (.str), .d (.int .i64), .d (.sl [.int .i64, .int .i64, .str]), .d (.bool), .d (.int .i64), .d (.int .i64), .d (.bool), .d (.int .i64), .d (.int .i64)], .agg [.d (.int .u8), .d (.int .i64), .d (.str), .d (.str), .d (.arr .u8 16), .d (.int .i64), .d (.int .i64), .d (.int .i64), .d (.int .i64), .d (.int .i64), .d (.int .i64), .d (.bool), .d (.str), .d (.int .i64), .d (.sl [.int .i64, .int .i64, .str]), .d (.bool), .d (.int .i64), .d (.int .i64), .d (.bool), .d (.int .i64), .d (.int .i64)]] ((x1, x2, x3, x4, x5, x6, x7, x8, x9, x10, x11, x12, x13, x14, x15, x16, x17, x18, x19, x20, x21), (x22, x23, x24, x25, x26, x27, x28, x29, x30, x31, x32, x33, x34, x35, x36, x37, x38, x39, x40, x41, x42))) := by kernel_rfl
noncomputable def S_20 (N : Nat) : Sum := fnSum 2 0 1 [.agg [.d (.int .u8), .d (.int .i64), .d (.str), .d (.str), .d (.arr .u8 16), .d (.int .i64), .d (.int .i64), .d (.int .i64), .d (.int .i64), .d (.int .i64), .d (.int .i64), .d (.bool), .d (.str), .d (.int .i64), .d (.sl [.int .i64, .int .i64, .str]), .d (.bool), .d (.int .i64), .d (.int .i64), .d (.bool), .d (.int .i64), .d (.int .i64)], .agg [.d (.int .u8), .d (.int .i64), .d (.str), .d (.str), .d (.arr .u8 16), .d (.int .i64), .d (.int .i64), .d (.int .i64), .d (.int .i64), .d (.int .i64), .d (.int .i64), .d (.bool), .d (.str), .d (.int .i64), .d (.sl [.int .i64, .int .i64, .str]), .d (.bool), .d (.int .i64), .d (.int .i64), .d (.bool), .d (.int .i64), .d (.int .i64)]] [.one (.d (.bool))] (fun p => f_20 N p.1.1 p.1.2.1 p.1.2.2.1 p.1.2.2.2.1 p.1.2.2.2.2.1 p.1.2.2.2.2.2.1 p.1.2.2.2.2.2.2.1 p.1.2.2.2.2.2.2.2.1 p.1.2.2.2.2.2.2.2.2.1 p.1.2.2.2.2.2.2.2.2.2.1 p.1.2.2.2.2.2.2.2.2.2.2.1 p.1.2.2.2.2.2.2.2.2.2.2.2.1 p.1.2.2.2.2.2.2.2.2.2.2.2.2.1 p.1.2.2.2.2.2.2.2.2.2.2.2.2.2.1 p.1.2.2.2.2.2.2.2.2.2.2.2.2.2.2.1 p.1.2.2.2.2.2.2.2.2.2.2.2.2.2.2.2.1 p.1.2.2.2.2.2.2.2.2.2.2.2.2.2.2.2.2.1 p.1.2.2.2.2.2.2.2.2.2.2.2.2.2.2.2.2.2.1 p.1.2.2.2.2.2.2.2.2.2.2.2.2.2.2.2.2.2.2.1 p.1.2.2.2.2.2.2.2.2.2.2.2.2.2.2.2.2.2.2.2.1 p.1.2.2.2.2.2.2.2.2.2.2.2.2.2.2.2.2.2.2.2.2 p.2.1 p.2.2.1 p.2.2.2.1 p.2.2.2.2.1 p.2.2.2.2.2.1 p.2.2.2.2.2.2.1 p.2.2.2.2.2.2.2.1 p.2.2.2.2.2.2.2.2.1 p.2.2.2.2.2.2.2.2.2.1 p.2.2.2.2.2.2.2.2.2.2.1 p.2.2.2.2.2.2.2.2.2.2.2.1 p.2.2.2.2.2.2.2.2.2.2.2.2.1 p.2.2.2.2.2.2.2.2.2.2.2.2.2.1 p.2.2.2.2.2.2.2.2.2.2.2.2.2.2.1 p.2.2.2.2.2.2.2.2.2.2.2.2.2.2.2.1 p.2.2.2.2.2.2.2.2.2.2.2.2.2.2.2.2.1 p.2.2.2.2.2.2.2.2.2.2.2.2.2.2.2.2.2.1 p.2.2.2.2.2.2.2.2.2.2.2.2.2.2.2.2.2.2.1 p.2.2.2.2.2.2.2.2.2.2.2.2.2.2.2.2.2.2.2.1 p.2.2.2.2.2.2.2.2.2.2.2.2.2.2.2.2.2.2.2.2.1 p.2.2.2.2.2.2.2.2.2.2.2.2.2.2.2.2.2.2.2.2.2)
theorem s_20 (N : Nat) : SumOk Go.Proofs.Tryz.prog laidL 20 (S_20 N) :=
  fn_ok (lp := lp_20 N) (x_20 N) Go.Proofs.Tryz.func20 (c := c_20) (by kernel_rfl) (by kernel_rfl) rfl (fun p => ok_20 N p.1.1 p.1.2.1 p.1.2.2.1 p.1.2.2.2.1 p.1.2.2.2.2.1 p.1.2.2.2.2.2.1 p.1.2.2.2.2.2.2.1 p.1.2.2.2.2.2.2.2.1 p.1.2.2.2.2.2.2.2.2.1 p.1.2.2.2.2.2.2.2.2.2.1 p.1.2.2.2.2.2.2.2.2.2.2.1 p.1.2.2.2.2.2.2.2.2.2.2.2.1 p.1.2.2.2.2.2.2.2.2.2.2.2.2.1 p.1.2.2.2.2.2.2.2.2.2.2.2.2.2.1 p.1.2.2.2.2.2.2.2.2.2.2.2.2.2.2.1 p.1.2.2.2.2.2.2.2.2.2.2.2.2.2.2.2.1 p.1.2.2.2.2.2.2.2.2.2.2.2.2.2.2.2.2.1 p.1.2.2.2.2.2.2.2.2.2.2.2.2.2.2.2.2.2.1 p.1.2.2.2.2.2.2.2.2.2.2.2.2.2.2.2.2.2.2.1 p.1.2.2.2.2.2.2.2.2.2.2.2.2.2.2.2.2.2.2.2.1 p.1.2.2.2.2.2.2.2.2.2.2.2.2.2.2.2.2.2.2.2.2 p.2.1 p.2.2.1 p.2.2.2.1 p.2.2.2.2.1 p.2.2.2.2.2.1 p.2.2.2.2.2.2.1 p.2.2.2.2.2.2.2.1 p.2.2.2.2.2.2.2.2.1 p.2.2.2.2.2.2.2.2.2.1 p.2.2.2.2.2.2.2.2.2.2.1 p.2.2.2.2.2.2.2.2.2.2.2.1 p.2.2.2.2.2.2.2.2.2.2.2.2.1 p.2.2.2.2.2.2.2.2.2.2.2.2.2.1 p.2.2.2.2.2.2.2.2.2.2.2.2.2.2.1 p.2.2.2.2.2.2.2.2.2.2.2.2.2.2.2.1 p.2.2.2.2.2.2.2.2.2.2.2.2.2.2.2.2.1 p.2.2.2.2.2.2.2.2.2.2.2.2.2.2.2.2.2.1 p.2.2.2.2.2.2.2.2.2.2.2.2.2.2.2.2.2.2.1 p.2.2.2.2.2.2.2.2.2.2.2.2.2.2.2.2.2.2.2.1 p.2.2.2.2.2.2.2.2.2.2.2.2.2.2.2.2.2.2.2.2.1 p.2.2.2.2.2.2.2.2.2.2.2.2.2.2.2.2.2.2.2.2.2) (loopsAll (by kernel_rfl) (lookOk_nil))
noncomputable def X_52 (N : Nat) : Ctx := ⟨tyT, lookF [(81, (S_81 N)), (82, (S_82 N)), (35, (S_35 N)), (36, (S_36 N))], eqT, fun _ => false⟩
noncomputable def c_52 : Code := bodyOf Go.Proofs.Tryz.f52
theorem x_52 (N : Nat) : CtxOk Go.Proofs.Tryz.prog laidL (X_52 N) := ⟨tyOk, eqOk, fun _ _ => (fnsOk_cons (s_81 N) (fnsOk_cons (s_82 N) (fnsOk_cons (s_35 N) (fnsOk_cons (s_36 N) fnsOk_nil)))).get, by kernel_rfl⟩
noncomputable def lp_52 (_ : Nat) : Nat → Option LSum := lookL []
noncomputable def f_52 (N : Nat) (x1 : Int) (x2 : Int) (x3 : Int) (x4 : Int) (x5 : Int) (x6 : Int) (x7 : Bool) (x8 : ByteArray) (x9 : Int) (x10 : List (Int × Int × ByteArray)) : Option (TAs [.one (.slt [.int .u8] 5 1), .one (.d (.int .i64))]) :=
  ((f_81 N x1 x2 x3 x4 x5 x6 x7 x8 x9 x10).bind fun r11 => (bif (!r11) then (some (([] : List Int), 1)) else ((f_82 N x8 x9 x10).bind fun r12 => ((f_35 N ([] : List Int) (IntKind.u64.wrap x1) 1).bind fun r13 => ((f_35 N r13 (IntKind.u64.wrap x2) 8).bind fun r14 => ((f_35 N r14 (IntKind.u64.wrap x3) 8).bind fun r15 => ((f_35 N r15 (IntKind.u64.wrap x4) 8).bind fun r16 => ((f_35 N r16 (IntKind.u64.wrap x5) 8).bind fun r17 => ((f_35 N r17 (IntKind.u64.wrap x6) 8).bind fun r18 => (bif x7 then (bif (decide ((List.length r18 + List.length ([1] : List Int)) * 1 ≤ 140737488355328)) then ((f_35 N (r18 ++ ([1] : List Int)) (IntKind.u64.wrap (List.length r12.1 : Int)) 2).bind fun r19 => (bif (decide ((List.length r19 + List.length r12.1) * 1 ≤ 140737488355328)) then ((f_36 N 3 (r19 ++ r12.1)).bind fun r20 => (some (r20.1, r20.2))) else none)) else none) else (bif (decide ((List.length r18 + List.length ([0] : List Int)) * 1 ≤ 140737488355328)) then ((f_35 N (r18 ++ ([0] : List Int)) (IntKind.u64.wrap (List.length r12.1 : Int)) 2).bind fun r21 => (bif (decide ((List.length r21 + List.length r12.1) * 1 ≤ 140737488355328)) then ((f_36 N 3 (r21 ++ r12.1)).bind fun r22 => (some (r22.1, r22.2))) else none)) else none)))))))))))
theorem ok_52 (N : Nat) (x1 : Int) (x2 : Int) (x3 : Int) (x4 : Int) (x5 : Int) (x6 : Int) (x7 : Bool) (x8 : ByteArray) (x9 : Int) (x10 : List (Int × Int × ByteArray)) : f_52 N x1 x2 x3 x4 x5 x6 x7 x8 x9 x10 = exec (X_52 N) Go.Proofs.Tryz.f52.ntmps (lp_52 N) c_52 0 (fnK (X_52 N) Go.Proofs.Tryz.f52.results.toList 0 [.one (.slt [.int .u8] 5 1), .one (.d (.int .i64))]) (fnSt 1 0 [.agg [.d (.int .i64), .d (.int .i64), .d (.int .i64), .d (.int .i64), .d (.int .i64), .d (.int .i64), .d (.bool), .d (.str), .d (.int .i64), .d (.sl [.int .i64, .int .i64, .str])]] (x1, x2, x3, x4, x5, x6, x7, x8, x9, x10)) := by kernel_rfl
noncomputable def S_52 (N : Nat) : Sum := fnSum 1 0 2 [.agg [.d (.int .i64), .d (.int .i64), .d (.int .i64), .d (.int .i64), .d (.int .i64), .d (.int .i64), .d (.bool), .d (.str), .d (.int .i64), .d (.sl [.int .i64, .int .i64, .str])]] [.one (.slt [.int .u8] 5 1), .one (.d (.int .i64))] (fun p => f_52 N p.1 p.2.1 p.2.2.1 p.2.2.2.1 p.2.2.2.2.1 p.2.2.2.2.2.1 p.2.2.2.2.2.2.1 p.2.2.2.2.2.2.2.1 p.2.2.2.2.2.2.2.2.1 p.2.2.2.2.2.2.2.2.2)
theorem s_52 (N : Nat) : SumOk Go.Proofs.Tryz.prog laidL 52 (S_52 N) :=
  fn_ok (lp := lp_52 N) (x_52 N) Go.Proofs.Tryz.func52 (c := c_52) (by kernel_rfl) (by kernel_rfl) rfl (fun p => ok_52 N p.1 p.2.1 p.2.2.1 p.2.2.2.1 p.2.2.2.2.1 p.2.2.2.2.2.1 p.2.2.2.2.2.2.1 p.2.2.2.2.2.2.2.1 p.2.2.2.2.2.2.2.2.1 p.2.2.2.2.2.2.2.2.2) (loopsAll (by kernel_rfl) (lookOk_nil))
noncomputable def X_55 (N : Nat) : Ctx := ⟨tyT, lookF [(44, (S_44 N)), (45, (S_45 N)), (85, (S_85 N)), (81, (S_81 N))], eqT, fun _ => false⟩
noncomputable def c_55 : Code := bodyOf Go.Proofs.Tryz.f55
theorem x_55 (N : Nat) : CtxOk Go.Proofs.Tryz.prog laidL (X_55 N) := ⟨tyOk, eqOk, fun _ _ => (fnsOk_cons (s_44 N) (fnsOk_cons (s_45 N) (fnsOk_cons (s_85 N) (fnsOk_cons (s_81 N) fnsOk_nil)))).get, by kernel_rfl⟩
noncomputable def nd_55_0 : Code := loopAt 0 0 c_55
noncomputable def cb_55_0 : Code := unloop nd_55_0
theorem ne_55_0 : nd_55_0 = .loop cb_55_0 := by kernel_rfl
noncomputable def sh_55_0 : List ShA := [.one (.ptr 160 0), .one (.d (.sl [.int .u8])), .one (.ptr 224 0), .one (.d (.int .i64)), .agg [.d (.int .i64), .d (.int .i64), .d (.int .i64), .d (.int .i64), .d (.int .i64), .d (.int .i64), .d (.bool), .d (.str), .d (.int .i64), .slt [.int .i64, .int .i64, .str] 127 3], .agg [.d (.arr .i64 5)]]
noncomputable def o_55_0 : OutK 0 (TAs [.one (.ptr 160 0), .one (.d (.sl [.int .u8])), .one (.ptr 224 0), .agg [.d (.int .i64), .d (.int .i64), .d (.int .i64), .d (.int .i64), .d (.int .i64), .d (.int .i64), .d (.bool), .d (.str), .d (.int .i64), .slt [.int .i64, .int .i64, .str] 127 3], .agg [.d (.arr .i64 5)]]) := (outOne 0 (.exit 0) [2, 4, 6] [160, 224] [.one (.ptr 160 0), .one (.d (.sl [.int .u8])), .one (.ptr 224 0), .agg [.d (.int .i64), .d (.int .i64), .d (.int .i64), .d (.int .i64), .d (.int .i64), .d (.int .i64), .d (.bool), .d (.str), .d (.int .i64), .slt [.int .i64, .int .i64, .str] 127 3], .agg [.d (.arr .i64 5)]])
noncomputable def b_55_0 (N : Nat) (ih : TAs sh_55_0 → Option (TAs [.one (.ptr 160 0), .one (.d (.sl [.int .u8])), .one (.ptr 224 0), .agg [.d (.int .i64), .d (.int .i64), .d (.int .i64), .d (.int .i64), .d (.int .i64), .d (.int .i64), .d (.bool), .d (.str), .d (.int .i64), .slt [.int .i64, .int .i64, .str] 127 3], .agg [.d (.arr .i64 5)]])) : TAs sh_55_0 → Option (TAs [.one (.ptr 160 0), .one (.d (.sl [.int .u8])), .one (.ptr 224 0), .agg [.d (.int .i64), .d (.int .i64), .d (.int .i64), .d (.int .i64), .d (.int .i64), .d (.int .i64), .d (.bool), .d (.str), .d (.int .i64), .slt [.int .i64, .int .i64, .str] 127 3], .agg [.d (.arr .i64 5)]]) := fun (_, y3, _, y4, (y5, y6, y7, y8, y9, y10, y11, y12, y13, y14), y15) =>
  (bif (decide (y4 < 5)) then (bif (decide (0 ≤ (List.length y3 : Int) ∧ (List.length y3 : Int) ≤ (List.length y3 : Int))) then (bif (decide (0 ≤ (IntKind.i64.wrap (1 + (IntKind.i64.wrap (8 * y4)))) ∧ (IntKind.i64.wrap (1 + (IntKind.i64.wrap (8 * y4)))) ≤ (List.length y3 : Int))) then ((f_45 N (List.drop (Int.toNat (IntKind.i64.wrap (1 + (IntKind.i64.wrap (8 * y4))))) (List.take (Int.toNat (List.length y3 : Int)) y3)) false 8).bind fun r16 => (bif (decide (0 ≤ y4 ∧ y4 < 5)) then (ih ((), y3, (), (IntKind.i64.wrap (y4 + 1)), (y5, y6, y7, y8, y9, y10, y11, y12, y13, y14), (List.set y15 (Int.toNat y4) (IntKind.i64.wrap r16.2)))) else none)) else none) else none) else (some (((), y3, (), (y5, y6, y7, y8, y9, y10, y11, y12, y13, y14), y15))))
noncomputable def l_55_0 (N : Nat) : TAs sh_55_0 → Option (TAs [.one (.ptr 160 0), .one (.d (.sl [.int .u8])), .one (.ptr 224 0), .agg [.d (.int .i64), .d (.int .i64), .d (.int .i64), .d (.int .i64), .d (.int .i64), .d (.int .i64), .d (.bool), .d (.str), .d (.int .i64), .slt [.int .i64, .int .i64, .str] 127 3], .agg [.d (.arr .i64 5)]]) := iter (b_55_0 N) N
noncomputable def lp_55_0 (_ : Nat) : Nat → Option LSum := lookL []
noncomputable def L_55_0 (N : Nat) : LSum := loopSum [2, 4, 6, 7] [160, 224] sh_55_0 o_55_0 (l_55_0 N)
theorem b_ok_55_0 (N : Nat) (ih : TAs sh_55_0 → Option (TAs [.one (.ptr 160 0), .one (.d (.sl [.int .u8])), .one (.ptr 224 0), .agg [.d (.int .i64), .d (.int .i64), .d (.int .i64), .d (.int .i64), .d (.int .i64), .d (.int .i64), .d (.bool), .d (.str), .d (.int .i64), .slt [.int .i64, .int .i64, .str] 127 3], .agg [.d (.arr .i64 5)]])) (p : TAs sh_55_0) : b_55_0 N ih p = exec (X_55 N) Go.Proofs.Tryz.f55.ntmps (lp_55_0 N) cb_55_0 0 (roundK [2, 4, 6, 7] [160, 224] sh_55_0 o_55_0 ih) (stOf [2, 4, 6, 7] [160, 224] sh_55_0 p) := by kernel_rfl
theorem L_ok_55_0 (N : Nat) : SegOk Go.Proofs.Tryz.prog laidL 0 Go.Proofs.Tryz.f55.ntmps nd_55_0 (L_55_0 N) :=
  ne_55_0 ▸ loop_ok (cur := 0) (lp := lp_55_0 N) (x_55 N) (fun n => iter (b_55_0 N) n) (fun _ => rfl) (fun n p => b_ok_55_0 N (iter (b_55_0 N) n) p) (loopsAll (by kernel_rfl) (lookOk_nil)) N
noncomputable def lp_55 (N : Nat) : Nat → Option LSum := lookL [(0, L_55_0 N)]
noncomputable def f_55 (N : Nat) (x1 : List Int) : Option (TAs [.agg [.d (.int .i64), .d (.int .i64), .d (.int .i64), .d (.int .i64), .d (.int .i64), .d (.int .i64), .d (.bool), .d (.str), .d (.int .i64), .slt [.int .i64, .int .i64, .str] 127 3], .one (.d (.int .i64))]) :=
  ((f_44 N 3 x1).bind fun r2 => (bif (r2.2 != 0) then (some ((0, 0, 0, 0, 0, 0, false, ByteArray.empty, 0, ([] : List (Int × Int × ByteArray))), r2.2)) else (bif (decide ((List.length r2.1 : Int) < 44)) then (some ((0, 0, 0, 0, 0, 0, false, ByteArray.empty, 0, ([] : List (Int × Int × ByteArray))), 3)) else (bif (decide (0 ≤ (41 : Int) ∧ (41 : Int) < (List.length r2.1 : Int))) then (bif (decide ((List.getD r2.1 (Int.toNat 41) 0) > 1)) then (some ((0, 0, 0, 0, 0, 0, false, ByteArray.empty, 0, ([] : List (Int × Int × ByteArray))), 3)) else (bif (decide (0 ≤ (42 : Int) ∧ (42 : Int) < (List.length r2.1 : Int))) then (bif (decide (0 ≤ (43 : Int) ∧ (43 : Int) < (List.length r2.1 : Int))) then (bif ((List.length r2.1 : Int) != (IntKind.i64.wrap ((IntKind.i64.wrap (44 + (IntKind.i64.wrap (List.getD r2.1 (Int.toNat 42) 0)))) + (IntKind.i64.wrap (256 * (IntKind.i64.wrap (List.getD r2.1 (Int.toNat 43) 0))))))) then (some ((0, 0, 0, 0, 0, 0, false, ByteArray.empty, 0, ([] : List (Int × Int × ByteArray))), 3)) else ((l_55_0 N ((), r2.1, (), 0, (0, 0, 0, 0, 0, 0, false, ByteArray.empty, 0, ([] : List (Int × Int × ByteArray))), [0, 0, 0, 0, 0])).bind fun q17 => (bif (decide (0 ≤ (List.length q17.2.1 : Int) ∧ (List.length q17.2.1 : Int) ≤ (List.length q17.2.1 : Int))) then (bif (decide (0 ≤ (44 : Int) ∧ (44 : Int) ≤ (List.length q17.2.1 : Int))) then ((f_85 N (List.drop (Int.toNat (44 : Int)) (List.take (Int.toNat (List.length q17.2.1 : Int)) q17.2.1))).bind fun r18 => (bif (decide (0 ≤ (0 : Int) ∧ (0 : Int) < (List.length q17.2.1 : Int))) then (bif (decide (0 ≤ (41 : Int) ∧ (41 : Int) < (List.length q17.2.1 : Int))) then (bif (r18.2 != 0) then (some ((0, 0, 0, 0, 0, 0, false, ByteArray.empty, 0, ([] : List (Int × Int × ByteArray))), 3)) else ((f_81 N (IntKind.i64.wrap (List.getD q17.2.1 (Int.toNat 0) 0)) (List.getD q17.2.2.2.2 (Int.toNat 0) 0) (List.getD q17.2.2.2.2 (Int.toNat 1) 0) (List.getD q17.2.2.2.2 (Int.toNat 2) 0) (List.getD q17.2.2.2.2 (Int.toNat 3) 0) (List.getD q17.2.2.2.2 (Int.toNat 4) 0) ((List.getD q17.2.1 (Int.toNat 41) 0) == 1) r18.1.1 r18.1.2.1 r18.1.2.2).bind fun r19 => (bif (!r19) then (some ((0, 0, 0, 0, 0, 0, false, ByteArray.empty, 0, ([] : List (Int × Int × ByteArray))), 3)) else (some (((IntKind.i64.wrap (List.getD q17.2.1 (Int.toNat 0) 0)), (List.getD q17.2.2.2.2 (Int.toNat 0) 0), (List.getD q17.2.2.2.2 (Int.toNat 1) 0), (List.getD q17.2.2.2.2 (Int.toNat 2) 0), (List.getD q17.2.2.2.2 (Int.toNat 3) 0), (List.getD q17.2.2.2.2 (Int.toNat 4) 0), ((List.getD q17.2.1 (Int.toNat 41) 0) == 1), r18.1.1, r18.1.2.1, r18.1.2.2), 0))))) else none) else none)) else none) else none))) else none) else none)) else none))))
theorem ok_55 (N : Nat) (x1 : List Int) : f_55 N x1 = exec (X_55 N) Go.Proofs.Tryz.f55.ntmps (lp_55 N) c_55 0 (fnK (X_55 N) Go.Proofs.Tryz.f55.results.toList 0 [.agg [.d (.int .i64), .d (.int .i64), .d (.int .i64), .d (.int .i64), .d (.int .i64), .d (.int .i64), .d (.bool), .d (.str), .d (.int .i64), .slt [.int .i64, .int .i64, .str] 127 3], .one (.d (.int .i64))]) (fnSt 1 0 [.one (.d (.sl [.int .u8]))] x1) := by kernel_rfl
noncomputable def S_55 (N : Nat) : Sum := fnSum 1 0 2 [.one (.d (.sl [.int .u8]))] [.agg [.d (.int .i64), .d (.int .i64), .d (.int .i64), .d (.int .i64), .d (.int .i64), .d (.int .i64), .d (.bool), .d (.str), .d (.int .i64), .slt [.int .i64, .int .i64, .str] 127 3], .one (.d (.int .i64))] (fun p => f_55 N p)
theorem s_55 (N : Nat) : SumOk Go.Proofs.Tryz.prog laidL 55 (S_55 N) :=
  fn_ok (lp := lp_55 N) (x_55 N) Go.Proofs.Tryz.func55 (c := c_55) (by kernel_rfl) (by kernel_rfl) rfl (fun p => ok_55 N p) (loopsAll (by kernel_rfl) ((lookOk_cons (L_ok_55_0 N) lookOk_nil)))
noncomputable def X_66 (N : Nat) : Ctx := ⟨tyT, lookF [(94, (S_94 N)), (29, (S_29 N))], eqT, fun _ => false⟩
noncomputable def c_66 : Code := bodyOf Go.Proofs.Tryz.f66
theorem x_66 (N : Nat) : CtxOk Go.Proofs.Tryz.prog laidL (X_66 N) := ⟨tyOk, eqOk, fun _ _ => (fnsOk_cons (s_94 N) (fnsOk_cons (s_29 N) fnsOk_nil)).get, by kernel_rfl⟩
noncomputable def lp_66 (_ : Nat) : Nat → Option LSum := lookL []
noncomputable def f_66 (N : Nat) (x1 : List Int) : Option (TAs [.one (.slv [.int .u8] 5 1)]) :=
  ((f_94 N x1).bind fun r2 => ((f_29 N ([x1, ([(IntKind.u8.wrap r2), (IntKind.u8.wrap (r2 / 2 ^ (min (Int.toNat 8) IntKind.u32.bits))), (IntKind.u8.wrap (r2 / 2 ^ (min (Int.toNat 16) IntKind.u32.bits))), (IntKind.u8.wrap (r2 / 2 ^ (min (Int.toNat 24) IntKind.u32.bits)))] : List Int)] : List ((List Int)))).bind fun r3 => (some r3)))
theorem ok_66 (N : Nat) (x1 : List Int) : f_66 N x1 = exec (X_66 N) Go.Proofs.Tryz.f66.ntmps (lp_66 N) c_66 0 (fnK (X_66 N) Go.Proofs.Tryz.f66.results.toList 0 [.one (.slv [.int .u8] 5 1)]) (fnSt 1 0 [.one (.d (.sl [.int .u8]))] x1) := by kernel_rfl
noncomputable def S_66 (N : Nat) : Sum := fnSum 1 0 1 [.one (.d (.sl [.int .u8]))] [.one (.slv [.int .u8] 5 1)] (fun p => f_66 N p)
theorem s_66 (N : Nat) : SumOk Go.Proofs.Tryz.prog laidL 66 (S_66 N) :=
  fn_ok (lp := lp_66 N) (x_66 N) Go.Proofs.Tryz.func66 (c := c_66) (by kernel_rfl) (by kernel_rfl) rfl (fun p => ok_66 N p) (loopsAll (by kernel_rfl) (lookOk_nil))
noncomputable def X_70 (N : Nat) : Ctx := ⟨tyT, lookF [(66, (S_66 N)), (97, (S_97 N)), (71, cl_71)], eqT, fun _ => false⟩
noncomputable def c_70 : Code := bodyOf Go.Proofs.Tryz.f70
theorem x_70 (N : Nat) : CtxOk Go.Proofs.Tryz.prog laidL (X_70 N) := ⟨tyOk, eqOk, fun _ _ => (fnsOk_cons (s_66 N) (fnsOk_cons (s_97 N) (fnsOk_cons cl_71_ok fnsOk_nil))).get, by kernel_rfl⟩
noncomputable def lp_70 (_ : Nat) : Nat → Option LSum := lookL []
noncomputable def f_70 (N : Nat) (x1 : List Int) : Option (TAs [.one (.slt [.int .u8] 5 1), .one (.d (.err 93))]) :=
  (bif (decide ((IntKind.i64.wrap ((List.length x1 : Int) - 4)) < 0)) then (some (([] : List Int), (some 4))) else (bif (decide (0 ≤ (IntKind.i64.wrap ((List.length x1 : Int) - 4)) ∧ (IntKind.i64.wrap ((List.length x1 : Int) - 4)) ≤ (List.length x1 : Int))) then (bif (decide (0 ≤ (0 : Int) ∧ (0 : Int) ≤ (IntKind.i64.wrap ((List.length x1 : Int) - 4)))) then ((f_66 N (List.drop (Int.toNat (0 : Int)) (List.take (Int.toNat (IntKind.i64.wrap ((List.length x1 : Int) - 4))) x1))).bind fun r2 => ((f_97 N r2 x1).bind fun r3 => (bif (!r3) then (some (([] : List Int), (some 4))) else (bif (decide (0 ≤ (IntKind.i64.wrap ((List.length x1 : Int) - 4)) ∧ (IntKind.i64.wrap ((List.length x1 : Int) - 4)) ≤ (List.length x1 : Int))) then (bif (decide (0 ≤ (0 : Int) ∧ (0 : Int) ≤ (IntKind.i64.wrap ((List.length x1 : Int) - 4)))) then ((cloneF [.int .u8] 1 (List.drop (Int.toNat (0 : Int)) (List.take (Int.toNat (IntKind.i64.wrap ((List.length x1 : Int) - 4))) x1))).bind fun r4 => (some (r4, none))) else none) else none)))) else none) else none))
theorem ok_70 (N : Nat) (x1 : List Int) : f_70 N x1 = exec (X_70 N) Go.Proofs.Tryz.f70.ntmps (lp_70 N) c_70 0 (fnK (X_70 N) Go.Proofs.Tryz.f70.results.toList 0 [.one (.slt [.int .u8] 5 1), .one (.d (.err 93))]) (fnSt 1 0 [.one (.d (.sl [.int .u8]))] x1) := by kernel_rfl
noncomputable def S_70 (N : Nat) : Sum := fnSum 1 0 2 [.one (.d (.sl [.int .u8]))] [.one (.slt [.int .u8] 5 1), .one (.d (.err 93))] (fun p => f_70 N p)
theorem s_70 (N : Nat) : SumOk Go.Proofs.Tryz.prog laidL 70 (S_70 N) :=
  fn_ok (lp := lp_70 N) (x_70 N) Go.Proofs.Tryz.func70 (c := c_70) (by kernel_rfl) (by kernel_rfl) rfl (fun p => ok_70 N p) (loopsAll (by kernel_rfl) (lookOk_nil))
noncomputable def X_80 (N : Nat) : Ctx := ⟨tyT, lookF [(58, (S_58 N)), (81, (S_81 N)), (103, (S_103 N)), (104, (S_104 N))], eqT, fun _ => false⟩
noncomputable def c_80 : Code := bodyOf Go.Proofs.Tryz.f80
theorem x_80 (N : Nat) : CtxOk Go.Proofs.Tryz.prog laidL (X_80 N) := ⟨tyOk, eqOk, fun _ _ => (fnsOk_cons (s_58 N) (fnsOk_cons (s_81 N) (fnsOk_cons (s_103 N) (fnsOk_cons (s_104 N) fnsOk_nil)))).get, by kernel_rfl⟩
noncomputable def lp_80 (_ : Nat) : Nat → Option LSum := lookL []
noncomputable def f_80 (N : Nat) (x1 : ByteArray) (_x2 : List Int) (x3 : Int) (x4 : Int) (x5 : Int) (x6 : Int) (x7 : Int) (x8 : Int) (x9 : Bool) (x10 : ByteArray) (x11 : Int) (x12 : List (Int × Int × ByteArray)) (x13 : Bool) (x14 : Int) (x15 : Int) (x16 : Bool) (x17 : Int) (x18 : Int) : Option (TAs [.one (.d (.bool))]) :=
  ((f_58 N x1).bind fun r19 => (bif (!r19) then (some false) else ((f_81 N x3 x4 x5 x6 x7 x8 x9 x10 x11 x12).bind fun r20 => (bif (!r20) then (some false) else ((f_103 N x13 x14 x15).bind fun r21 => (bif (!r21) then (some false) else (bif (decide (x18 < 0)) then (some false) else (bif (decide (x18 > 1099511627776)) then (some false) else (bif (!x16) then (some (x17 == 0)) else ((f_104 N x17 x6).bind fun r22 => (some (r22.2 == 0))))))))))))
theorem ok_80 (N : Nat) (x1 : ByteArray) (x2 : List Int) (x3 : Int) (x4 : Int) (x5 : Int) (x6 : Int) (x7 : Int) (x8 : Int) (x9 : Bool) (x10 : ByteArray) (x11 : Int) (x12 : List (Int × Int × ByteArray)) (x13 : Bool) (x14 : Int) (x15 : Int) (x16 : Bool) (x17 : Int) (x18 : Int) : f_80 N x1 x2 x3 x4 x5 x6 x7 x8 x9 x10 x11 x12 x13 x14 x15 x16 x17 x18 = exec (X_80 N) Go.Proofs.Tryz.f80.ntmps (lp_80 N) c_80 0 (fnK (X_80 N) Go.Proofs.Tryz.f80.results.toList 0 [.one (.d (.bool))]) (fnSt 1 0 [.agg [.d (.str), .d (.arr .u8 16), .d (.int .i64), .d (.int .i64), .d (.int .i64), .d (.int .i64), .d (.int .i64), .d (.int .i64), .d (.bool), .d (.str), .d (.int .i64), .d (.sl [.int .i64, .int .i64, .str]), .d (.bool), .d (.int .i64), .d (.int .i64), .d (.bool), .d (.int .i64), .d (.int .i64)]] (x1, x2, x3, x4, x5, x6, x7, x8, x9, x10, x11, x12, x13, x14, x15, x16, x17, x18)) := by kernel_rfl
noncomputable def S_80 (N : Nat) : Sum := fnSum 1 0 1 [.agg [.d (.str), .d (.arr .u8 16), .d (.int .i64), .d (.int .i64), .d (.int .i64), .d (.int .i64), .d (.int .i64), .d (.int .i64), .d (.bool), .d (.str), .d (.int .i64), .d (.sl [.int .i64, .int .i64, .str]), .d (.bool), .d (.int .i64), .d (.int .i64), .d (.bool), .d (.int .i64), .d (.int .i64)]] [.one (.d (.bool))] (fun p => f_80 N p.1 p.2.1 p.2.2.1 p.2.2.2.1 p.2.2.2.2.1 p.2.2.2.2.2.1 p.2.2.2.2.2.2.1 p.2.2.2.2.2.2.2.1 p.2.2.2.2.2.2.2.2.1 p.2.2.2.2.2.2.2.2.2.1 p.2.2.2.2.2.2.2.2.2.2.1 p.2.2.2.2.2.2.2.2.2.2.2.1 p.2.2.2.2.2.2.2.2.2.2.2.2.1 p.2.2.2.2.2.2.2.2.2.2.2.2.2.1 p.2.2.2.2.2.2.2.2.2.2.2.2.2.2.1 p.2.2.2.2.2.2.2.2.2.2.2.2.2.2.2.1 p.2.2.2.2.2.2.2.2.2.2.2.2.2.2.2.2.1 p.2.2.2.2.2.2.2.2.2.2.2.2.2.2.2.2.2)
theorem s_80 (N : Nat) : SumOk Go.Proofs.Tryz.prog laidL 80 (S_80 N) :=
  fn_ok (lp := lp_80 N) (x_80 N) Go.Proofs.Tryz.func80 (c := c_80) (by kernel_rfl) (by kernel_rfl) rfl (fun p => ok_80 N p.1 p.2.1 p.2.2.1 p.2.2.2.1 p.2.2.2.2.1 p.2.2.2.2.2.1 p.2.2.2.2.2.2.1 p.2.2.2.2.2.2.2.1 p.2.2.2.2.2.2.2.2.1 p.2.2.2.2.2.2.2.2.2.1 p.2.2.2.2.2.2.2.2.2.2.1 p.2.2.2.2.2.2.2.2.2.2.2.1 p.2.2.2.2.2.2.2.2.2.2.2.2.1 p.2.2.2.2.2.2.2.2.2.2.2.2.2.1 p.2.2.2.2.2.2.2.2.2.2.2.2.2.2.1 p.2.2.2.2.2.2.2.2.2.2.2.2.2.2.2.1 p.2.2.2.2.2.2.2.2.2.2.2.2.2.2.2.2.1 p.2.2.2.2.2.2.2.2.2.2.2.2.2.2.2.2.2) (loopsAll (by kernel_rfl) (lookOk_nil))
noncomputable def X_117 (N : Nat) : Ctx := ⟨tyT, lookF [(129, (S_129 N))], eqT, fun _ => false⟩
noncomputable def c_117 : Code := bodyOf Go.Proofs.Tryz.f117
theorem x_117 (N : Nat) : CtxOk Go.Proofs.Tryz.prog laidL (X_117 N) := ⟨tyOk, eqOk, fun _ _ => (fnsOk_cons (s_129 N) fnsOk_nil).get, by kernel_rfl⟩
noncomputable def lp_117 (_ : Nat) : Nat → Option LSum := lookL []
noncomputable def f_117 (N : Nat) (x1 : Int) : Option (TAs [.one (.d (.bool))]) :=
  ((f_129 N x1).bind fun r2 => (some (decide (r2 < 4611686018427387904))))
theorem ok_117 (N : Nat) (x1 : Int) : f_117 N x1 = exec (X_117 N) Go.Proofs.Tryz.f117.ntmps (lp_117 N) c_117 0 (fnK (X_117 N) Go.Proofs.Tryz.f117.results.toList 0 [.one (.d (.bool))]) (fnSt 1 0 [.one (.d (.int .i64))] x1) := by kernel_rfl
noncomputable def S_117 (N : Nat) : Sum := fnSum 1 0 1 [.one (.d (.int .i64))] [.one (.d (.bool))] (fun p => f_117 N p)
theorem s_117 (N : Nat) : SumOk Go.Proofs.Tryz.prog laidL 117 (S_117 N) :=
  fn_ok (lp := lp_117 N) (x_117 N) Go.Proofs.Tryz.func117 (c := c_117) (by kernel_rfl) (by kernel_rfl) rfl (fun p => ok_117 N p) (loopsAll (by kernel_rfl) (lookOk_nil))
noncomputable def X_30 (N : Nat) : Ctx := ⟨tyT, lookF [(64, (S_64 N)), (65, (S_65 N)), (29, (S_29 N)), (66, (S_66 N))], eqT, fun _ => false⟩
noncomputable def c_30 : Code := bodyOf Go.Proofs.Tryz.f30
theorem x_30 (N : Nat) : CtxOk Go.Proofs.Tryz.prog laidL (X_30 N) := ⟨tyOk, eqOk, fun _ _ => (fnsOk_cons (s_64 N) (fnsOk_cons (s_65 N) (fnsOk_cons (s_29 N) (fnsOk_cons (s_66 N) fnsOk_nil)))).get, by kernel_rfl⟩
noncomputable def lp_30 (_ : Nat) : Nat → Option LSum := lookL []
noncomputable def f_30 (N : Nat) (x1 : Int) (x2 : List Int) : Option (TAs [.one (.slv [.int .u8] 5 1), .one (.d (.err 93))]) :=
  ((f_64 N x1).bind fun r3 => (bif (!r3) then (some (([] : List Int), (some 1))) else (bif (decide ((List.length x2 : Int) > 1024)) then (some (([] : List Int), (some 5))) else (bif (decide ((List.length ([116, 109] : List Int) + List.length ([x1] : List Int)) * 1 ≤ 140737488355328)) then ((f_65 N (([116, 109] : List Int) ++ ([x1] : List Int)) (IntKind.u16.wrap (List.length x2 : Int))).bind fun r4 => ((f_29 N ([r4, x2] : List ((List Int)))).bind fun r5 => ((f_66 N r5).bind fun r6 => (some (r6, none))))) else none))))
theorem ok_30 (N : Nat) (x1 : Int) (x2 : List Int) : f_30 N x1 x2 = exec (X_30 N) Go.Proofs.Tryz.f30.ntmps (lp_30 N) c_30 0 (fnK (X_30 N) Go.Proofs.Tryz.f30.results.toList 0 [.one (.slv [.int .u8] 5 1), .one (.d (.err 93))]) (fnSt 2 0 [.one (.d (.int .u8)), .one (.d (.sl [.int .u8]))] (x1, x2)) := by kernel_rfl
noncomputable def S_30 (N : Nat) : Sum := fnSum 2 0 2 [.one (.d (.int .u8)), .one (.d (.sl [.int .u8]))] [.one (.slv [.int .u8] 5 1), .one (.d (.err 93))] (fun p => f_30 N p.1 p.2)
theorem s_30 (N : Nat) : SumOk Go.Proofs.Tryz.prog laidL 30 (S_30 N) :=
  fn_ok (lp := lp_30 N) (x_30 N) Go.Proofs.Tryz.func30 (c := c_30) (by kernel_rfl) (by kernel_rfl) rfl (fun p => ok_30 N p.1 p.2) (loopsAll (by kernel_rfl) (lookOk_nil))
noncomputable def X_37 (N : Nat) : Ctx := ⟨tyT, lookF [(64, (S_64 N)), (69, (S_69 N)), (70, (S_70 N))], eqT, fun _ => false⟩
noncomputable def c_37 : Code := bodyOf Go.Proofs.Tryz.f37
theorem x_37 (N : Nat) : CtxOk Go.Proofs.Tryz.prog laidL (X_37 N) := ⟨tyOk, eqOk, fun _ _ => (fnsOk_cons (s_64 N) (fnsOk_cons (s_69 N) (fnsOk_cons (s_70 N) fnsOk_nil))).get, by kernel_rfl⟩
noncomputable def lp_37 (_ : Nat) : Nat → Option LSum := lookL []
noncomputable def f_37 (N : Nat) (x1 : Int) (x2 : List Int) : Option (TAs [.one (.d (.sl [.int .u8])), .one (.d (.err 93))]) :=
  ((f_64 N x1).bind fun r3 => (bif (!r3) then (some (([] : List Int), (some 1))) else ((f_69 N x2).bind fun r4 => (bif (!(Option.isNone r4.2.2)) then (some (([] : List Int), r4.2.2)) else (bif (r4.1 != x1) then (some (([] : List Int), (some 3))) else (bif (r4.2.1 != (List.length x2 : Int)) then (some (([] : List Int), (some 3))) else ((f_70 N x2).bind fun r5 => (bif (!(Option.isNone r5.2)) then (some (([] : List Int), r5.2)) else (bif (decide (0 ≤ (List.length r5.1 : Int) ∧ (List.length r5.1 : Int) ≤ (List.length r5.1 : Int))) then (bif (decide (0 ≤ (5 : Int) ∧ (5 : Int) ≤ (List.length r5.1 : Int))) then (some ((List.drop (Int.toNat (5 : Int)) (List.take (Int.toNat (List.length r5.1 : Int)) r5.1)), none)) else none) else none)))))))))
theorem ok_37 (N : Nat) (x1 : Int) (x2 : List Int) : f_37 N x1 x2 = exec (X_37 N) Go.Proofs.Tryz.f37.ntmps (lp_37 N) c_37 0 (fnK (X_37 N) Go.Proofs.Tryz.f37.results.toList 0 [.one (.d (.sl [.int .u8])), .one (.d (.err 93))]) (fnSt 2 0 [.one (.d (.int .u8)), .one (.d (.sl [.int .u8]))] (x1, x2)) := by kernel_rfl
noncomputable def S_37 (N : Nat) : Sum := fnSum 2 0 2 [.one (.d (.int .u8)), .one (.d (.sl [.int .u8]))] [.one (.d (.sl [.int .u8])), .one (.d (.err 93))] (fun p => f_37 N p.1 p.2)
theorem s_37 (N : Nat) : SumOk Go.Proofs.Tryz.prog laidL 37 (S_37 N) :=
  fn_ok (lp := lp_37 N) (x_37 N) Go.Proofs.Tryz.func37 (c := c_37) (by kernel_rfl) (by kernel_rfl) rfl (fun p => ok_37 N p.1 p.2) (loopsAll (by kernel_rfl) (lookOk_nil))
noncomputable def X_50 (N : Nat) : Ctx := ⟨tyT, lookF [(80, (S_80 N))], eqT, fun _ => false⟩
noncomputable def c_50 : Code := bodyOf Go.Proofs.Tryz.f50
theorem x_50 (N : Nat) : CtxOk Go.Proofs.Tryz.prog laidL (X_50 N) := ⟨tyOk, eqOk, fun _ _ => (fnsOk_cons (s_80 N) fnsOk_nil).get, by kernel_rfl⟩
noncomputable def lp_50 (_ : Nat) : Nat → Option LSum := lookL []
noncomputable def f_50 (N : Nat) (x1 : ByteArray) (x2 : List Int) (x3 : Int) (x4 : Int) (x5 : Int) (x6 : Int) (x7 : Int) (x8 : Int) (x9 : Bool) (x10 : ByteArray) (x11 : Int) (x12 : List (Int × Int × ByteArray)) (x13 : Bool) (x14 : Int) (x15 : Int) (x16 : Bool) (x17 : Int) (x18 : Int) : Option (TAs [.one (.d (.bool))]) :=
  ((f_80 N x1 x2 x3 x4 x5 x6 x7 x8 x9 x10 x11 x12 x13 x14 x15 x16 x17 x18).bind fun r19 => (bif r19 then (some (decide ((List.length x12 : Int) ≤ 16))) else (some false)))
theorem ok_50 (N : Nat) (x1 : ByteArray) (x2 : List Int) (x3 : Int) (x4 : Int) (x5 : Int) (x6 : Int) (x7 : Int) (x8 : Int) (x9 : Bool) (x10 : ByteArray) (x11 : Int) (x12 : List (Int × Int × ByteArray)) (x13 : Bool) (x14 : Int) (x15 : Int) (x16 : Bool) (x17 : Int) (x18 : Int) : f_50 N x1 x2 x3 x4 x5 x6 x7 x8 x9 x10 x11 x12 x13 x14 x15 x16 x17 x18 = exec (X_50 N) Go.Proofs.Tryz.f50.ntmps (lp_50 N) c_50 0 (fnK (X_50 N) Go.Proofs.Tryz.f50.results.toList 0 [.one (.d (.bool))]) (fnSt 1 0 [.agg [.d (.str), .d (.arr .u8 16), .d (.int .i64), .d (.int .i64), .d (.int .i64), .d (.int .i64), .d (.int .i64), .d (.int .i64), .d (.bool), .d (.str), .d (.int .i64), .d (.sl [.int .i64, .int .i64, .str]), .d (.bool), .d (.int .i64), .d (.int .i64), .d (.bool), .d (.int .i64), .d (.int .i64)]] (x1, x2, x3, x4, x5, x6, x7, x8, x9, x10, x11, x12, x13, x14, x15, x16, x17, x18)) := by kernel_rfl
noncomputable def S_50 (N : Nat) : Sum := fnSum 1 0 1 [.agg [.d (.str), .d (.arr .u8 16), .d (.int .i64), .d (.int .i64), .d (.int .i64), .d (.int .i64), .d (.int .i64), .d (.int .i64), .d (.bool), .d (.str), .d (.int .i64), .d (.sl [.int .i64, .int .i64, .str]), .d (.bool), .d (.int .i64), .d (.int .i64), .d (.bool), .d (.int .i64), .d (.int .i64)]] [.one (.d (.bool))] (fun p => f_50 N p.1 p.2.1 p.2.2.1 p.2.2.2.1 p.2.2.2.2.1 p.2.2.2.2.2.1 p.2.2.2.2.2.2.1 p.2.2.2.2.2.2.2.1 p.2.2.2.2.2.2.2.2.1 p.2.2.2.2.2.2.2.2.2.1 p.2.2.2.2.2.2.2.2.2.2.1 p.2.2.2.2.2.2.2.2.2.2.2.1 p.2.2.2.2.2.2.2.2.2.2.2.2.1 p.2.2.2.2.2.2.2.2.2.2.2.2.2.1 p.2.2.2.2.2.2.2.2.2.2.2.2.2.2.1 p.2.2.2.2.2.2.2.2.2.2.2.2.2.2.2.1 p.2.2.2.2.2.2.2.2.2.2.2.2.2.2.2.2.1 p.2.2.2.2.2.2.2.2.2.2.2.2.2.2.2.2.2)
theorem s_50 (N : Nat) : SumOk Go.Proofs.Tryz.prog laidL 50 (S_50 N) :=
  fn_ok (lp := lp_50 N) (x_50 N) Go.Proofs.Tryz.func50 (c := c_50) (by kernel_rfl) (by kernel_rfl) rfl (fun p => ok_50 N p.1 p.2.1 p.2.2.1 p.2.2.2.1 p.2.2.2.2.1 p.2.2.2.2.2.1 p.2.2.2.2.2.2.1 p.2.2.2.2.2.2.2.1 p.2.2.2.2.2.2.2.2.1 p.2.2.2.2.2.2.2.2.2.1 p.2.2.2.2.2.2.2.2.2.2.1 p.2.2.2.2.2.2.2.2.2.2.2.1 p.2.2.2.2.2.2.2.2.2.2.2.2.1 p.2.2.2.2.2.2.2.2.2.2.2.2.2.1 p.2.2.2.2.2.2.2.2.2.2.2.2.2.2.1 p.2.2.2.2.2.2.2.2.2.2.2.2.2.2.2.1 p.2.2.2.2.2.2.2.2.2.2.2.2.2.2.2.2.1 p.2.2.2.2.2.2.2.2.2.2.2.2.2.2.2.2.2) (loopsAll (by kernel_rfl) (lookOk_nil))
noncomputable def X_77 (N : Nat) : Ctx := ⟨tyT, lookF [(102, (S_102 N)), (27, (S_27 N)), (28, (S_28 N)), (30, (S_30 N))], eqT, fun _ => false⟩
noncomputable def c_77 : Code := bodyOf Go.Proofs.Tryz.f77
theorem x_77 (N : Nat) : CtxOk Go.Proofs.Tryz.prog laidL (X_77 N) := ⟨tyOk, eqOk, fun _ _ => (fnsOk_cons (s_102 N) (fnsOk_cons (s_27 N) (fnsOk_cons (s_28 N) (fnsOk_cons (s_30 N) fnsOk_nil)))).get, by kernel_rfl⟩
noncomputable def nd_77_0 : Code := loopAt 0 0 c_77
noncomputable def cb_77_0 : Code := unloop nd_77_0
theorem ne_77_0 : nd_77_0 = .loop cb_77_0 := by kernel_rfl
noncomputable def sh_77_0 : List ShA := [.one (.slt [.int .u8] 5 1), .one (.d (.sl [.int .i64, .int .i64, .str])), .one (.d (.int .i64)), .one (.d (.int .i64))]
noncomputable def o_77_0 : OutK 0 (((TAs [.one (.slv [.int .u8] 5 1), .one (.d (.err 93))]) ⊕ (TAs [.one (.slt [.int .u8] 5 1)]))) := (outTwo (outOne 0 .ret [2, 3] [] [.one (.slv [.int .u8] 5 1), .one (.d (.err 93))]) (outOne 0 (.exit 0) [5] [] [.one (.slt [.int .u8] 5 1)]))
noncomputable def b_77_0 (N : Nat) (ih : TAs sh_77_0 → Option (((TAs [.one (.slv [.int .u8] 5 1), .one (.d (.err 93))]) ⊕ (TAs [.one (.slt [.int .u8] 5 1)])))) : TAs sh_77_0 → Option (((TAs [.one (.slv [.int .u8] 5 1), .one (.d (.err 93))]) ⊕ (TAs [.one (.slt [.int .u8] 5 1)]))) := fun (y7, y8, y9, y10) =>
  (bif (decide (y10 < y9)) then (bif (decide (0 ≤ y10 ∧ y10 < (List.length y8 : Int))) then ((f_28 N y7 ((List.getD y8 (Int.toNat y10) (0, 0, ByteArray.empty)).1)).bind fun r11 => ((f_28 N r11 ((List.getD y8 (Int.toNat y10) (0, 0, ByteArray.empty)).2.1)).bind fun r12 => ((f_27 N r12 ((List.getD y8 (Int.toNat y10) (0, 0, ByteArray.empty)).2.2)).bind fun r13 => (bif (!(Option.isNone r13.2)) then (some (.inl (([] : List Int), r13.2))) else (ih (r13.1, y8, y9, (IntKind.i64.wrap (y10 + 1)))))))) else none) else (some (.inr y7)))
noncomputable def l_77_0 (N : Nat) : TAs sh_77_0 → Option (((TAs [.one (.slv [.int .u8] 5 1), .one (.d (.err 93))]) ⊕ (TAs [.one (.slt [.int .u8] 5 1)]))) := iter (b_77_0 N) N
noncomputable def lp_77_0 (_ : Nat) : Nat → Option LSum := lookL []
noncomputable def L_77_0 (N : Nat) : LSum := loopSum [5, 34, 35, 36] [] sh_77_0 o_77_0 (l_77_0 N)
theorem b_ok_77_0 (N : Nat) (ih : TAs sh_77_0 → Option (((TAs [.one (.slv [.int .u8] 5 1), .one (.d (.err 93))]) ⊕ (TAs [.one (.slt [.int .u8] 5 1)])))) (p : TAs sh_77_0) : b_77_0 N ih p = exec (X_77 N) Go.Proofs.Tryz.f77.ntmps (lp_77_0 N) cb_77_0 0 (roundK [5, 34, 35, 36] [] sh_77_0 o_77_0 ih) (stOf [5, 34, 35, 36] [] sh_77_0 p) := by kernel_rfl
theorem L_ok_77_0 (N : Nat) : SegOk Go.Proofs.Tryz.prog laidL 0 Go.Proofs.Tryz.f77.ntmps nd_77_0 (L_77_0 N) :=
  ne_77_0 ▸ loop_ok (cur := 0) (lp := lp_77_0 N) (x_77 N) (fun n => iter (b_77_0 N) n) (fun _ => rfl) (fun n p => b_ok_77_0 N (iter (b_77_0 N) n) p) (loopsAll (by kernel_rfl) (lookOk_nil)) N
noncomputable def lp_77 (N : Nat) : Nat → Option LSum := lookL [(0, L_77_0 N)]
noncomputable def f_77 (N : Nat) (x1 : ByteArray) (x2 : Int) (x3 : List (Int × Int × ByteArray)) : Option (TAs [.one (.slv [.int .u8] 5 1), .one (.d (.err 93))]) :=
  ((f_102 N x1 x2 x3).bind fun r4 => (bif (!(Option.isNone r4)) then (some (([] : List Int), r4)) else ((f_27 N ([] : List Int) x1).bind fun r5 => (bif (!(Option.isNone r5.2)) then (some (([] : List Int), r5.2)) else ((f_28 N r5.1 x2).bind fun r6 => (bif (decide ((List.length r6 + List.length ([(IntKind.u8.wrap (List.length x3 : Int))] : List Int)) * 1 ≤ 140737488355328)) then ((l_77_0 N ((r6 ++ ([(IntKind.u8.wrap (List.length x3 : Int))] : List Int)), x3, (List.length x3 : Int), 0)).bind fun q => (match q with | .inl q14 => (some (q14.1, q14.2)) | .inr q15 => ((f_30 N 6 q15).bind fun r16 => (some (r16.1, r16.2))))) else none))))))
theorem ok_77 (N : Nat) (x1 : ByteArray) (x2 : Int) (x3 : List (Int × Int × ByteArray)) : f_77 N x1 x2 x3 = exec (X_77 N) Go.Proofs.Tryz.f77.ntmps (lp_77 N) c_77 0 (fnK (X_77 N) Go.Proofs.Tryz.f77.results.toList 0 [.one (.slv [.int .u8] 5 1), .one (.d (.err 93))]) (fnSt 1 0 [.agg [.d (.str), .d (.int .i64), .d (.sl [.int .i64, .int .i64, .str])]] (x1, x2, x3)) := by kernel_rfl
noncomputable def S_77 (N : Nat) : Sum := fnSum 1 0 2 [.agg [.d (.str), .d (.int .i64), .d (.sl [.int .i64, .int .i64, .str])]] [.one (.slv [.int .u8] 5 1), .one (.d (.err 93))] (fun p => f_77 N p.1 p.2.1 p.2.2)
theorem s_77 (N : Nat) : SumOk Go.Proofs.Tryz.prog laidL 77 (S_77 N) :=
  fn_ok (lp := lp_77 N) (x_77 N) Go.Proofs.Tryz.func77 (c := c_77) (by kernel_rfl) (by kernel_rfl) rfl (fun p => ok_77 N p.1 p.2.1 p.2.2) (loopsAll (by kernel_rfl) ((lookOk_cons (L_ok_77_0 N) lookOk_nil)))
end Go.Proofs.YtihignmcjldiiaaGreatDoor.Mir
