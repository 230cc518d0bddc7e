/- The mirror's functions. -/
import Derived.Test.YtkdjfakjnkemiaaDoorCallsT
namespace Go.Proofs.YtkdjfakjnkemiaaDoor.Mir
open Go Go.RowKit
set_option maxRecDepth 100000
/-! ### fusee/fuseelaw44.num -/
noncomputable def X_21 (_ : Nat) : Ctx := ⟨tyT, lookF [(76, asS)], eqT⟩
noncomputable def c_21 : Code := bodyOf Go.Proofs.Tryd.f21
theorem x_21 (N : Nat) : CtxOk Go.Proofs.Tryd.prog laidL (X_21 N) := ⟨tyOk, eqOk, fun _ _ => (fnsOk_cons asS_ok fnsOk_nil).get, by kernel_rfl⟩
noncomputable def lp_21 (_ : Nat) : Nat → Option LSum := lookL []
noncomputable def f_21 (_ : Nat) (x1 : Option Int) : Option (TAs [.one (.d (.int .i64))]) :=
  (bif (Option.isNone x1) then (some 0) else ((some (x1, (0 : Int)) : Option (Option Int × Int)).bind fun r2 => (bif (Option.isSome r2.1) then (some (asVal r2.2 r2.1)) else (some (-1)))))
theorem ok_21 (N : Nat) (x1 : Option Int) : f_21 N x1 = exec (X_21 N) Go.Proofs.Tryd.f21.ntmps (lp_21 N) c_21 0 (fnK (X_21 N) Go.Proofs.Tryd.f21.results.toList 0 [.one (.d (.int .i64))]) (fnSt 1 0 [.one (.d (.err 122))] x1) := by kernel_rfl
noncomputable def S_21 (N : Nat) : Sum := fnSum 1 0 1 [.one (.d (.err 122))] [.one (.d (.int .i64))] (fun p => f_21 N p)
theorem s_21 (N : Nat) : SumOk Go.Proofs.Tryd.prog laidL 21 (S_21 N) :=
  fn_ok (lp := lp_21 N) (x_21 N) Go.Proofs.Tryd.func21 (c := c_21) (by kernel_rfl) (by kernel_rfl) rfl (fun p => ok_21 N p) (loopsAll (by kernel_rfl) (lookOk_nil))
/-! ### fusee/fuseelaw44.same -/
noncomputable def X_22 (_ : Nat) : Ctx := ⟨tyT, lookF [], eqT⟩
noncomputable def c_22 : Code := bodyOf Go.Proofs.Tryd.f22
theorem x_22 (N : Nat) : CtxOk Go.Proofs.Tryd.prog laidL (X_22 N) := ⟨tyOk, eqOk, fun _ _ => fnsOk_nil.get, by kernel_rfl⟩
noncomputable def lp_22 (_ : Nat) : Nat → Option LSum := lookL []
noncomputable def f_22 (_ : Nat) (x1 : Int) (x2 : ByteArray) (x3 : List Int) (x4 : Int) (x5 : Int) (x6 : ByteArray) (x7 : List Int) (x8 : Int) : Option (TAs [.one (.d (.bool))]) :=
  (bif (x1 == x5) then (bif ((ByteArray.toList x2) == (ByteArray.toList x6)) then (bif ((ByteArray.toList (bytesS x3)) == (ByteArray.toList (bytesS x7))) then (some (x4 == x8)) else (some false)) else (some false)) else (some false))
theorem ok_22 (N : Nat) (x1 : Int) (x2 : ByteArray) (x3 : List Int) (x4 : Int) (x5 : Int) (x6 : ByteArray) (x7 : List Int) (x8 : Int) : f_22 N x1 x2 x3 x4 x5 x6 x7 x8 = exec (X_22 N) Go.Proofs.Tryd.f22.ntmps (lp_22 N) c_22 0 (fnK (X_22 N) Go.Proofs.Tryd.f22.results.toList 0 [.one (.d (.bool))]) (fnSt 2 0 [.agg [.d (.int .i64), .d (.str), .d (.sl [.int .u8]), .d (.int .i64)], .agg [.d (.int .i64), .d (.str), .d (.sl [.int .u8]), .d (.int .i64)]] ((x1, x2, x3, x4), (x5, x6, x7, x8))) := by kernel_rfl
noncomputable def S_22 (N : Nat) : Sum := fnSum 2 0 1 [.agg [.d (.int .i64), .d (.str), .d (.sl [.int .u8]), .d (.int .i64)], .agg [.d (.int .i64), .d (.str), .d (.sl [.int .u8]), .d (.int .i64)]] [.one (.d (.bool))] (fun p => f_22 N p.1.1 p.1.2.1 p.1.2.2.1 p.1.2.2.2 p.2.1 p.2.2.1 p.2.2.2.1 p.2.2.2.2)
theorem s_22 (N : Nat) : SumOk Go.Proofs.Tryd.prog laidL 22 (S_22 N) :=
  fn_ok (lp := lp_22 N) (x_22 N) Go.Proofs.Tryd.func22 (c := c_22) (by kernel_rfl) (by kernel_rfl) rfl (fun p => ok_22 N p.1.1 p.1.2.1 p.1.2.2.1 p.1.2.2.2 p.2.1 p.2.2.1 p.2.2.2.1 p.2.2.2.2) (loopsAll (by kernel_rfl) (lookOk_nil))
/-! ### fusee/fuseelaw44.isAnswer -/
noncomputable def X_23 (_ : Nat) : Ctx := ⟨tyT, lookF [], eqT⟩
noncomputable def c_23 : Code := bodyOf Go.Proofs.Tryd.f23
theorem x_23 (N : Nat) : CtxOk Go.Proofs.Tryd.prog laidL (X_23 N) := ⟨tyOk, eqOk, fun _ _ => fnsOk_nil.get, by kernel_rfl⟩
noncomputable def lp_23 (_ : Nat) : Nat → Option LSum := lookL []
noncomputable def f_23 (_ : Nat) (x1 : Int) (x2 : Int) (x3 : Int) (x4 : Int) (x5 : Int) (x6 : Int) (x7 : Int) (x8 : Int) (x9 : Int) (x10 : Int) (x11 : Int) (x12 : Int) (x13 : Int) (x14 : Int) : Option (TAs [.one (.d (.bool))]) :=
  (bif (x1 == x8) then (bif ((x2 == x9) && ((x3 == x10) && ((x4 == x11) && (x5 == x12)))) then (some ((x6 == x13) && (x7 == x14))) else (some false)) else (some false))
theorem ok_23 (N : Nat) (x1 : Int) (x2 : Int) (x3 : Int) (x4 : Int) (x5 : Int) (x6 : Int) (x7 : Int) (x8 : Int) (x9 : Int) (x10 : Int) (x11 : Int) (x12 : Int) (x13 : Int) (x14 : Int) : f_23 N x1 x2 x3 x4 x5 x6 x7 x8 x9 x10 x11 x12 x13 x14 = exec (X_23 N) Go.Proofs.Tryd.f23.ntmps (lp_23 N) c_23 0 (fnK (X_23 N) Go.Proofs.Tryd.f23.results.toList 0 [.one (.d (.bool))]) (fnSt 2 0 [.agg [.d (.int .i64), .d (.int .i64), .d (.int .i64), .d (.int .i64), .d (.int .i64), .d (.int .i64), .d (.int .i64)], .agg [.d (.int .i64), .d (.int .i64), .d (.int .i64), .d (.int .i64), .d (.int .i64), .d (.int .i64), .d (.int .i64)]] ((x1, x2, x3, x4, x5, x6, x7), (x8, x9, x10, x11, x12, x13, x14))) := by kernel_rfl
noncomputable def S_23 (N : Nat) : Sum := fnSum 2 0 1 [.agg [.d (.int .i64), .d (.int .i64), .d (.int .i64), .d (.int .i64), .d (.int .i64), .d (.int .i64), .d (.int .i64)], .agg [.d (.int .i64), .d (.int .i64), .d (.int .i64), .d (.int .i64), .d (.int .i64), .d (.int .i64), .d (.int .i64)]] [.one (.d (.bool))] (fun p => f_23 N p.1.1 p.1.2.1 p.1.2.2.1 p.1.2.2.2.1 p.1.2.2.2.2.1 p.1.2.2.2.2.2.1 p.1.2.2.2.2.2.2 p.2.1 p.2.2.1 p.2.2.2.1 p.2.2.2.2.1 p.2.2.2.2.2.1 p.2.2.2.2.2.2.1 p.2.2.2.2.2.2.2)
theorem s_23 (N : Nat) : SumOk Go.Proofs.Tryd.prog laidL 23 (S_23 N) :=
  fn_ok (lp := lp_23 N) (x_23 N) Go.Proofs.Tryd.func23 (c := c_23) (by kernel_rfl) (by kernel_rfl) rfl (fun p => ok_23 N p.1.1 p.1.2.1 p.1.2.2.1 p.1.2.2.2.1 p.1.2.2.2.2.1 p.1.2.2.2.2.2.1 p.1.2.2.2.2.2.2 p.2.1 p.2.2.1 p.2.2.2.1 p.2.2.2.2.1 p.2.2.2.2.2.1 p.2.2.2.2.2.2.1 p.2.2.2.2.2.2.2) (loopsAll (by kernel_rfl) (lookOk_nil))
/-! ### fusee/calls.Price -/
noncomputable def X_24 (_ : Nat) : Ctx := ⟨tyT, lookF [], eqT⟩
noncomputable def c_24 : Code := bodyOf Go.Proofs.Tryd.f24
theorem x_24 (N : Nat) : CtxOk Go.Proofs.Tryd.prog laidL (X_24 N) := ⟨tyOk, eqOk, fun _ _ => fnsOk_nil.get, by kernel_rfl⟩
noncomputable def lp_24 (_ : Nat) : Nat → Option LSum := lookL []
noncomputable def f_24 (_ : Nat) (x1 : Int) (_x2 : ByteArray) (x3 : List Int) (_x4 : Int) : Option (TAs [.one (.d (.int .i64))]) :=
  (bif (x1 == 0) then (some (IntKind.i64.wrap (1 + (IntKind.i64.wrap (Int.tdiv (IntKind.i64.wrap ((IntKind.i64.wrap ((List.length x3 : Int) + 64)) - 1)) 64))))) else (bif (x1 == 1) then (some (IntKind.i64.wrap (2 + (IntKind.i64.wrap (Int.tdiv (IntKind.i64.wrap ((IntKind.i64.wrap ((List.length x3 : Int) + 64)) - 1)) 64))))) else (bif (x1 == 2) then (some (IntKind.i64.wrap (8 + (IntKind.i64.wrap (Int.tdiv (IntKind.i64.wrap ((IntKind.i64.wrap ((List.length x3 : Int) + 64)) - 1)) 64))))) else (bif (x1 == 3) then (some (IntKind.i64.wrap (8 + (IntKind.i64.wrap (Int.tdiv (IntKind.i64.wrap ((IntKind.i64.wrap ((List.length x3 : Int) + 64)) - 1)) 64))))) else (bif (x1 == 4) then (some (IntKind.i64.wrap (8 + (IntKind.i64.wrap (Int.tdiv (IntKind.i64.wrap ((IntKind.i64.wrap ((List.length x3 : Int) + 64)) - 1)) 64))))) else (bif (x1 == 5) then (some (IntKind.i64.wrap (8 + (IntKind.i64.wrap (Int.tdiv (IntKind.i64.wrap ((IntKind.i64.wrap ((List.length x3 : Int) + 64)) - 1)) 64))))) else (bif (x1 == 6) then (some (IntKind.i64.wrap (8 + (IntKind.i64.wrap (Int.tdiv (IntKind.i64.wrap ((IntKind.i64.wrap ((List.length x3 : Int) + 64)) - 1)) 64))))) else (some 0))))))))
theorem ok_24 (N : Nat) (x1 : Int) (x2 : ByteArray) (x3 : List Int) (x4 : Int) : f_24 N x1 x2 x3 x4 = exec (X_24 N) Go.Proofs.Tryd.f24.ntmps (lp_24 N) c_24 0 (fnK (X_24 N) Go.Proofs.Tryd.f24.results.toList 0 [.one (.d (.int .i64))]) (fnSt 1 0 [.agg [.d (.int .i64), .d (.str), .d (.sl [.int .u8]), .d (.int .i64)]] (x1, x2, x3, x4)) := by kernel_rfl
noncomputable def S_24 (N : Nat) : Sum := fnSum 1 0 1 [.agg [.d (.int .i64), .d (.str), .d (.sl [.int .u8]), .d (.int .i64)]] [.one (.d (.int .i64))] (fun p => f_24 N p.1 p.2.1 p.2.2.1 p.2.2.2)
theorem s_24 (N : Nat) : SumOk Go.Proofs.Tryd.prog laidL 24 (S_24 N) :=
  fn_ok (lp := lp_24 N) (x_24 N) Go.Proofs.Tryd.func24 (c := c_24) (by kernel_rfl) (by kernel_rfl) rfl (fun p => ok_24 N p.1 p.2.1 p.2.2.1 p.2.2.2) (loopsAll (by kernel_rfl) (lookOk_nil))
/-! ### fusee/fuseeref44.Price -/
noncomputable def X_25 (_ : Nat) : Ctx := ⟨tyT, lookF [], eqT⟩
noncomputable def c_25 : Code := bodyOf Go.Proofs.Tryd.f25
theorem x_25 (N : Nat) : CtxOk Go.Proofs.Tryd.prog laidL (X_25 N) := ⟨tyOk, eqOk, fun _ _ => fnsOk_nil.get, by kernel_rfl⟩
noncomputable def nd_25_0 : Code := loopAt 0 0 c_25
noncomputable def cb_25_0 : Code := unloop nd_25_0
theorem ne_25_0 : nd_25_0 = .loop cb_25_0 := by kernel_rfl
noncomputable def sh_25_0 : List ShA := [.one (.ptr 144 0), .one (.d (.int .i64)), .one (.d (.int .i64)), .agg [.d (.int .i64), .d (.str), .d (.sl [.int .u8]), .d (.int .i64)]]
noncomputable def o_25_0 : OutK 0 (TAs [.one (.d (.int .i64))]) := (outOne 0 (.exit 0) [3] [] [.one (.d (.int .i64))])
noncomputable def b_25_0 (_ : Nat) (ih : TAs sh_25_0 → Option (TAs [.one (.d (.int .i64))])) : TAs sh_25_0 → Option (TAs [.one (.d (.int .i64))]) := fun (_, y5, y6, (y7, y8, y9, y10)) =>
  (bif (decide (y6 < (List.length y9 : Int))) then (ih ((), (IntKind.i64.wrap (y5 + 1)), (IntKind.i64.wrap (y6 + 64)), (y7, y8, y9, y10))) else (some (y5)))
noncomputable def l_25_0 (N : Nat) : TAs sh_25_0 → Option (TAs [.one (.d (.int .i64))]) := iter (b_25_0 N) N
noncomputable def lp_25_0 (_ : Nat) : Nat → Option LSum := lookL []
noncomputable def L_25_0 (N : Nat) : LSum := loopSum [1, 3, 4] [144] sh_25_0 o_25_0 (l_25_0 N)
theorem b_ok_25_0 (N : Nat) (ih : TAs sh_25_0 → Option (TAs [.one (.d (.int .i64))])) (p : TAs sh_25_0) : b_25_0 N ih p = exec (X_25 N) Go.Proofs.Tryd.f25.ntmps (lp_25_0 N) cb_25_0 0 (roundK [1, 3, 4] [144] sh_25_0 o_25_0 ih) (stOf [1, 3, 4] [144] sh_25_0 p) := by kernel_rfl
theorem L_ok_25_0 (N : Nat) : SegOk Go.Proofs.Tryd.prog laidL 0 Go.Proofs.Tryd.f25.ntmps nd_25_0 (L_25_0 N) :=
  ne_25_0 ▸ loop_ok (cur := 0) (lp := lp_25_0 N) (x_25 N) (fun n => iter (b_25_0 N) n) (fun _ => rfl) (fun n p => b_ok_25_0 N (iter (b_25_0 N) n) p) (loopsAll (by kernel_rfl) (lookOk_nil)) N
noncomputable def lp_25 (N : Nat) : Nat → Option LSum := lookL [(0, L_25_0 N)]
noncomputable def f_25 (N : Nat) (x1 : Int) (x2 : ByteArray) (x3 : List Int) (x4 : Int) : Option (TAs [.one (.d (.int .i64))]) :=
  (bif (decide (x1 < 0)) then (some 0) else (bif (decide (x1 > 6)) then (some 0) else (bif (decide (x1 < 2)) then ((l_25_0 N ((), (IntKind.i64.wrap (x1 + 1)), 0, (x1, x2, x3, x4))).bind fun q11 => (some q11)) else ((l_25_0 N ((), 8, 0, (x1, x2, x3, x4))).bind fun q12 => (some q12)))))
theorem ok_25 (N : Nat) (x1 : Int) (x2 : ByteArray) (x3 : List Int) (x4 : Int) : f_25 N x1 x2 x3 x4 = exec (X_25 N) Go.Proofs.Tryd.f25.ntmps (lp_25 N) c_25 0 (fnK (X_25 N) Go.Proofs.Tryd.f25.results.toList 0 [.one (.d (.int .i64))]) (fnSt 1 0 [.agg [.d (.int .i64), .d (.str), .d (.sl [.int .u8]), .d (.int .i64)]] (x1, x2, x3, x4)) := by kernel_rfl
noncomputable def S_25 (N : Nat) : Sum := fnSum 1 0 1 [.agg [.d (.int .i64), .d (.str), .d (.sl [.int .u8]), .d (.int .i64)]] [.one (.d (.int .i64))] (fun p => f_25 N p.1 p.2.1 p.2.2.1 p.2.2.2)
theorem s_25 (N : Nat) : SumOk Go.Proofs.Tryd.prog laidL 25 (S_25 N) :=
  fn_ok (lp := lp_25 N) (x_25 N) Go.Proofs.Tryd.func25 (c := c_25) (by kernel_rfl) (by kernel_rfl) rfl (fun p => ok_25 N p.1 p.2.1 p.2.2.1 p.2.2.2) (loopsAll (by kernel_rfl) ((lookOk_cons (L_ok_25_0 N) lookOk_nil)))
/-! ### fusee/fuseeref05.Put -/
noncomputable def X_66 (_ : Nat) : Ctx := ⟨tyT, lookF [], eqT⟩
noncomputable def c_66 : Code := bodyOf Go.Proofs.Tryd.f66
theorem x_66 (N : Nat) : CtxOk Go.Proofs.Tryd.prog laidL (X_66 N) := ⟨tyOk, eqOk, fun _ _ => fnsOk_nil.get, by kernel_rfl⟩
noncomputable def nd_66_0 : Code := loopAt 0 0 c_66
noncomputable def cb_66_0 : Code := unloop nd_66_0
theorem ne_66_0 : nd_66_0 = .loop cb_66_0 := by kernel_rfl
noncomputable def sh_66_0 : List ShA := [.one (.d (.int .u64)), .one (.d (.int .i64)), .one (.slt [.int .u8] 5 1), .one (.d (.int .i64))]
noncomputable def o_66_0 : OutK 0 (TAs [.one (.slt [.int .u8] 5 1)]) := (outOne 0 (.exit 0) [7] [] [.one (.slt [.int .u8] 5 1)])
noncomputable def b_66_0 (_ : Nat) (ih : TAs sh_66_0 → Option (TAs [.one (.slt [.int .u8] 5 1)])) : TAs sh_66_0 → Option (TAs [.one (.slt [.int .u8] 5 1)]) := fun (y4, y5, y6, y7) =>
  (bif (decide (y7 < y5)) then (bif (decide ((List.length y6 + List.length ([(IntKind.u8.wrap (Int.tmod y4 256))] : List Int)) * 1 ≤ 140737488355328)) then (ih ((IntKind.u64.wrap (Int.tdiv y4 256)), y5, (y6 ++ ([(IntKind.u8.wrap (Int.tmod y4 256))] : List Int)), (IntKind.i64.wrap (y7 + 1)))) else none) else (some (y6)))
noncomputable def l_66_0 (N : Nat) : TAs sh_66_0 → Option (TAs [.one (.slt [.int .u8] 5 1)]) := iter (b_66_0 N) N
noncomputable def lp_66_0 (_ : Nat) : Nat → Option LSum := lookL []
noncomputable def L_66_0 (N : Nat) : LSum := loopSum [1, 2, 7, 8] [] sh_66_0 o_66_0 (l_66_0 N)
theorem b_ok_66_0 (N : Nat) (ih : TAs sh_66_0 → Option (TAs [.one (.slt [.int .u8] 5 1)])) (p : TAs sh_66_0) : b_66_0 N ih p = exec (X_66 N) Go.Proofs.Tryd.f66.ntmps (lp_66_0 N) cb_66_0 0 (roundK [1, 2, 7, 8] [] sh_66_0 o_66_0 ih) (stOf [1, 2, 7, 8] [] sh_66_0 p) := by kernel_rfl
theorem L_ok_66_0 (N : Nat) : SegOk Go.Proofs.Tryd.prog laidL 0 Go.Proofs.Tryd.f66.ntmps nd_66_0 (L_66_0 N) :=
  ne_66_0 ▸ loop_ok (cur := 0) (lp := lp_66_0 N) (x_66 N) (fun n => iter (b_66_0 N) n) (fun _ => rfl) (fun n p => b_ok_66_0 N (iter (b_66_0 N) n) p) (loopsAll (by kernel_rfl) (lookOk_nil)) N
noncomputable def lp_66 (N : Nat) : Nat → Option LSum := lookL [(0, L_66_0 N)]
noncomputable def f_66 (N : Nat) (x1 : List Int) (x2 : Int) (x3 : Int) : Option (TAs [.one (.slt [.int .u8] 5 1)]) :=
  (bif (decide ((List.length ([] : List Int) + List.length x1) * 1 ≤ 140737488355328)) then ((l_66_0 N (x2, x3, (([] : List Int) ++ x1), 0)).bind fun q8 => (some q8)) else none)
theorem ok_66 (N : Nat) (x1 : List Int) (x2 : Int) (x3 : Int) : f_66 N x1 x2 x3 = exec (X_66 N) Go.Proofs.Tryd.f66.ntmps (lp_66 N) c_66 0 (fnK (X_66 N) Go.Proofs.Tryd.f66.results.toList 0 [.one (.slt [.int .u8] 5 1)]) (fnSt 3 0 [.one (.d (.sl [.int .u8])), .one (.d (.int .u64)), .one (.d (.int .i64))] (x1, x2, x3)) := by kernel_rfl
noncomputable def S_66 (N : Nat) : Sum := fnSum 3 0 1 [.one (.d (.sl [.int .u8])), .one (.d (.int .u64)), .one (.d (.int .i64))] [.one (.slt [.int .u8] 5 1)] (fun p => f_66 N p.1 p.2.1 p.2.2)
theorem s_66 (N : Nat) : SumOk Go.Proofs.Tryd.prog laidL 66 (S_66 N) :=
  fn_ok (lp := lp_66 N) (x_66 N) Go.Proofs.Tryd.func66 (c := c_66) (by kernel_rfl) (by kernel_rfl) rfl (fun p => ok_66 N p.1 p.2.1 p.2.2) (loopsAll (by kernel_rfl) ((lookOk_cons (L_ok_66_0 N) lookOk_nil)))
/-! ### (*fusee/fields.Reader).U8 -/
noncomputable def X_68 (_ : Nat) : Ctx := ⟨tyT, lookF [(94, rdS)], eqT⟩
noncomputable def c_68 : Code := bodyOf Go.Proofs.Tryd.f68
theorem x_68 (N : Nat) : CtxOk Go.Proofs.Tryd.prog laidL (X_68 N) := ⟨tyOk, eqOk, fun _ _ => (fnsOk_cons rdS_ok fnsOk_nil).get, by kernel_rfl⟩
noncomputable def lp_68 (_ : Nat) : Nat → Option LSum := lookL []
noncomputable def f_68 (_ : Nat) (x1 : List Int) (x2 : Bool) : Option (TAs [.one (.d (.int .u8)), .agg [.d (.sl [.int .u8]), .d (.bool)]]) :=
  ((rdF 1 x1 x2).bind fun r3 => (some ((IntKind.u8.wrap r3.1), (r3.2.1, r3.2.2))))
theorem ok_68 (N : Nat) (x1 : List Int) (x2 : Bool) : f_68 N x1 x2 = exec (X_68 N) Go.Proofs.Tryd.f68.ntmps (lp_68 N) c_68 0 (fnK (X_68 N) Go.Proofs.Tryd.f68.results.toList 1 [.one (.d (.int .u8)), .agg [.d (.sl [.int .u8]), .d (.bool)]]) (fnSt 1 1 [.one (.ptr 0 0), .agg [.d (.sl [.int .u8]), .d (.bool)]] ((), (x1, x2))) := by kernel_rfl
noncomputable def S_68 (N : Nat) : Sum := fnSum 1 1 1 [.one (.ptr 0 0), .agg [.d (.sl [.int .u8]), .d (.bool)]] [.one (.d (.int .u8)), .agg [.d (.sl [.int .u8]), .d (.bool)]] (fun p => f_68 N p.2.1 p.2.2)
theorem s_68 (N : Nat) : SumOk Go.Proofs.Tryd.prog laidL 68 (S_68 N) :=
  fn_ok (lp := lp_68 N) (x_68 N) Go.Proofs.Tryd.func68 (c := c_68) (by kernel_rfl) (by kernel_rfl) rfl (fun p => ok_68 N p.2.1 p.2.2) (loopsAll (by kernel_rfl) (lookOk_nil))
/-! ### (*fusee/fields.Reader).I64 -/
noncomputable def X_70 (_ : Nat) : Ctx := ⟨tyT, lookF [(94, rdS)], eqT⟩
noncomputable def c_70 : Code := bodyOf Go.Proofs.Tryd.f70
theorem x_70 (N : Nat) : CtxOk Go.Proofs.Tryd.prog laidL (X_70 N) := ⟨tyOk, eqOk, fun _ _ => (fnsOk_cons rdS_ok fnsOk_nil).get, by kernel_rfl⟩
noncomputable def lp_70 (_ : Nat) : Nat → Option LSum := lookL []
noncomputable def f_70 (_ : Nat) (x1 : List Int) (x2 : Bool) : Option (TAs [.one (.d (.int .i64)), .agg [.d (.sl [.int .u8]), .d (.bool)]]) :=
  ((rdF 8 x1 x2).bind fun r3 => (some ((IntKind.i64.wrap r3.1), (r3.2.1, r3.2.2))))
theorem ok_70 (N : Nat) (x1 : List Int) (x2 : Bool) : f_70 N x1 x2 = exec (X_70 N) Go.Proofs.Tryd.f70.ntmps (lp_70 N) c_70 0 (fnK (X_70 N) Go.Proofs.Tryd.f70.results.toList 1 [.one (.d (.int .i64)), .agg [.d (.sl [.int .u8]), .d (.bool)]]) (fnSt 1 1 [.one (.ptr 0 0), .agg [.d (.sl [.int .u8]), .d (.bool)]] ((), (x1, x2))) := by kernel_rfl
noncomputable def S_70 (N : Nat) : Sum := fnSum 1 1 1 [.one (.ptr 0 0), .agg [.d (.sl [.int .u8]), .d (.bool)]] [.one (.d (.int .i64)), .agg [.d (.sl [.int .u8]), .d (.bool)]] (fun p => f_70 N p.2.1 p.2.2)
theorem s_70 (N : Nat) : SumOk Go.Proofs.Tryd.prog laidL 70 (S_70 N) :=
  fn_ok (lp := lp_70 N) (x_70 N) Go.Proofs.Tryd.func70 (c := c_70) (by kernel_rfl) (by kernel_rfl) rfl (fun p => ok_70 N p.2.1 p.2.2) (loopsAll (by kernel_rfl) (lookOk_nil))
/-! ### (*fusee/fields.Reader).U16 -/
noncomputable def X_71 (_ : Nat) : Ctx := ⟨tyT, lookF [(94, rdS)], eqT⟩
noncomputable def c_71 : Code := bodyOf Go.Proofs.Tryd.f71
theorem x_71 (N : Nat) : CtxOk Go.Proofs.Tryd.prog laidL (X_71 N) := ⟨tyOk, eqOk, fun _ _ => (fnsOk_cons rdS_ok fnsOk_nil).get, by kernel_rfl⟩
noncomputable def lp_71 (_ : Nat) : Nat → Option LSum := lookL []
noncomputable def f_71 (_ : Nat) (x1 : List Int) (x2 : Bool) : Option (TAs [.one (.d (.int .u16)), .agg [.d (.sl [.int .u8]), .d (.bool)]]) :=
  ((rdF 2 x1 x2).bind fun r3 => (some ((IntKind.u16.wrap r3.1), (r3.2.1, r3.2.2))))
theorem ok_71 (N : Nat) (x1 : List Int) (x2 : Bool) : f_71 N x1 x2 = exec (X_71 N) Go.Proofs.Tryd.f71.ntmps (lp_71 N) c_71 0 (fnK (X_71 N) Go.Proofs.Tryd.f71.results.toList 1 [.one (.d (.int .u16)), .agg [.d (.sl [.int .u8]), .d (.bool)]]) (fnSt 1 1 [.one (.ptr 0 0), .agg [.d (.sl [.int .u8]), .d (.bool)]] ((), (x1, x2))) := by kernel_rfl
noncomputable def S_71 (N : Nat) : Sum := fnSum 1 1 1 [.one (.ptr 0 0), .agg [.d (.sl [.int .u8]), .d (.bool)]] [.one (.d (.int .u16)), .agg [.d (.sl [.int .u8]), .d (.bool)]] (fun p => f_71 N p.2.1 p.2.2)
theorem s_71 (N : Nat) : SumOk Go.Proofs.Tryd.prog laidL 71 (S_71 N) :=
  fn_ok (lp := lp_71 N) (x_71 N) Go.Proofs.Tryd.func71 (c := c_71) (by kernel_rfl) (by kernel_rfl) rfl (fun p => ok_71 N p.2.1 p.2.2) (loopsAll (by kernel_rfl) (lookOk_nil))
/-! ### (*fusee/fields.Reader).Left -/
noncomputable def X_72 (_ : Nat) : Ctx := ⟨tyT, lookF [], eqT⟩
noncomputable def c_72 : Code := bodyOf Go.Proofs.Tryd.f72
theorem x_72 (N : Nat) : CtxOk Go.Proofs.Tryd.prog laidL (X_72 N) := ⟨tyOk, eqOk, fun _ _ => fnsOk_nil.get, by kernel_rfl⟩
noncomputable def lp_72 (_ : Nat) : Nat → Option LSum := lookL []
noncomputable def f_72 (_ : Nat) (x1 : List Int) (x2 : Bool) : Option (TAs [.one (.d (.int .i64)), .agg [.d (.sl [.int .u8]), .d (.bool)]]) :=
  (some ((List.length x1 : Int), (x1, x2)))
theorem ok_72 (N : Nat) (x1 : List Int) (x2 : Bool) : f_72 N x1 x2 = exec (X_72 N) Go.Proofs.Tryd.f72.ntmps (lp_72 N) c_72 0 (fnK (X_72 N) Go.Proofs.Tryd.f72.results.toList 1 [.one (.d (.int .i64)), .agg [.d (.sl [.int .u8]), .d (.bool)]]) (fnSt 1 1 [.one (.ptr 0 0), .agg [.d (.sl [.int .u8]), .d (.bool)]] ((), (x1, x2))) := by kernel_rfl
noncomputable def S_72 (N : Nat) : Sum := fnSum 1 1 1 [.one (.ptr 0 0), .agg [.d (.sl [.int .u8]), .d (.bool)]] [.one (.d (.int .i64)), .agg [.d (.sl [.int .u8]), .d (.bool)]] (fun p => f_72 N p.2.1 p.2.2)
theorem s_72 (N : Nat) : SumOk Go.Proofs.Tryd.prog laidL 72 (S_72 N) :=
  fn_ok (lp := lp_72 N) (x_72 N) Go.Proofs.Tryd.func72 (c := c_72) (by kernel_rfl) (by kernel_rfl) rfl (fun p => ok_72 N p.2.1 p.2.2) (loopsAll (by kernel_rfl) (lookOk_nil))
/-! ### (*fusee/fields.Reader).Done -/
noncomputable def X_73 (_ : Nat) : Ctx := ⟨tyT, lookF [], eqT⟩
noncomputable def c_73 : Code := bodyOf Go.Proofs.Tryd.f73
theorem x_73 (N : Nat) : CtxOk Go.Proofs.Tryd.prog laidL (X_73 N) := ⟨tyOk, eqOk, fun _ _ => fnsOk_nil.get, by kernel_rfl⟩
noncomputable def lp_73 (_ : Nat) : Nat → Option LSum := lookL []
noncomputable def f_73 (_ : Nat) (x1 : List Int) (x2 : Bool) : Option (TAs [.one (.d (.err 122)), .agg [.d (.sl [.int .u8]), .d (.bool)]]) :=
  (bif x2 then (some ((some 3), (x1, x2))) else (bif (decide ((List.length x1 : Int) > 0)) then (some ((some 3), (x1, x2))) else (some (none, (x1, x2)))))
theorem ok_73 (N : Nat) (x1 : List Int) (x2 : Bool) : f_73 N x1 x2 = exec (X_73 N) Go.Proofs.Tryd.f73.ntmps (lp_73 N) c_73 0 (fnK (X_73 N) Go.Proofs.Tryd.f73.results.toList 1 [.one (.d (.err 122)), .agg [.d (.sl [.int .u8]), .d (.bool)]]) (fnSt 1 1 [.one (.ptr 0 0), .agg [.d (.sl [.int .u8]), .d (.bool)]] ((), (x1, x2))) := by kernel_rfl
noncomputable def S_73 (N : Nat) : Sum := fnSum 1 1 1 [.one (.ptr 0 0), .agg [.d (.sl [.int .u8]), .d (.bool)]] [.one (.d (.err 122)), .agg [.d (.sl [.int .u8]), .d (.bool)]] (fun p => f_73 N p.2.1 p.2.2)
theorem s_73 (N : Nat) : SumOk Go.Proofs.Tryd.prog laidL 73 (S_73 N) :=
  fn_ok (lp := lp_73 N) (x_73 N) Go.Proofs.Tryd.func73 (c := c_73) (by kernel_rfl) (by kernel_rfl) rfl (fun p => ok_73 N p.2.1 p.2.2) (loopsAll (by kernel_rfl) (lookOk_nil))
/-! ### fusee/fuseeref05.Take -/
noncomputable def X_74 (_ : Nat) : Ctx := ⟨tyT, lookF [], eqT⟩
noncomputable def c_74 : Code := bodyOf Go.Proofs.Tryd.f74
theorem x_74 (N : Nat) : CtxOk Go.Proofs.Tryd.prog laidL (X_74 N) := ⟨tyOk, eqOk, fun _ _ => fnsOk_nil.get, by kernel_rfl⟩
noncomputable def nd_74_0 : Code := loopAt 0 0 c_74
noncomputable def cb_74_0 : Code := unloop nd_74_0
theorem ne_74_0 : nd_74_0 = .loop cb_74_0 := by kernel_rfl
noncomputable def sh_74_0 : List ShA := [.one (.d (.int .i64)), .one (.ptr 160 0), .one (.ptr 192 0), .one (.d (.int .u64)), .one (.d (.int .i64)), .agg [.d (.sl [.int .u8]), .d (.bool)], .agg [.slt [.int .u8] 5 1, .d (.bool)]]
noncomputable def o_74_0 : OutK 0 (TAs [.one (.d (.int .i64)), .one (.ptr 160 0), .one (.ptr 192 0), .one (.d (.int .u64)), .agg [.d (.sl [.int .u8]), .d (.bool)], .agg [.slt [.int .u8] 5 1, .d (.bool)]]) := (outOne 0 (.exit 0) [1, 2, 4, 6] [160, 192] [.one (.d (.int .i64)), .one (.ptr 160 0), .one (.ptr 192 0), .one (.d (.int .u64)), .agg [.d (.sl [.int .u8]), .d (.bool)], .agg [.slt [.int .u8] 5 1, .d (.bool)]])
noncomputable def b_74_0 (_ : Nat) (ih : TAs sh_74_0 → Option (TAs [.one (.d (.int .i64)), .one (.ptr 160 0), .one (.ptr 192 0), .one (.d (.int .u64)), .agg [.d (.sl [.int .u8]), .d (.bool)], .agg [.slt [.int .u8] 5 1, .d (.bool)]])) : TAs sh_74_0 → Option (TAs [.one (.d (.int .i64)), .one (.ptr 160 0), .one (.ptr 192 0), .one (.d (.int .u64)), .agg [.d (.sl [.int .u8]), .d (.bool)], .agg [.slt [.int .u8] 5 1, .d (.bool)]]) := fun (y4, _, _, y5, y6, (y7, y8), (y9, y10)) =>
  (bif (decide (y6 ≥ 0)) then (bif (decide (0 ≤ y6 ∧ y6 < (List.length y7 : Int))) then (ih (y4, (), (), (IntKind.u64.wrap ((IntKind.u64.wrap (256 * y5)) + (IntKind.u64.wrap (List.getD y7 (Int.toNat y6) 0)))), (IntKind.i64.wrap (y6 - 1)), (y7, y8), (y9, y10))) else none) else (some ((y4, (), (), y5, (y7, y8), (y9, y10)))))
noncomputable def l_74_0 (N : Nat) : TAs sh_74_0 → Option (TAs [.one (.d (.int .i64)), .one (.ptr 160 0), .one (.ptr 192 0), .one (.d (.int .u64)), .agg [.d (.sl [.int .u8]), .d (.bool)], .agg [.slt [.int .u8] 5 1, .d (.bool)]]) := iter (b_74_0 N) N
noncomputable def lp_74_0 (_ : Nat) : Nat → Option LSum := lookL []
noncomputable def L_74_0 (N : Nat) : LSum := loopSum [1, 2, 4, 6, 7] [160, 192] sh_74_0 o_74_0 (l_74_0 N)
theorem b_ok_74_0 (N : Nat) (ih : TAs sh_74_0 → Option (TAs [.one (.d (.int .i64)), .one (.ptr 160 0), .one (.ptr 192 0), .one (.d (.int .u64)), .agg [.d (.sl [.int .u8]), .d (.bool)], .agg [.slt [.int .u8] 5 1, .d (.bool)]])) (p : TAs sh_74_0) : b_74_0 N ih p = exec (X_74 N) Go.Proofs.Tryd.f74.ntmps (lp_74_0 N) cb_74_0 0 (roundK [1, 2, 4, 6, 7] [160, 192] sh_74_0 o_74_0 ih) (stOf [1, 2, 4, 6, 7] [160, 192] sh_74_0 p) := by kernel_rfl
theorem L_ok_74_0 (N : Nat) : SegOk Go.Proofs.Tryd.prog laidL 0 Go.Proofs.Tryd.f74.ntmps nd_74_0 (L_74_0 N) :=
  ne_74_0 ▸ loop_ok (cur := 0) (lp := lp_74_0 N) (x_74 N) (fun n => iter (b_74_0 N) n) (fun _ => rfl) (fun n p => b_ok_74_0 N (iter (b_74_0 N) n) p) (loopsAll (by kernel_rfl) (lookOk_nil)) N
noncomputable def lp_74 (N : Nat) : Nat → Option LSum := lookL [(0, L_74_0 N)]
noncomputable def f_74 (N : Nat) (x1 : List Int) (x2 : Bool) (x3 : Int) : Option (TAs [.agg [.d (.sl [.int .u8]), .d (.bool)], .one (.d (.int .u64))]) :=
  (bif x2 then (some ((([] : List Int), true), 0)) else (bif (decide ((List.length x1 : Int) < x3)) then (some ((([] : List Int), true), 0)) else ((l_74_0 N (x3, (), (), 0, (IntKind.i64.wrap (x3 - 1)), (x1, x2), (([] : List Int), false))).bind fun q11 => (bif (decide (0 ≤ (List.length q11.2.2.2.2.1.1 : Int) ∧ (List.length q11.2.2.2.2.1.1 : Int) ≤ (List.length q11.2.2.2.2.1.1 : Int))) then (bif (decide (0 ≤ q11.1 ∧ q11.1 ≤ (List.length q11.2.2.2.2.1.1 : Int))) then (some (((List.drop (Int.toNat q11.1) (List.take (Int.toNat (List.length q11.2.2.2.2.1.1 : Int)) q11.2.2.2.2.1.1)), false), q11.2.2.2.1)) else none) else none))))
theorem ok_74 (N : Nat) (x1 : List Int) (x2 : Bool) (x3 : Int) : f_74 N x1 x2 x3 = exec (X_74 N) Go.Proofs.Tryd.f74.ntmps (lp_74 N) c_74 0 (fnK (X_74 N) Go.Proofs.Tryd.f74.results.toList 0 [.agg [.d (.sl [.int .u8]), .d (.bool)], .one (.d (.int .u64))]) (fnSt 2 0 [.agg [.d (.sl [.int .u8]), .d (.bool)], .one (.d (.int .i64))] ((x1, x2), x3)) := by kernel_rfl
noncomputable def S_74 (N : Nat) : Sum := fnSum 2 0 2 [.agg [.d (.sl [.int .u8]), .d (.bool)], .one (.d (.int .i64))] [.agg [.d (.sl [.int .u8]), .d (.bool)], .one (.d (.int .u64))] (fun p => f_74 N p.1.1 p.1.2 p.2)
theorem s_74 (N : Nat) : SumOk Go.Proofs.Tryd.prog laidL 74 (S_74 N) :=
  fn_ok (lp := lp_74 N) (x_74 N) Go.Proofs.Tryd.func74 (c := c_74) (by kernel_rfl) (by kernel_rfl) rfl (fun p => ok_74 N p.1.1 p.1.2 p.2) (loopsAll (by kernel_rfl) ((lookOk_cons (L_ok_74_0 N) lookOk_nil)))
/-! ### fusee/fuseeref05.Words -/
noncomputable def X_75 (N : Nat) : Ctx := ⟨tyT, lookF [(74, (S_74 N))], eqT⟩
noncomputable def c_75 : Code := bodyOf Go.Proofs.Tryd.f75
theorem x_75 (N : Nat) : CtxOk Go.Proofs.Tryd.prog laidL (X_75 N) := ⟨tyOk, eqOk, fun _ _ => (fnsOk_cons (s_74 N) fnsOk_nil).get, by kernel_rfl⟩
noncomputable def lp_75 (_ : Nat) : Nat → Option LSum := lookL []
noncomputable def f_75 (N : Nat) (x1 : List Int) (x2 : Bool) : Option (TAs [.agg [.d (.sl [.int .u8]), .d (.bool)], .one (.d (.str))]) :=
  ((f_74 N x1 x2 1).bind fun r3 => (bif r3.1.2 then (some ((([] : List Int), true), ⟨#[]⟩)) else (bif (decide ((IntKind.u64.wrap (List.length r3.1.1 : Int)) < r3.2)) then (some ((([] : List Int), true), ⟨#[]⟩)) else (bif (decide (0 ≤ (List.length r3.1.1 : Int) ∧ (List.length r3.1.1 : Int) ≤ (List.length r3.1.1 : Int))) then (bif (decide (0 ≤ r3.2 ∧ r3.2 ≤ (List.length r3.1.1 : Int))) then (bif (decide (0 ≤ r3.2 ∧ r3.2 ≤ (List.length r3.1.1 : Int))) then (bif (decide (0 ≤ (0 : Int) ∧ (0 : Int) ≤ r3.2)) then (some (((List.drop (Int.toNat r3.2) (List.take (Int.toNat (List.length r3.1.1 : Int)) r3.1.1)), false), (bytesS (List.drop (Int.toNat (0 : Int)) (List.take (Int.toNat r3.2) r3.1.1))))) else none) else none) else none) else none))))
theorem ok_75 (N : Nat) (x1 : List Int) (x2 : Bool) : f_75 N x1 x2 = exec (X_75 N) Go.Proofs.Tryd.f75.ntmps (lp_75 N) c_75 0 (fnK (X_75 N) Go.Proofs.Tryd.f75.results.toList 0 [.agg [.d (.sl [.int .u8]), .d (.bool)], .one (.d (.str))]) (fnSt 1 0 [.agg [.d (.sl [.int .u8]), .d (.bool)]] (x1, x2)) := by kernel_rfl
noncomputable def S_75 (N : Nat) : Sum := fnSum 1 0 2 [.agg [.d (.sl [.int .u8]), .d (.bool)]] [.agg [.d (.sl [.int .u8]), .d (.bool)], .one (.d (.str))] (fun p => f_75 N p.1 p.2)
theorem s_75 (N : Nat) : SumOk Go.Proofs.Tryd.prog laidL 75 (S_75 N) :=
  fn_ok (lp := lp_75 N) (x_75 N) Go.Proofs.Tryd.func75 (c := c_75) (by kernel_rfl) (by kernel_rfl) rfl (fun p => ok_75 N p.1 p.2) (loopsAll (by kernel_rfl) (lookOk_nil))
/-! ### slices.Clone[[]byte,byte] -/
noncomputable def Xc_93 : Ctx := ⟨tyT, lookF [], eqT⟩
theorem xc_93 : CtxOk Go.Proofs.Tryd.prog laidL Xc_93 := ⟨tyOk, eqOk, fun _ _ => fnsOk_nil.get, by kernel_rfl⟩
noncomputable def cl_93 : Sum := fnSum 1 0 1 [.one (.d (.sl [.int .u8]))] [.one (.slt [.int .u8] 5 1)] (cloneF [.int .u8] 1)
theorem cl_93_ok : SumOk Go.Proofs.Tryd.prog laidL 93 cl_93 :=
  clone_ok (t := 22) (bt := 4) (e := 5) xc_93 Go.Proofs.Tryd.func93 (by kernel_rfl) rfl rfl rfl (by kernel_rfl) (fun b xs h => by
    cases b with
    | false => kernel_rfl
    | true => obtain rfl := h rfl; kernel_rfl)
/-! ### (*fusee/fields.Reader).take -/
noncomputable def X_95 (_ : Nat) : Ctx := ⟨tyT, lookF [], eqT⟩
noncomputable def c_95 : Code := bodyOf Go.Proofs.Tryd.f95
theorem x_95 (N : Nat) : CtxOk Go.Proofs.Tryd.prog laidL (X_95 N) := ⟨tyOk, eqOk, fun _ _ => fnsOk_nil.get, by kernel_rfl⟩
noncomputable def lp_95 (_ : Nat) : Nat → Option LSum := lookL []
noncomputable def f_95 (_ : Nat) (x1 : Int) (x2 : List Int) (x3 : Bool) : Option (TAs [.one (.d (.sl [.int .u8])), .agg [.d (.sl [.int .u8]), .d (.bool)]]) :=
  (bif x3 then (some (([] : List Int), (([] : List Int), true))) else (bif (decide (x1 > (List.length x2 : Int))) then (some (([] : List Int), (([] : List Int), true))) else (bif (decide (0 ≤ x1 ∧ x1 ≤ (List.length x2 : Int))) then (bif (decide (0 ≤ (0 : Int) ∧ (0 : Int) ≤ x1)) then (bif (decide (0 ≤ (List.length x2 : Int) ∧ (List.length x2 : Int) ≤ (List.length x2 : Int))) then (bif (decide (0 ≤ x1 ∧ x1 ≤ (List.length x2 : Int))) then (some ((List.drop (Int.toNat (0 : Int)) (List.take (Int.toNat x1) x2)), ((List.drop (Int.toNat x1) (List.take (Int.toNat (List.length x2 : Int)) x2)), x3))) else none) else none) else none) else none)))
theorem ok_95 (N : Nat) (x1 : Int) (x2 : List Int) (x3 : Bool) : f_95 N x1 x2 x3 = exec (X_95 N) Go.Proofs.Tryd.f95.ntmps (lp_95 N) c_95 0 (fnK (X_95 N) Go.Proofs.Tryd.f95.results.toList 1 [.one (.d (.sl [.int .u8])), .agg [.d (.sl [.int .u8]), .d (.bool)]]) (fnSt 2 1 [.one (.ptr 0 0), .one (.d (.int .i64)), .agg [.d (.sl [.int .u8]), .d (.bool)]] ((), x1, (x2, x3))) := by kernel_rfl
noncomputable def S_95 (N : Nat) : Sum := fnSum 2 1 1 [.one (.ptr 0 0), .one (.d (.int .i64)), .agg [.d (.sl [.int .u8]), .d (.bool)]] [.one (.d (.sl [.int .u8])), .agg [.d (.sl [.int .u8]), .d (.bool)]] (fun p => f_95 N p.2.1 p.2.2.1 p.2.2.2)
theorem s_95 (N : Nat) : SumOk Go.Proofs.Tryd.prog laidL 95 (S_95 N) :=
  fn_ok (lp := lp_95 N) (x_95 N) Go.Proofs.Tryd.func95 (c := c_95) (by kernel_rfl) (by kernel_rfl) rfl (fun p => ok_95 N p.2.1 p.2.2.1 p.2.2.2) (loopsAll (by kernel_rfl) (lookOk_nil))
/-! ### fusee/fuseeref44.Tell -/
noncomputable def X_16 (N : Nat) : Ctx := ⟨tyT, lookF [(66, (S_66 N))], eqT⟩
noncomputable def c_16 : Code := bodyOf Go.Proofs.Tryd.f16
theorem x_16 (N : Nat) : CtxOk Go.Proofs.Tryd.prog laidL (X_16 N) := ⟨tyOk, eqOk, fun _ _ => (fnsOk_cons (s_66 N) fnsOk_nil).get, by kernel_rfl⟩
noncomputable def lp_16 (_ : Nat) : Nat → Option LSum := lookL []
noncomputable def f_16 (N : Nat) (x1 : Int) (x2 : Int) (x3 : Int) (x4 : Int) (x5 : Int) (x6 : Int) (x7 : Int) : Option (TAs [.one (.slt [.int .u8] 5 1), .one (.d (.int .i64))]) :=
  (bif (decide (x1 < 0)) then (some (([] : List Int), 1)) else (bif (decide (x1 > 65535)) then (some (([] : List Int), 1)) else ((f_66 N ([33] : List Int) (IntKind.u64.wrap x1) 2).bind fun r8 => ((f_66 N r8 (IntKind.u64.wrap x2) 8).bind fun r9 => ((f_66 N r9 (IntKind.u64.wrap x3) 8).bind fun r10 => ((f_66 N r10 (IntKind.u64.wrap x4) 8).bind fun r11 => ((f_66 N r11 (IntKind.u64.wrap x5) 8).bind fun r12 => ((f_66 N r12 (IntKind.u64.wrap x6) 8).bind fun r13 => ((f_66 N r13 (IntKind.u64.wrap x7) 8).bind fun r14 => (some (r14, 0)))))))))))
theorem ok_16 (N : Nat) (x1 : Int) (x2 : Int) (x3 : Int) (x4 : Int) (x5 : Int) (x6 : Int) (x7 : Int) : f_16 N x1 x2 x3 x4 x5 x6 x7 = exec (X_16 N) Go.Proofs.Tryd.f16.ntmps (lp_16 N) c_16 0 (fnK (X_16 N) Go.Proofs.Tryd.f16.results.toList 0 [.one (.slt [.int .u8] 5 1), .one (.d (.int .i64))]) (fnSt 1 0 [.agg [.d (.int .i64), .d (.int .i64), .d (.int .i64), .d (.int .i64), .d (.int .i64), .d (.int .i64), .d (.int .i64)]] (x1, x2, x3, x4, x5, x6, x7)) := by kernel_rfl
noncomputable def S_16 (N : Nat) : Sum := fnSum 1 0 2 [.agg [.d (.int .i64), .d (.int .i64), .d (.int .i64), .d (.int .i64), .d (.int .i64), .d (.int .i64), .d (.int .i64)]] [.one (.slt [.int .u8] 5 1), .one (.d (.int .i64))] (fun p => f_16 N p.1 p.2.1 p.2.2.1 p.2.2.2.1 p.2.2.2.2.1 p.2.2.2.2.2.1 p.2.2.2.2.2.2)
theorem s_16 (N : Nat) : SumOk Go.Proofs.Tryd.prog laidL 16 (S_16 N) :=
  fn_ok (lp := lp_16 N) (x_16 N) Go.Proofs.Tryd.func16 (c := c_16) (by kernel_rfl) (by kernel_rfl) rfl (fun p => ok_16 N p.1 p.2.1 p.2.2.1 p.2.2.2.1 p.2.2.2.2.1 p.2.2.2.2.2.1 p.2.2.2.2.2.2) (loopsAll (by kernel_rfl) (lookOk_nil))
/-! ### fusee/fuseeref44.Decode -/
noncomputable def X_18 (N : Nat) : Ctx := ⟨tyT, lookF [(74, (S_74 N)), (75, (S_75 N))], eqT⟩
noncomputable def c_18 : Code := bodyOf Go.Proofs.Tryd.f18
theorem x_18 (N : Nat) : CtxOk Go.Proofs.Tryd.prog laidL (X_18 N) := ⟨tyOk, eqOk, fun _ _ => (fnsOk_cons (s_74 N) (fnsOk_cons (s_75 N) fnsOk_nil)).get, by kernel_rfl⟩
noncomputable def lp_18 (_ : Nat) : Nat → Option LSum := lookL []
noncomputable def f_18 (N : Nat) (x1 : List Int) : Option (TAs [.agg [.d (.int .i64), .d (.str), .d (.sl [.int .u8]), .d (.int .i64)], .one (.d (.int .i64))]) :=
  ((f_74 N x1 false 1).bind fun r2 => ((f_74 N r2.1.1 r2.1.2 1).bind fun r3 => ((f_75 N r3.1.1 r3.1.2).bind fun r4 => ((f_74 N r4.1.1 r4.1.2 8).bind fun r5 => ((f_74 N r5.1.1 r5.1.2 2).bind fun r6 => (bif r6.1.2 then (some ((0, ByteArray.empty, ([] : List Int), 0), 3)) else (bif (r2.2 != 63) then (some ((0, ByteArray.empty, ([] : List Int), 0), 3)) else (bif ((IntKind.u64.wrap (List.length r6.1.1 : Int)) != r6.2) then (some ((0, ByteArray.empty, ([] : List Int), 0), 3)) else (bif (decide (r6.2 > 1024)) then (some ((0, ByteArray.empty, ([] : List Int), 0), 3)) else (some (((IntKind.i64.wrap r3.2), r4.2, r6.1.1, (IntKind.i64.wrap r5.2)), 0)))))))))))
theorem ok_18 (N : Nat) (x1 : List Int) : f_18 N x1 = exec (X_18 N) Go.Proofs.Tryd.f18.ntmps (lp_18 N) c_18 0 (fnK (X_18 N) Go.Proofs.Tryd.f18.results.toList 0 [.agg [.d (.int .i64), .d (.str), .d (.sl [.int .u8]), .d (.int .i64)], .one (.d (.int .i64))]) (fnSt 1 0 [.one (.d (.sl [.int .u8]))] x1) := by kernel_rfl
noncomputable def S_18 (N : Nat) : Sum := fnSum 1 0 2 [.one (.d (.sl [.int .u8]))] [.agg [.d (.int .i64), .d (.str), .d (.sl [.int .u8]), .d (.int .i64)], .one (.d (.int .i64))] (fun p => f_18 N p)
theorem s_18 (N : Nat) : SumOk Go.Proofs.Tryd.prog laidL 18 (S_18 N) :=
  fn_ok (lp := lp_18 N) (x_18 N) Go.Proofs.Tryd.func18 (c := c_18) (by kernel_rfl) (by kernel_rfl) rfl (fun p => ok_18 N p) (loopsAll (by kernel_rfl) (lookOk_nil))
/-! ### fusee/fuseeref44.Hear -/
noncomputable def X_20 (N : Nat) : Ctx := ⟨tyT, lookF [(74, (S_74 N))], eqT⟩
noncomputable def c_20 : Code := bodyOf Go.Proofs.Tryd.f20
theorem x_20 (N : Nat) : CtxOk Go.Proofs.Tryd.prog laidL (X_20 N) := ⟨tyOk, eqOk, fun _ _ => (fnsOk_cons (s_74 N) fnsOk_nil).get, by kernel_rfl⟩
noncomputable def nd_20_0 : Code := loopAt 0 0 c_20
noncomputable def cb_20_0 : Code := unloop nd_20_0
theorem ne_20_0 : nd_20_0 = .loop cb_20_0 := by kernel_rfl
noncomputable def sh_20_0 : List ShA := [.one (.d (.sl [.int .u8])), .one (.ptr 160 0), .one (.ptr 192 0), .one (.d (.int .i64)), .agg [.d (.int .i64), .d (.int .i64), .d (.int .i64), .d (.int .i64), .d (.int .i64), .d (.int .i64), .d (.int .i64)], .agg [.d (.arr .i64 6)]]
noncomputable def o_20_0 : OutK 0 (TAs [.one (.d (.sl [.int .u8])), .one (.ptr 160 0), .one (.ptr 192 0), .agg [.d (.int .i64), .d (.int .i64), .d (.int .i64), .d (.int .i64), .d (.int .i64), .d (.int .i64), .d (.int .i64)], .agg [.d (.arr .i64 6)]]) := (outOne 0 (.exit 0) [0, 2, 4] [160, 192] [.one (.d (.sl [.int .u8])), .one (.ptr 160 0), .one (.ptr 192 0), .agg [.d (.int .i64), .d (.int .i64), .d (.int .i64), .d (.int .i64), .d (.int .i64), .d (.int .i64), .d (.int .i64)], .agg [.d (.arr .i64 6)]])
noncomputable def b_20_0 (N : Nat) (ih : TAs sh_20_0 → Option (TAs [.one (.d (.sl [.int .u8])), .one (.ptr 160 0), .one (.ptr 192 0), .agg [.d (.int .i64), .d (.int .i64), .d (.int .i64), .d (.int .i64), .d (.int .i64), .d (.int .i64), .d (.int .i64)], .agg [.d (.arr .i64 6)]])) : TAs sh_20_0 → Option (TAs [.one (.d (.sl [.int .u8])), .one (.ptr 160 0), .one (.ptr 192 0), .agg [.d (.int .i64), .d (.int .i64), .d (.int .i64), .d (.int .i64), .d (.int .i64), .d (.int .i64), .d (.int .i64)], .agg [.d (.arr .i64 6)]]) := fun (y2, _, _, y3, (y4, y5, y6, y7, y8, y9, y10), y11) =>
  (bif (decide (y3 < 6)) then (bif (decide (0 ≤ (List.length y2 : Int) ∧ (List.length y2 : Int) ≤ (List.length y2 : Int))) then (bif (decide (0 ≤ (IntKind.i64.wrap (3 + (IntKind.i64.wrap (8 * y3)))) ∧ (IntKind.i64.wrap (3 + (IntKind.i64.wrap (8 * y3)))) ≤ (List.length y2 : Int))) then ((f_74 N (List.drop (Int.toNat (IntKind.i64.wrap (3 + (IntKind.i64.wrap (8 * y3))))) (List.take (Int.toNat (List.length y2 : Int)) y2)) false 8).bind fun r12 => (bif (decide (0 ≤ y3 ∧ y3 < 6)) then (ih (y2, (), (), (IntKind.i64.wrap (y3 + 1)), (y4, y5, y6, y7, y8, y9, y10), (List.set y11 (Int.toNat y3) (IntKind.i64.wrap r12.2)))) else none)) else none) else none) else (some ((y2, (), (), (y4, y5, y6, y7, y8, y9, y10), y11))))
noncomputable def l_20_0 (N : Nat) : TAs sh_20_0 → Option (TAs [.one (.d (.sl [.int .u8])), .one (.ptr 160 0), .one (.ptr 192 0), .agg [.d (.int .i64), .d (.int .i64), .d (.int .i64), .d (.int .i64), .d (.int .i64), .d (.int .i64), .d (.int .i64)], .agg [.d (.arr .i64 6)]]) := iter (b_20_0 N) N
noncomputable def lp_20_0 (_ : Nat) : Nat → Option LSum := lookL []
noncomputable def L_20_0 (N : Nat) : LSum := loopSum [0, 2, 4, 5] [160, 192] sh_20_0 o_20_0 (l_20_0 N)
theorem b_ok_20_0 (N : Nat) (ih : TAs sh_20_0 → Option (TAs [.one (.d (.sl [.int .u8])), .one (.ptr 160 0), .one (.ptr 192 0), .agg [.d (.int .i64), .d (.int .i64), .d (.int .i64), .d (.int .i64), .d (.int .i64), .d (.int .i64), .d (.int .i64)], .agg [.d (.arr .i64 6)]])) (p : TAs sh_20_0) : b_20_0 N ih p = exec (X_20 N) Go.Proofs.Tryd.f20.ntmps (lp_20_0 N) cb_20_0 0 (roundK [0, 2, 4, 5] [160, 192] sh_20_0 o_20_0 ih) (stOf [0, 2, 4, 5] [160, 192] sh_20_0 p) := by kernel_rfl
theorem L_ok_20_0 (N : Nat) : SegOk Go.Proofs.Tryd.prog laidL 0 Go.Proofs.Tryd.f20.ntmps nd_20_0 (L_20_0 N) :=
  ne_20_0 ▸ loop_ok (cur := 0) (lp := lp_20_0 N) (x_20 N) (fun n => iter (b_20_0 N) n) (fun _ => rfl) (fun n p => b_ok_20_0 N (iter (b_20_0 N) n) p) (loopsAll (by kernel_rfl) (lookOk_nil)) N
noncomputable def lp_20 (N : Nat) : Nat → Option LSum := lookL [(0, L_20_0 N)]
noncomputable def f_20 (N : Nat) (x1 : List Int) : Option (TAs [.agg [.d (.int .i64), .d (.int .i64), .d (.int .i64), .d (.int .i64), .d (.int .i64), .d (.int .i64), .d (.int .i64)], .one (.d (.int .i64))]) :=
  (bif ((List.length x1 : Int) != 51) then (some ((0, 0, 0, 0, 0, 0, 0), 3)) else (bif (decide (0 ≤ (0 : Int) ∧ (0 : Int) < (List.length x1 : Int))) then (bif ((List.getD x1 (Int.toNat 0) 0) != 33) then (some ((0, 0, 0, 0, 0, 0, 0), 3)) else ((l_20_0 N (x1, (), (), 0, (0, 0, 0, 0, 0, 0, 0), [0, 0, 0, 0, 0, 0])).bind fun q13 => (bif (decide (0 ≤ (1 : Int) ∧ (1 : Int) < (List.length q13.1 : Int))) then (bif (decide (0 ≤ (2 : Int) ∧ (2 : Int) < (List.length q13.1 : Int))) then (some (((IntKind.i64.wrap ((IntKind.i64.wrap (List.getD q13.1 (Int.toNat 1) 0)) + (IntKind.i64.wrap (256 * (IntKind.i64.wrap (List.getD q13.1 (Int.toNat 2) 0)))))), (List.getD q13.2.2.2.2 (Int.toNat 0) 0), (List.getD q13.2.2.2.2 (Int.toNat 1) 0), (List.getD q13.2.2.2.2 (Int.toNat 2) 0), (List.getD q13.2.2.2.2 (Int.toNat 3) 0), (List.getD q13.2.2.2.2 (Int.toNat 4) 0), (List.getD q13.2.2.2.2 (Int.toNat 5) 0)), 0)) else none) else none))) else none))
theorem ok_20 (N : Nat) (x1 : List Int) : f_20 N x1 = exec (X_20 N) Go.Proofs.Tryd.f20.ntmps (lp_20 N) c_20 0 (fnK (X_20 N) Go.Proofs.Tryd.f20.results.toList 0 [.agg [.d (.int .i64), .d (.int .i64), .d (.int .i64), .d (.int .i64), .d (.int .i64), .d (.int .i64), .d (.int .i64)], .one (.d (.int .i64))]) (fnSt 1 0 [.one (.d (.sl [.int .u8]))] x1) := by kernel_rfl
noncomputable def S_20 (N : Nat) : Sum := fnSum 1 0 2 [.one (.d (.sl [.int .u8]))] [.agg [.d (.int .i64), .d (.int .i64), .d (.int .i64), .d (.int .i64), .d (.int .i64), .d (.int .i64), .d (.int .i64)], .one (.d (.int .i64))] (fun p => f_20 N p)
theorem s_20 (N : Nat) : SumOk Go.Proofs.Tryd.prog laidL 20 (S_20 N) :=
  fn_ok (lp := lp_20 N) (x_20 N) Go.Proofs.Tryd.func20 (c := c_20) (by kernel_rfl) (by kernel_rfl) rfl (fun p => ok_20 N p) (loopsAll (by kernel_rfl) ((lookOk_cons (L_ok_20_0 N) lookOk_nil)))
/-! ### fusee/fuseeref05.Text -/
noncomputable def X_65 (N : Nat) : Ctx := ⟨tyT, lookF [(66, (S_66 N))], eqT⟩
noncomputable def c_65 : Code := bodyOf Go.Proofs.Tryd.f65
theorem x_65 (N : Nat) : CtxOk Go.Proofs.Tryd.prog laidL (X_65 N) := ⟨tyOk, eqOk, fun _ _ => (fnsOk_cons (s_66 N) fnsOk_nil).get, by kernel_rfl⟩
noncomputable def lp_65 (_ : Nat) : Nat → Option LSum := lookL []
noncomputable def f_65 (N : Nat) (x1 : List Int) (x2 : ByteArray) : Option (TAs [.one (.slt [.int .u8] 5 1), .one (.d (.int .i64))]) :=
  (bif (decide ((ByteArray.size x2 : Int) > 255)) then (some (([] : List Int), 5)) else ((f_66 N x1 (IntKind.u64.wrap (ByteArray.size x2 : Int)) 1).bind fun r3 => (bif (decide (ByteArray.size x2 ≤ 140737488355328)) then (bif (decide ((List.length r3 + List.length (bytesL x2)) * 1 ≤ 140737488355328)) then (some ((r3 ++ (bytesL x2)), 0)) else none) else none)))
theorem ok_65 (N : Nat) (x1 : List Int) (x2 : ByteArray) : f_65 N x1 x2 = exec (X_65 N) Go.Proofs.Tryd.f65.ntmps (lp_65 N) c_65 0 (fnK (X_65 N) Go.Proofs.Tryd.f65.results.toList 0 [.one (.slt [.int .u8] 5 1), .one (.d (.int .i64))]) (fnSt 2 0 [.one (.d (.sl [.int .u8])), .one (.d (.str))] (x1, x2)) := by kernel_rfl
noncomputable def S_65 (N : Nat) : Sum := fnSum 2 0 2 [.one (.d (.sl [.int .u8])), .one (.d (.str))] [.one (.slt [.int .u8] 5 1), .one (.d (.int .i64))] (fun p => f_65 N p.1 p.2)
theorem s_65 (N : Nat) : SumOk Go.Proofs.Tryd.prog laidL 65 (S_65 N) :=
  fn_ok (lp := lp_65 N) (x_65 N) Go.Proofs.Tryd.func65 (c := c_65) (by kernel_rfl) (by kernel_rfl) rfl (fun p => ok_65 N p.1 p.2) (loopsAll (by kernel_rfl) (lookOk_nil))
/-! ### fusee/fields.New -/
noncomputable def X_67 (_ : Nat) : Ctx := ⟨tyT, lookF [(93, cl_93)], eqT⟩
noncomputable def c_67 : Code := bodyOf Go.Proofs.Tryd.f67
theorem x_67 (N : Nat) : CtxOk Go.Proofs.Tryd.prog laidL (X_67 N) := ⟨tyOk, eqOk, fun _ _ => (fnsOk_cons cl_93_ok fnsOk_nil).get, by kernel_rfl⟩
noncomputable def lp_67 (_ : Nat) : Nat → Option LSum := lookL []
noncomputable def f_67 (_ : Nat) (x1 : List Int) : Option (TAs [.one (.ptr 0 0), .agg [.slt [.int .u8] 5 1, .d (.bool)]]) :=
  ((cloneF [.int .u8] 1 x1).bind fun r2 => (some ((), (r2, false))))
theorem ok_67 (N : Nat) (x1 : List Int) : f_67 N x1 = exec (X_67 N) Go.Proofs.Tryd.f67.ntmps (lp_67 N) c_67 0 (fnK (X_67 N) Go.Proofs.Tryd.f67.results.toList 0 [.one (.ptr 0 0), .agg [.slt [.int .u8] 5 1, .d (.bool)]]) (fnSt 1 0 [.one (.d (.sl [.int .u8]))] x1) := by kernel_rfl
noncomputable def S_67 (N : Nat) : Sum := fnSum 1 0 1 [.one (.d (.sl [.int .u8]))] [.one (.ptr 0 0), .agg [.slt [.int .u8] 5 1, .d (.bool)]] (fun p => f_67 N p)
theorem s_67 (N : Nat) : SumOk Go.Proofs.Tryd.prog laidL 67 (S_67 N) :=
  fn_ok (lp := lp_67 N) (x_67 N) Go.Proofs.Tryd.func67 (c := c_67) (by kernel_rfl) (by kernel_rfl) rfl (fun p => ok_67 N p) (loopsAll (by kernel_rfl) (lookOk_nil))
/-! ### (*fusee/fields.Reader).Text -/
noncomputable def X_69 (N : Nat) : Ctx := ⟨tyT, lookF [(68, (S_68 N)), (95, (S_95 N))], eqT⟩
noncomputable def c_69 : Code := bodyOf Go.Proofs.Tryd.f69
theorem x_69 (N : Nat) : CtxOk Go.Proofs.Tryd.prog laidL (X_69 N) := ⟨tyOk, eqOk, fun _ _ => (fnsOk_cons (s_68 N) (fnsOk_cons (s_95 N) fnsOk_nil)).get, by kernel_rfl⟩
noncomputable def lp_69 (_ : Nat) : Nat → Option LSum := lookL []
noncomputable def f_69 (N : Nat) (x1 : List Int) (x2 : Bool) : Option (TAs [.one (.d (.str)), .agg [.d (.sl [.int .u8]), .d (.bool)]]) :=
  ((f_68 N x1 x2).bind fun r3 => ((f_95 N (IntKind.i64.wrap r3.1) r3.2.1 r3.2.2).bind fun r4 => (some ((bytesS r4.1), (r4.2.1, r4.2.2)))))
theorem ok_69 (N : Nat) (x1 : List Int) (x2 : Bool) : f_69 N x1 x2 = exec (X_69 N) Go.Proofs.Tryd.f69.ntmps (lp_69 N) c_69 0 (fnK (X_69 N) Go.Proofs.Tryd.f69.results.toList 1 [.one (.d (.str)), .agg [.d (.sl [.int .u8]), .d (.bool)]]) (fnSt 1 1 [.one (.ptr 0 0), .agg [.d (.sl [.int .u8]), .d (.bool)]] ((), (x1, x2))) := by kernel_rfl
noncomputable def S_69 (N : Nat) : Sum := fnSum 1 1 1 [.one (.ptr 0 0), .agg [.d (.sl [.int .u8]), .d (.bool)]] [.one (.d (.str)), .agg [.d (.sl [.int .u8]), .d (.bool)]] (fun p => f_69 N p.2.1 p.2.2)
theorem s_69 (N : Nat) : SumOk Go.Proofs.Tryd.prog laidL 69 (S_69 N) :=
  fn_ok (lp := lp_69 N) (x_69 N) Go.Proofs.Tryd.func69 (c := c_69) (by kernel_rfl) (by kernel_rfl) rfl (fun p => ok_69 N p.2.1 p.2.2) (loopsAll (by kernel_rfl) (lookOk_nil))
/-! ### fusee/fields.number -/
noncomputable def X_92 (_ : Nat) : Ctx := ⟨tyT, lookF [(93, cl_93)], eqT⟩
noncomputable def c_92 : Code := bodyOf Go.Proofs.Tryd.f92
theorem x_92 (N : Nat) : CtxOk Go.Proofs.Tryd.prog laidL (X_92 N) := ⟨tyOk, eqOk, fun _ _ => (fnsOk_cons cl_93_ok fnsOk_nil).get, by kernel_rfl⟩
noncomputable def nd_92_0 : Code := loopAt 0 0 c_92
noncomputable def cb_92_0 : Code := unloop nd_92_0
theorem ne_92_0 : nd_92_0 = .loop cb_92_0 := by kernel_rfl
noncomputable def sh_92_0 : List ShA := [.one (.d (.int .u64)), .one (.slt [.int .u8] 5 1), .one (.d (.int .i64)), .one (.d (.int .i64))]
noncomputable def o_92_0 : OutK 0 (TAs [.one (.slt [.int .u8] 5 1)]) := (outOne 0 (.exit 0) [7] [] [.one (.slt [.int .u8] 5 1)])
noncomputable def b_92_0 (_ : Nat) (ih : TAs sh_92_0 → Option (TAs [.one (.slt [.int .u8] 5 1)])) : TAs sh_92_0 → Option (TAs [.one (.slt [.int .u8] 5 1)]) := fun (y5, y6, y7, y8) =>
  (bif (decide (y8 < y7)) then (bif (decide ((IntKind.i64.wrap (8 * y8)) < 0)) then none else (bif (decide ((List.length y6 + List.length ([(IntKind.u8.wrap (y5 / 2 ^ (min (Int.toNat (IntKind.i64.wrap (8 * y8))) IntKind.u64.bits)))] : List Int)) * 1 ≤ 140737488355328)) then (ih (y5, (y6 ++ ([(IntKind.u8.wrap (y5 / 2 ^ (min (Int.toNat (IntKind.i64.wrap (8 * y8))) IntKind.u64.bits)))] : List Int)), y7, (IntKind.i64.wrap (y8 + 1)))) else none)) else (some (y6)))
noncomputable def l_92_0 (N : Nat) : TAs sh_92_0 → Option (TAs [.one (.slt [.int .u8] 5 1)]) := iter (b_92_0 N) N
noncomputable def lp_92_0 (_ : Nat) : Nat → Option LSum := lookL []
noncomputable def L_92_0 (N : Nat) : LSum := loopSum [1, 7, 11, 12] [] sh_92_0 o_92_0 (l_92_0 N)
theorem b_ok_92_0 (N : Nat) (ih : TAs sh_92_0 → Option (TAs [.one (.slt [.int .u8] 5 1)])) (p : TAs sh_92_0) : b_92_0 N ih p = exec (X_92 N) Go.Proofs.Tryd.f92.ntmps (lp_92_0 N) cb_92_0 0 (roundK [1, 7, 11, 12] [] sh_92_0 o_92_0 ih) (stOf [1, 7, 11, 12] [] sh_92_0 p) := by kernel_rfl
theorem L_ok_92_0 (N : Nat) : SegOk Go.Proofs.Tryd.prog laidL 0 Go.Proofs.Tryd.f92.ntmps nd_92_0 (L_92_0 N) :=
  ne_92_0 ▸ loop_ok (cur := 0) (lp := lp_92_0 N) (x_92 N) (fun n => iter (b_92_0 N) n) (fun _ => rfl) (fun n p => b_ok_92_0 N (iter (b_92_0 N) n) p) (loopsAll (by kernel_rfl) (lookOk_nil)) N
noncomputable def lp_92 (N : Nat) : Nat → Option LSum := lookL [(0, L_92_0 N)]
noncomputable def f_92 (N : Nat) (x1 : List Int) (x2 : Int) (x3 : Int) : Option (TAs [.one (.slt [.int .u8] 5 1)]) :=
  ((cloneF [.int .u8] 1 x1).bind fun r4 => ((l_92_0 N (x2, r4, x3, 0)).bind fun q9 => (some q9)))
theorem ok_92 (N : Nat) (x1 : List Int) (x2 : Int) (x3 : Int) : f_92 N x1 x2 x3 = exec (X_92 N) Go.Proofs.Tryd.f92.ntmps (lp_92 N) c_92 0 (fnK (X_92 N) Go.Proofs.Tryd.f92.results.toList 0 [.one (.slt [.int .u8] 5 1)]) (fnSt 3 0 [.one (.d (.sl [.int .u8])), .one (.d (.int .u64)), .one (.d (.int .i64))] (x1, x2, x3)) := by kernel_rfl
noncomputable def S_92 (N : Nat) : Sum := fnSum 3 0 1 [.one (.d (.sl [.int .u8])), .one (.d (.int .u64)), .one (.d (.int .i64))] [.one (.slt [.int .u8] 5 1)] (fun p => f_92 N p.1 p.2.1 p.2.2)
theorem s_92 (N : Nat) : SumOk Go.Proofs.Tryd.prog laidL 92 (S_92 N) :=
  fn_ok (lp := lp_92 N) (x_92 N) Go.Proofs.Tryd.func92 (c := c_92) (by kernel_rfl) (by kernel_rfl) rfl (fun p => ok_92 N p.1 p.2.1 p.2.2) (loopsAll (by kernel_rfl) ((lookOk_cons (L_ok_92_0 N) lookOk_nil)))
/-! ### fusee/fuseeref44.Encode -/
noncomputable def X_14 (N : Nat) : Ctx := ⟨tyT, lookF [(65, (S_65 N)), (66, (S_66 N))], eqT⟩
noncomputable def c_14 : Code := bodyOf Go.Proofs.Tryd.f14
theorem x_14 (N : Nat) : CtxOk Go.Proofs.Tryd.prog laidL (X_14 N) := ⟨tyOk, eqOk, fun _ _ => (fnsOk_cons (s_65 N) (fnsOk_cons (s_66 N) fnsOk_nil)).get, by kernel_rfl⟩
noncomputable def lp_14 (_ : Nat) : Nat → Option LSum := lookL []
noncomputable def f_14 (N : Nat) (x1 : Int) (x2 : ByteArray) (x3 : List Int) (x4 : Int) : Option (TAs [.one (.slt [.int .u8] 5 1), .one (.d (.int .i64))]) :=
  (bif (decide (x1 < 0)) then (some (([] : List Int), 1)) else (bif (decide (x1 > 255)) then (some (([] : List Int), 1)) else (bif (decide ((ByteArray.size x2 : Int) > 255)) then (some (([] : List Int), 1)) else (bif (decide ((List.length x3 : Int) > 1024)) then (some (([] : List Int), 1)) else ((f_65 N ([63, (IntKind.u8.wrap x1)] : List Int) x2).bind fun r5 => ((f_66 N r5.1 (IntKind.u64.wrap x4) 8).bind fun r6 => ((f_66 N r6 (IntKind.u64.wrap (List.length x3 : Int)) 2).bind fun r7 => (bif (decide ((List.length r7 + List.length x3) * 1 ≤ 140737488355328)) then (some ((r7 ++ x3), 0)) else none))))))))
theorem ok_14 (N : Nat) (x1 : Int) (x2 : ByteArray) (x3 : List Int) (x4 : Int) : f_14 N x1 x2 x3 x4 = exec (X_14 N) Go.Proofs.Tryd.f14.ntmps (lp_14 N) c_14 0 (fnK (X_14 N) Go.Proofs.Tryd.f14.results.toList 0 [.one (.slt [.int .u8] 5 1), .one (.d (.int .i64))]) (fnSt 1 0 [.agg [.d (.int .i64), .d (.str), .d (.sl [.int .u8]), .d (.int .i64)]] (x1, x2, x3, x4)) := by kernel_rfl
noncomputable def S_14 (N : Nat) : Sum := fnSum 1 0 2 [.agg [.d (.int .i64), .d (.str), .d (.sl [.int .u8]), .d (.int .i64)]] [.one (.slt [.int .u8] 5 1), .one (.d (.int .i64))] (fun p => f_14 N p.1 p.2.1 p.2.2.1 p.2.2.2)
theorem s_14 (N : Nat) : SumOk Go.Proofs.Tryd.prog laidL 14 (S_14 N) :=
  fn_ok (lp := lp_14 N) (x_14 N) Go.Proofs.Tryd.func14 (c := c_14) (by kernel_rfl) (by kernel_rfl) rfl (fun p => ok_14 N p.1 p.2.1 p.2.2.1 p.2.2.2) (loopsAll (by kernel_rfl) (lookOk_nil))
/-! ### fusee/calls.Decode -/
noncomputable def X_17 (N : Nat) : Ctx := ⟨tyT, lookF [(67, (S_67 N)), (68, (S_68 N)), (69, (S_69 N)), (70, (S_70 N)), (71, (S_71 N)), (72, (S_72 N)), (73, (S_73 N))], eqT⟩
noncomputable def c_17 : Code := bodyOf Go.Proofs.Tryd.f17
theorem x_17 (N : Nat) : CtxOk Go.Proofs.Tryd.prog laidL (X_17 N) := ⟨tyOk, eqOk, fun _ _ => (fnsOk_cons (s_67 N) (fnsOk_cons (s_68 N) (fnsOk_cons (s_69 N) (fnsOk_cons (s_70 N) (fnsOk_cons (s_71 N) (fnsOk_cons (s_72 N) (fnsOk_cons (s_73 N) fnsOk_nil))))))).get, by kernel_rfl⟩
noncomputable def nd_17_0 : Code := loopAt 0 0 c_17
noncomputable def cb_17_0 : Code := unloop nd_17_0
theorem ne_17_0 : nd_17_0 = .loop cb_17_0 := by kernel_rfl
noncomputable def sh_17_0 : List ShA := [.one (.ptr 160 0), .one (.ptr 272 0), .one (.ptr 224 0), .one (.d (.int .i64)), .one (.d (.int .i64)), .agg [.d (.int .i64), .d (.str), .slt [.int .u8] 5 1, .d (.int .i64)], .agg [.d (.int .i64), .d (.str), .slt [.int .u8] 5 1, .d (.int .i64)], .agg [.d (.sl [.int .u8]), .d (.bool)]]
noncomputable def o_17_0 : OutK 0 (TAs [.one (.ptr 160 0), .one (.ptr 272 0), .one (.ptr 224 0), .agg [.d (.int .i64), .d (.str), .slt [.int .u8] 5 1, .d (.int .i64)], .agg [.d (.int .i64), .d (.str), .slt [.int .u8] 5 1, .d (.int .i64)], .agg [.d (.sl [.int .u8]), .d (.bool)]]) := (outOne 0 (.exit 0) [2, 4, 6] [160, 224, 272] [.one (.ptr 160 0), .one (.ptr 272 0), .one (.ptr 224 0), .agg [.d (.int .i64), .d (.str), .slt [.int .u8] 5 1, .d (.int .i64)], .agg [.d (.int .i64), .d (.str), .slt [.int .u8] 5 1, .d (.int .i64)], .agg [.d (.sl [.int .u8]), .d (.bool)]])
noncomputable def b_17_0 (N : Nat) (ih : TAs sh_17_0 → Option (TAs [.one (.ptr 160 0), .one (.ptr 272 0), .one (.ptr 224 0), .agg [.d (.int .i64), .d (.str), .slt [.int .u8] 5 1, .d (.int .i64)], .agg [.d (.int .i64), .d (.str), .slt [.int .u8] 5 1, .d (.int .i64)], .agg [.d (.sl [.int .u8]), .d (.bool)]])) : TAs sh_17_0 → Option (TAs [.one (.ptr 160 0), .one (.ptr 272 0), .one (.ptr 224 0), .agg [.d (.int .i64), .d (.str), .slt [.int .u8] 5 1, .d (.int .i64)], .agg [.d (.int .i64), .d (.str), .slt [.int .u8] 5 1, .d (.int .i64)], .agg [.d (.sl [.int .u8]), .d (.bool)]]) := fun (_, _, _, y9, y10, (y11, y12, y13, y14), (y15, y16, y17, y18), (y19, y20)) =>
  (bif (decide (y10 < y9)) then ((f_68 N y19 y20).bind fun r21 => (bif (decide ((List.length y17 + List.length ([r21.1] : List Int)) * 1 ≤ 140737488355328)) then (ih ((), (), (), y9, (IntKind.i64.wrap (y10 + 1)), (y11, y12, y13, y14), (y15, y16, (y17 ++ ([r21.1] : List Int)), y18), (r21.2.1, r21.2.2))) else none)) else (some (((), (), (), (y11, y12, y13, y14), (y15, y16, y17, y18), (y19, y20)))))
noncomputable def l_17_0 (N : Nat) : TAs sh_17_0 → Option (TAs [.one (.ptr 160 0), .one (.ptr 272 0), .one (.ptr 224 0), .agg [.d (.int .i64), .d (.str), .slt [.int .u8] 5 1, .d (.int .i64)], .agg [.d (.int .i64), .d (.str), .slt [.int .u8] 5 1, .d (.int .i64)], .agg [.d (.sl [.int .u8]), .d (.bool)]]) := iter (b_17_0 N) N
noncomputable def lp_17_0 (_ : Nat) : Nat → Option LSum := lookL []
noncomputable def L_17_0 (N : Nat) : LSum := loopSum [2, 4, 6, 37, 38] [160, 224, 272] sh_17_0 o_17_0 (l_17_0 N)
theorem b_ok_17_0 (N : Nat) (ih : TAs sh_17_0 → Option (TAs [.one (.ptr 160 0), .one (.ptr 272 0), .one (.ptr 224 0), .agg [.d (.int .i64), .d (.str), .slt [.int .u8] 5 1, .d (.int .i64)], .agg [.d (.int .i64), .d (.str), .slt [.int .u8] 5 1, .d (.int .i64)], .agg [.d (.sl [.int .u8]), .d (.bool)]])) (p : TAs sh_17_0) : b_17_0 N ih p = exec (X_17 N) Go.Proofs.Tryd.f17.ntmps (lp_17_0 N) cb_17_0 0 (roundK [2, 4, 6, 37, 38] [160, 224, 272] sh_17_0 o_17_0 ih) (stOf [2, 4, 6, 37, 38] [160, 224, 272] sh_17_0 p) := by kernel_rfl
theorem L_ok_17_0 (N : Nat) : SegOk Go.Proofs.Tryd.prog laidL 0 Go.Proofs.Tryd.f17.ntmps nd_17_0 (L_17_0 N) :=
  ne_17_0 ▸ loop_ok (cur := 0) (lp := lp_17_0 N) (x_17 N) (fun n => iter (b_17_0 N) n) (fun _ => rfl) (fun n p => b_ok_17_0 N (iter (b_17_0 N) n) p) (loopsAll (by kernel_rfl) (lookOk_nil)) N
noncomputable def lp_17 (N : Nat) : Nat → Option LSum := lookL [(0, L_17_0 N)]
noncomputable def f_17 (N : Nat) (x1 : List Int) : Option (TAs [.agg [.d (.int .i64), .d (.str), .slt [.int .u8] 5 1, .d (.int .i64)], .one (.d (.err 122))]) :=
  ((f_67 N x1).bind fun r2 => ((f_68 N r2.2.1 r2.2.2).bind fun r3 => ((f_68 N r3.2.1 r3.2.2).bind fun r4 => ((f_69 N r4.2.1 r4.2.2).bind fun r5 => ((f_70 N r5.2.1 r5.2.2).bind fun r6 => ((f_71 N r6.2.1 r6.2.2).bind fun r7 => (bif (r3.1 != 63) then (some ((0, ByteArray.empty, ([] : List Int), 0), (some 3))) else ((f_72 N r7.2.1 r7.2.2).bind fun r8 => (bif (r8.1 != (IntKind.i64.wrap r7.1)) then (some ((0, ByteArray.empty, ([] : List Int), 0), (some 3))) else (bif (decide ((IntKind.i64.wrap r7.1) > 1024)) then (some ((0, ByteArray.empty, ([] : List Int), 0), (some 3))) else ((l_17_0 N ((), (), (), (IntKind.i64.wrap r7.1), 0, (0, ByteArray.empty, ([] : List Int), 0), ((IntKind.i64.wrap r4.1), r5.1, ([] : List Int), r6.1), (r8.2.1, r8.2.2))).bind fun q22 => ((f_73 N q22.2.2.2.2.2.1 q22.2.2.2.2.2.2).bind fun r23 => (bif (!(Option.isNone r23.1)) then (some ((0, ByteArray.empty, ([] : List Int), 0), (some 3))) else (some ((q22.2.2.2.2.1.1, q22.2.2.2.2.1.2.1, q22.2.2.2.2.1.2.2.1, q22.2.2.2.2.1.2.2.2), none)))))))))))))))
theorem ok_17 (N : Nat) (x1 : List Int) : f_17 N x1 = exec (X_17 N) Go.Proofs.Tryd.f17.ntmps (lp_17 N) c_17 0 (fnK (X_17 N) Go.Proofs.Tryd.f17.results.toList 0 [.agg [.d (.int .i64), .d (.str), .slt [.int .u8] 5 1, .d (.int .i64)], .one (.d (.err 122))]) (fnSt 1 0 [.one (.d (.sl [.int .u8]))] x1) := by kernel_rfl
noncomputable def S_17 (N : Nat) : Sum := fnSum 1 0 2 [.one (.d (.sl [.int .u8]))] [.agg [.d (.int .i64), .d (.str), .slt [.int .u8] 5 1, .d (.int .i64)], .one (.d (.err 122))] (fun p => f_17 N p)
theorem s_17 (N : Nat) : SumOk Go.Proofs.Tryd.prog laidL 17 (S_17 N) :=
  fn_ok (lp := lp_17 N) (x_17 N) Go.Proofs.Tryd.func17 (c := c_17) (by kernel_rfl) (by kernel_rfl) rfl (fun p => ok_17 N p) (loopsAll (by kernel_rfl) ((lookOk_cons (L_ok_17_0 N) lookOk_nil)))
/-! ### fusee/calls.Hear -/
noncomputable def X_19 (N : Nat) : Ctx := ⟨tyT, lookF [(67, (S_67 N)), (68, (S_68 N)), (71, (S_71 N)), (70, (S_70 N)), (73, (S_73 N))], eqT⟩
noncomputable def c_19 : Code := bodyOf Go.Proofs.Tryd.f19
theorem x_19 (N : Nat) : CtxOk Go.Proofs.Tryd.prog laidL (X_19 N) := ⟨tyOk, eqOk, fun _ _ => (fnsOk_cons (s_67 N) (fnsOk_cons (s_68 N) (fnsOk_cons (s_71 N) (fnsOk_cons (s_70 N) (fnsOk_cons (s_73 N) fnsOk_nil))))).get, by kernel_rfl⟩
noncomputable def lp_19 (_ : Nat) : Nat → Option LSum := lookL []
noncomputable def f_19 (N : Nat) (x1 : List Int) : Option (TAs [.agg [.d (.int .i64), .d (.int .i64), .d (.int .i64), .d (.int .i64), .d (.int .i64), .d (.int .i64), .d (.int .i64)], .one (.d (.err 122))]) :=
  ((f_67 N x1).bind fun r2 => ((f_68 N r2.2.1 r2.2.2).bind fun r3 => ((f_71 N r3.2.1 r3.2.2).bind fun r4 => ((f_70 N r4.2.1 r4.2.2).bind fun r5 => ((f_70 N r5.2.1 r5.2.2).bind fun r6 => ((f_70 N r6.2.1 r6.2.2).bind fun r7 => ((f_70 N r7.2.1 r7.2.2).bind fun r8 => ((f_70 N r8.2.1 r8.2.2).bind fun r9 => ((f_70 N r9.2.1 r9.2.2).bind fun r10 => (bif (r3.1 != 33) then (some ((0, 0, 0, 0, 0, 0, 0), (some 3))) else ((f_73 N r10.2.1 r10.2.2).bind fun r11 => (bif (!(Option.isNone r11.1)) then (some ((0, 0, 0, 0, 0, 0, 0), (some 3))) else (some (((IntKind.i64.wrap r4.1), r5.1, r6.1, r7.1, r8.1, r9.1, r10.1), none))))))))))))))
theorem ok_19 (N : Nat) (x1 : List Int) : f_19 N x1 = exec (X_19 N) Go.Proofs.Tryd.f19.ntmps (lp_19 N) c_19 0 (fnK (X_19 N) Go.Proofs.Tryd.f19.results.toList 0 [.agg [.d (.int .i64), .d (.int .i64), .d (.int .i64), .d (.int .i64), .d (.int .i64), .d (.int .i64), .d (.int .i64)], .one (.d (.err 122))]) (fnSt 1 0 [.one (.d (.sl [.int .u8]))] x1) := by kernel_rfl
noncomputable def S_19 (N : Nat) : Sum := fnSum 1 0 2 [.one (.d (.sl [.int .u8]))] [.agg [.d (.int .i64), .d (.int .i64), .d (.int .i64), .d (.int .i64), .d (.int .i64), .d (.int .i64), .d (.int .i64)], .one (.d (.err 122))] (fun p => f_19 N p)
theorem s_19 (N : Nat) : SumOk Go.Proofs.Tryd.prog laidL 19 (S_19 N) :=
  fn_ok (lp := lp_19 N) (x_19 N) Go.Proofs.Tryd.func19 (c := c_19) (by kernel_rfl) (by kernel_rfl) rfl (fun p => ok_19 N p) (loopsAll (by kernel_rfl) (lookOk_nil))
/-! ### fusee/fields.Text -/
noncomputable def X_62 (N : Nat) : Ctx := ⟨tyT, lookF [(92, (S_92 N))], eqT⟩
noncomputable def c_62 : Code := bodyOf Go.Proofs.Tryd.f62
theorem x_62 (N : Nat) : CtxOk Go.Proofs.Tryd.prog laidL (X_62 N) := ⟨tyOk, eqOk, fun _ _ => (fnsOk_cons (s_92 N) fnsOk_nil).get, by kernel_rfl⟩
noncomputable def lp_62 (_ : Nat) : Nat → Option LSum := lookL []
noncomputable def f_62 (N : Nat) (x1 : List Int) (x2 : ByteArray) : Option (TAs [.one (.slt [.int .u8] 5 1), .one (.d (.err 122))]) :=
  (bif (decide ((ByteArray.size x2 : Int) > 255)) then (some (([] : List Int), (some 5))) else ((f_92 N x1 (IntKind.u64.wrap (ByteArray.size x2 : Int)) 1).bind fun r3 => (bif (decide ((List.length r3 + List.length (bytesL x2)) * 1 ≤ 140737488355328)) then (some ((r3 ++ (bytesL x2)), none)) else none)))
theorem ok_62 (N : Nat) (x1 : List Int) (x2 : ByteArray) : f_62 N x1 x2 = exec (X_62 N) Go.Proofs.Tryd.f62.ntmps (lp_62 N) c_62 0 (fnK (X_62 N) Go.Proofs.Tryd.f62.results.toList 0 [.one (.slt [.int .u8] 5 1), .one (.d (.err 122))]) (fnSt 2 0 [.one (.d (.sl [.int .u8])), .one (.d (.str))] (x1, x2)) := by kernel_rfl
noncomputable def S_62 (N : Nat) : Sum := fnSum 2 0 2 [.one (.d (.sl [.int .u8])), .one (.d (.str))] [.one (.slt [.int .u8] 5 1), .one (.d (.err 122))] (fun p => f_62 N p.1 p.2)
theorem s_62 (N : Nat) : SumOk Go.Proofs.Tryd.prog laidL 62 (S_62 N) :=
  fn_ok (lp := lp_62 N) (x_62 N) Go.Proofs.Tryd.func62 (c := c_62) (by kernel_rfl) (by kernel_rfl) rfl (fun p => ok_62 N p.1 p.2) (loopsAll (by kernel_rfl) (lookOk_nil))
/-! ### fusee/fields.U16 -/
noncomputable def X_63 (N : Nat) : Ctx := ⟨tyT, lookF [(92, (S_92 N))], eqT⟩
noncomputable def c_63 : Code := bodyOf Go.Proofs.Tryd.f63
theorem x_63 (N : Nat) : CtxOk Go.Proofs.Tryd.prog laidL (X_63 N) := ⟨tyOk, eqOk, fun _ _ => (fnsOk_cons (s_92 N) fnsOk_nil).get, by kernel_rfl⟩
noncomputable def lp_63 (_ : Nat) : Nat → Option LSum := lookL []
noncomputable def f_63 (N : Nat) (x1 : List Int) (x2 : Int) : Option (TAs [.one (.slt [.int .u8] 5 1)]) :=
  ((f_92 N x1 (IntKind.u64.wrap x2) 2).bind fun r3 => (some r3))
theorem ok_63 (N : Nat) (x1 : List Int) (x2 : Int) : f_63 N x1 x2 = exec (X_63 N) Go.Proofs.Tryd.f63.ntmps (lp_63 N) c_63 0 (fnK (X_63 N) Go.Proofs.Tryd.f63.results.toList 0 [.one (.slt [.int .u8] 5 1)]) (fnSt 2 0 [.one (.d (.sl [.int .u8])), .one (.d (.int .u16))] (x1, x2)) := by kernel_rfl
noncomputable def S_63 (N : Nat) : Sum := fnSum 2 0 1 [.one (.d (.sl [.int .u8])), .one (.d (.int .u16))] [.one (.slt [.int .u8] 5 1)] (fun p => f_63 N p.1 p.2)
theorem s_63 (N : Nat) : SumOk Go.Proofs.Tryd.prog laidL 63 (S_63 N) :=
  fn_ok (lp := lp_63 N) (x_63 N) Go.Proofs.Tryd.func63 (c := c_63) (by kernel_rfl) (by kernel_rfl) rfl (fun p => ok_63 N p.1 p.2) (loopsAll (by kernel_rfl) (lookOk_nil))
/-! ### fusee/fields.I64 -/
noncomputable def X_64 (N : Nat) : Ctx := ⟨tyT, lookF [(92, (S_92 N))], eqT⟩
noncomputable def c_64 : Code := bodyOf Go.Proofs.Tryd.f64
theorem x_64 (N : Nat) : CtxOk Go.Proofs.Tryd.prog laidL (X_64 N) := ⟨tyOk, eqOk, fun _ _ => (fnsOk_cons (s_92 N) fnsOk_nil).get, by kernel_rfl⟩
noncomputable def lp_64 (_ : Nat) : Nat → Option LSum := lookL []
noncomputable def f_64 (N : Nat) (x1 : List Int) (x2 : Int) : Option (TAs [.one (.slt [.int .u8] 5 1)]) :=
  ((f_92 N x1 (IntKind.u64.wrap x2) 8).bind fun r3 => (some r3))
theorem ok_64 (N : Nat) (x1 : List Int) (x2 : Int) : f_64 N x1 x2 = exec (X_64 N) Go.Proofs.Tryd.f64.ntmps (lp_64 N) c_64 0 (fnK (X_64 N) Go.Proofs.Tryd.f64.results.toList 0 [.one (.slt [.int .u8] 5 1)]) (fnSt 2 0 [.one (.d (.sl [.int .u8])), .one (.d (.int .i64))] (x1, x2)) := by kernel_rfl
noncomputable def S_64 (N : Nat) : Sum := fnSum 2 0 1 [.one (.d (.sl [.int .u8])), .one (.d (.int .i64))] [.one (.slt [.int .u8] 5 1)] (fun p => f_64 N p.1 p.2)
theorem s_64 (N : Nat) : SumOk Go.Proofs.Tryd.prog laidL 64 (S_64 N) :=
  fn_ok (lp := lp_64 N) (x_64 N) Go.Proofs.Tryd.func64 (c := c_64) (by kernel_rfl) (by kernel_rfl) rfl (fun p => ok_64 N p.1 p.2) (loopsAll (by kernel_rfl) (lookOk_nil))
/-! ### fusee/calls.Encode -/
noncomputable def X_13 (N : Nat) : Ctx := ⟨tyT, lookF [(62, (S_62 N)), (64, (S_64 N)), (63, (S_63 N))], eqT⟩
noncomputable def c_13 : Code := bodyOf Go.Proofs.Tryd.f13
theorem x_13 (N : Nat) : CtxOk Go.Proofs.Tryd.prog laidL (X_13 N) := ⟨tyOk, eqOk, fun _ _ => (fnsOk_cons (s_62 N) (fnsOk_cons (s_64 N) (fnsOk_cons (s_63 N) fnsOk_nil))).get, by kernel_rfl⟩
noncomputable def lp_13 (_ : Nat) : Nat → Option LSum := lookL []
noncomputable def f_13 (N : Nat) (x1 : Int) (x2 : ByteArray) (x3 : List Int) (x4 : Int) : Option (TAs [.one (.slt [.int .u8] 5 1), .one (.d (.err 122))]) :=
  (bif (decide (x1 < 0)) then (some (([] : List Int), (some 1))) else (bif (decide (x1 > 255)) then (some (([] : List Int), (some 1))) else (bif (decide ((List.length x3 : Int) > 1024)) then (some (([] : List Int), (some 1))) else ((f_62 N ([63, (IntKind.u8.wrap x1)] : List Int) x2).bind fun r5 => (bif (!(Option.isNone r5.2)) then (some (([] : List Int), (some 1))) else ((f_64 N r5.1 x4).bind fun r6 => ((f_63 N r6 (IntKind.u16.wrap (List.length x3 : Int))).bind fun r7 => (bif (decide ((List.length r7 + List.length x3) * 1 ≤ 140737488355328)) then (some ((r7 ++ x3), none)) else none))))))))
theorem ok_13 (N : Nat) (x1 : Int) (x2 : ByteArray) (x3 : List Int) (x4 : Int) : f_13 N x1 x2 x3 x4 = exec (X_13 N) Go.Proofs.Tryd.f13.ntmps (lp_13 N) c_13 0 (fnK (X_13 N) Go.Proofs.Tryd.f13.results.toList 0 [.one (.slt [.int .u8] 5 1), .one (.d (.err 122))]) (fnSt 1 0 [.agg [.d (.int .i64), .d (.str), .d (.sl [.int .u8]), .d (.int .i64)]] (x1, x2, x3, x4)) := by kernel_rfl
noncomputable def S_13 (N : Nat) : Sum := fnSum 1 0 2 [.agg [.d (.int .i64), .d (.str), .d (.sl [.int .u8]), .d (.int .i64)]] [.one (.slt [.int .u8] 5 1), .one (.d (.err 122))] (fun p => f_13 N p.1 p.2.1 p.2.2.1 p.2.2.2)
theorem s_13 (N : Nat) : SumOk Go.Proofs.Tryd.prog laidL 13 (S_13 N) :=
  fn_ok (lp := lp_13 N) (x_13 N) Go.Proofs.Tryd.func13 (c := c_13) (by kernel_rfl) (by kernel_rfl) rfl (fun p => ok_13 N p.1 p.2.1 p.2.2.1 p.2.2.2) (loopsAll (by kernel_rfl) (lookOk_nil))
/-! ### fusee/calls.Tell -/
noncomputable def X_15 (N : Nat) : Ctx := ⟨tyT, lookF [(63, (S_63 N)), (64, (S_64 N))], eqT⟩
noncomputable def c_15 : Code := bodyOf Go.Proofs.Tryd.f15
theorem x_15 (N : Nat) : CtxOk Go.Proofs.Tryd.prog laidL (X_15 N) := ⟨tyOk, eqOk, fun _ _ => (fnsOk_cons (s_63 N) (fnsOk_cons (s_64 N) fnsOk_nil)).get, by kernel_rfl⟩
noncomputable def nd_15_0 : Code := loopAt 0 0 c_15
noncomputable def cb_15_0 : Code := unloop nd_15_0
theorem ne_15_0 : nd_15_0 = .loop cb_15_0 := by kernel_rfl
noncomputable def sh_15_0 : List ShA := [.one (.slt [.int .u8] 5 1), .agg [.d (.arr .i64 6)], .one (.d (.int .i64))]
noncomputable def o_15_0 : OutK 0 (TAs [.one (.slt [.int .u8] 5 1)]) := (outOne 0 (.exit 0) [4] [] [.one (.slt [.int .u8] 5 1)])
noncomputable def b_15_0 (N : Nat) (ih : TAs sh_15_0 → Option (TAs [.one (.slt [.int .u8] 5 1)])) : TAs sh_15_0 → Option (TAs [.one (.slt [.int .u8] 5 1)]) := fun (y9, y10, y11) =>
  (bif (decide (y11 < 6)) then (bif (decide (0 ≤ y11 ∧ y11 < 6 ∧ 6 = 6)) then ((f_64 N y9 (List.getD y10 (Int.toNat y11) 0)).bind fun r12 => (ih (r12, y10, (IntKind.i64.wrap (y11 + 1))))) else none) else (some (y9)))
noncomputable def l_15_0 (N : Nat) : TAs sh_15_0 → Option (TAs [.one (.slt [.int .u8] 5 1)]) := iter (b_15_0 N) N
noncomputable def lp_15_0 (_ : Nat) : Nat → Option LSum := lookL []
noncomputable def L_15_0 (N : Nat) : LSum := loopSum [4, 39, 40] [] sh_15_0 o_15_0 (l_15_0 N)
theorem b_ok_15_0 (N : Nat) (ih : TAs sh_15_0 → Option (TAs [.one (.slt [.int .u8] 5 1)])) (p : TAs sh_15_0) : b_15_0 N ih p = exec (X_15 N) Go.Proofs.Tryd.f15.ntmps (lp_15_0 N) cb_15_0 0 (roundK [4, 39, 40] [] sh_15_0 o_15_0 ih) (stOf [4, 39, 40] [] sh_15_0 p) := by kernel_rfl
theorem L_ok_15_0 (N : Nat) : SegOk Go.Proofs.Tryd.prog laidL 0 Go.Proofs.Tryd.f15.ntmps nd_15_0 (L_15_0 N) :=
  ne_15_0 ▸ loop_ok (cur := 0) (lp := lp_15_0 N) (x_15 N) (fun n => iter (b_15_0 N) n) (fun _ => rfl) (fun n p => b_ok_15_0 N (iter (b_15_0 N) n) p) (loopsAll (by kernel_rfl) (lookOk_nil)) N
noncomputable def lp_15 (N : Nat) : Nat → Option LSum := lookL [(0, L_15_0 N)]
noncomputable def f_15 (N : Nat) (x1 : Int) (x2 : Int) (x3 : Int) (x4 : Int) (x5 : Int) (x6 : Int) (x7 : Int) : Option (TAs [.one (.slt [.int .u8] 5 1), .one (.d (.err 122))]) :=
  (bif (decide (x1 < 0)) then (some (([] : List Int), (some 1))) else (bif (decide (x1 ≥ 65536)) then (some (([] : List Int), (some 1))) else ((f_63 N ([33] : List Int) (IntKind.u16.wrap x1)).bind fun r8 => ((l_15_0 N (r8, [x2, x3, x4, x5, x6, x7], 0)).bind fun q13 => (some (q13, none))))))
theorem ok_15 (N : Nat) (x1 : Int) (x2 : Int) (x3 : Int) (x4 : Int) (x5 : Int) (x6 : Int) (x7 : Int) : f_15 N x1 x2 x3 x4 x5 x6 x7 = exec (X_15 N) Go.Proofs.Tryd.f15.ntmps (lp_15 N) c_15 0 (fnK (X_15 N) Go.Proofs.Tryd.f15.results.toList 0 [.one (.slt [.int .u8] 5 1), .one (.d (.err 122))]) (fnSt 1 0 [.agg [.d (.int .i64), .d (.int .i64), .d (.int .i64), .d (.int .i64), .d (.int .i64), .d (.int .i64), .d (.int .i64)]] (x1, x2, x3, x4, x5, x6, x7)) := by kernel_rfl
noncomputable def S_15 (N : Nat) : Sum := fnSum 1 0 2 [.agg [.d (.int .i64), .d (.int .i64), .d (.int .i64), .d (.int .i64), .d (.int .i64), .d (.int .i64), .d (.int .i64)]] [.one (.slt [.int .u8] 5 1), .one (.d (.err 122))] (fun p => f_15 N p.1 p.2.1 p.2.2.1 p.2.2.2.1 p.2.2.2.2.1 p.2.2.2.2.2.1 p.2.2.2.2.2.2)
theorem s_15 (N : Nat) : SumOk Go.Proofs.Tryd.prog laidL 15 (S_15 N) :=
  fn_ok (lp := lp_15 N) (x_15 N) Go.Proofs.Tryd.func15 (c := c_15) (by kernel_rfl) (by kernel_rfl) rfl (fun p => ok_15 N p.1 p.2.1 p.2.2.1 p.2.2.2.1 p.2.2.2.2.1 p.2.2.2.2.2.1 p.2.2.2.2.2.2) (loopsAll (by kernel_rfl) ((lookOk_cons (L_ok_15_0 N) lookOk_nil)))
/-! ### fusee/fuseelaw44.sure -/
noncomputable def X_12 (N : Nat) : Ctx := ⟨tyT, lookF [(13, (S_13 N)), (17, (S_17 N)), (15, (S_15 N)), (19, (S_19 N)), (21, (S_21 N)), (24, (S_24 N))], eqT⟩
noncomputable def c_12 : Code := bodyOf Go.Proofs.Tryd.f12
theorem x_12 (N : Nat) : CtxOk Go.Proofs.Tryd.prog laidL (X_12 N) := ⟨tyOk, eqOk, fun _ _ => (fnsOk_cons (s_13 N) (fnsOk_cons (s_17 N) (fnsOk_cons (s_15 N) (fnsOk_cons (s_19 N) (fnsOk_cons (s_21 N) (fnsOk_cons (s_24 N) fnsOk_nil)))))).get, by kernel_rfl⟩
noncomputable def lp_12 (_ : Nat) : Nat → Option LSum := lookL []
noncomputable def f_12 (N : Nat) : Option (TAs [.one (.d (.bool))]) :=
  ((f_13 N 0 (⟨#[97]⟩) ([] : List Int) 0).bind fun r1 => ((f_17 N r1.1).bind fun r2 => ((f_15 N 258 1 0 0 0 0 0).bind fun r3 => ((f_19 N r3.1).bind fun r4 => ((f_17 N ([63] : List Int)).bind fun r5 => (bif (Option.isNone r1.2) then (bif (Option.isNone r2.2) then (bif (Option.isNone r3.2) then (bif (Option.isNone r4.2) then (bif ((ByteArray.toList (bytesS r1.1)) == (ByteArray.toList (⟨#[63, 0, 1, 97, 0, 0, 0, 0, 0, 0, 0, 0, 0, 0]⟩ : ByteArray))) then (bif ((ByteArray.toList r2.1.2.1) == (ByteArray.toList (⟨#[97]⟩ : ByteArray))) then (bif ((List.length r3.1 : Int) == 51) then (bif (r4.1.1 == 258) then (bif (r4.1.2.1 == 1) then ((f_21 N r5.2).bind fun r6 => (bif (r6 == 3) then ((f_24 N 1 ByteArray.empty ([120] : List Int) 0).bind fun r7 => (some (r7 == 3))) else (some false))) else (some false)) else (some false)) else (some false)) else (some false)) else (some false)) else (some false)) else (some false)) else (some false)) else (some false)))))))
theorem ok_12 (N : Nat) : f_12 N = exec (X_12 N) Go.Proofs.Tryd.f12.ntmps (lp_12 N) c_12 0 (fnK (X_12 N) Go.Proofs.Tryd.f12.results.toList 0 [.one (.d (.bool))]) (fnSt 0 0 [] ()) := by kernel_rfl
noncomputable def S_12 (N : Nat) : Sum := fnSum 0 0 1 [] [.one (.d (.bool))] (fun _ => f_12 N)
theorem s_12 (N : Nat) : SumOk Go.Proofs.Tryd.prog laidL 12 (S_12 N) :=
  fn_ok (lp := lp_12 N) (x_12 N) Go.Proofs.Tryd.func12 (c := c_12) (by kernel_rfl) (by kernel_rfl) rfl (fun _ => ok_12 N) (loopsAll (by kernel_rfl) (lookOk_nil))
/-! ### fusee/fuseelaw44.CallsForms -/
noncomputable def X_3 (N : Nat) : Ctx := ⟨tyT, lookF [(12, (S_12 N)), (13, (S_13 N)), (14, (S_14 N)), (15, (S_15 N)), (16, (S_16 N)), (17, (S_17 N)), (18, (S_18 N)), (19, (S_19 N)), (20, (S_20 N)), (21, (S_21 N)), (22, (S_22 N)), (23, (S_23 N)), (24, (S_24 N)), (25, (S_25 N))], eqT⟩
noncomputable def c_3 : Code := bodyOf Go.Proofs.Tryd.f3
theorem x_3 (N : Nat) : CtxOk Go.Proofs.Tryd.prog laidL (X_3 N) := ⟨tyOk, eqOk, fun _ _ => (fnsOk_cons (s_12 N) (fnsOk_cons (s_13 N) (fnsOk_cons (s_14 N) (fnsOk_cons (s_15 N) (fnsOk_cons (s_16 N) (fnsOk_cons (s_17 N) (fnsOk_cons (s_18 N) (fnsOk_cons (s_19 N) (fnsOk_cons (s_20 N) (fnsOk_cons (s_21 N) (fnsOk_cons (s_22 N) (fnsOk_cons (s_23 N) (fnsOk_cons (s_24 N) (fnsOk_cons (s_25 N) fnsOk_nil)))))))))))))).get, by kernel_rfl⟩
noncomputable def lp_3 (_ : Nat) : Nat → Option LSum := lookL []
noncomputable def f_3 (N : Nat) (x1 : Int) (x2 : ByteArray) (x3 : List Int) (x4 : Int) (x5 : Int) (x6 : Int) (x7 : Int) (x8 : Int) (x9 : Int) (x10 : Int) (x11 : Int) (x12 : List Int) : Option (TAs [.one (.d (.bool))]) :=
  (bif (decide ((ByteArray.size x2 : Int) > 400)) then ((f_12 N).bind fun r13 => (some r13)) else (bif (decide ((List.length x3 : Int) > 2000)) then ((f_12 N).bind fun r14 => (some r14)) else (bif (decide ((List.length x12 : Int) > 1500)) then ((f_12 N).bind fun r15 => (some r15)) else ((f_13 N x1 x2 x3 x4).bind fun r16 => ((f_14 N x1 x2 x3 x4).bind fun r17 => ((f_15 N x5 x6 x7 x8 x9 x10 x11).bind fun r18 => ((f_16 N x5 x6 x7 x8 x9 x10 x11).bind fun r19 => ((f_17 N x12).bind fun r20 => ((f_18 N x12).bind fun r21 => ((f_19 N x12).bind fun r22 => ((f_20 N x12).bind fun r23 => (bif ((ByteArray.toList (bytesS r16.1)) == (ByteArray.toList (bytesS r17.1))) then ((f_21 N r16.2).bind fun r24 => (bif (r24 == r17.2) then (bif ((ByteArray.toList (bytesS r18.1)) == (ByteArray.toList (bytesS r19.1))) then ((f_21 N r18.2).bind fun r25 => (bif (r25 == r19.2) then ((f_22 N r20.1.1 r20.1.2.1 r20.1.2.2.1 r20.1.2.2.2 r21.1.1 r21.1.2.1 r21.1.2.2.1 r21.1.2.2.2).bind fun r26 => (bif r26 then ((f_21 N r20.2).bind fun r27 => (bif (r27 == r21.2) then ((f_23 N r22.1.1 r22.1.2.1 r22.1.2.2.1 r22.1.2.2.2.1 r22.1.2.2.2.2.1 r22.1.2.2.2.2.2.1 r22.1.2.2.2.2.2.2 r23.1.1 r23.1.2.1 r23.1.2.2.1 r23.1.2.2.2.1 r23.1.2.2.2.2.1 r23.1.2.2.2.2.2.1 r23.1.2.2.2.2.2.2).bind fun r28 => (bif r28 then ((f_21 N r22.2).bind fun r29 => (bif (r29 == r23.2) then ((f_24 N x1 x2 x3 x4).bind fun r30 => ((f_25 N x1 x2 x3 x4).bind fun r31 => (bif (r30 == r31) then ((f_12 N).bind fun r32 => (some r32)) else (some false)))) else (some false))) else (some false))) else (some false))) else (some false))) else (some false))) else (some false)) else (some false))) else (some false)))))))))))))
theorem ok_3 (N : Nat) (x1 : Int) (x2 : ByteArray) (x3 : List Int) (x4 : Int) (x5 : Int) (x6 : Int) (x7 : Int) (x8 : Int) (x9 : Int) (x10 : Int) (x11 : Int) (x12 : List Int) : f_3 N x1 x2 x3 x4 x5 x6 x7 x8 x9 x10 x11 x12 = exec (X_3 N) Go.Proofs.Tryd.f3.ntmps (lp_3 N) c_3 0 (fnK (X_3 N) Go.Proofs.Tryd.f3.results.toList 0 [.one (.d (.bool))]) (fnSt 3 0 [.agg [.d (.int .i64), .d (.str), .d (.sl [.int .u8]), .d (.int .i64)], .agg [.d (.int .i64), .d (.int .i64), .d (.int .i64), .d (.int .i64), .d (.int .i64), .d (.int .i64), .d (.int .i64)], .one (.d (.sl [.int .u8]))] ((x1, x2, x3, x4), (x5, x6, x7, x8, x9, x10, x11), x12)) := by kernel_rfl
noncomputable def S_3 (N : Nat) : Sum := fnSum 3 0 1 [.agg [.d (.int .i64), .d (.str), .d (.sl [.int .u8]), .d (.int .i64)], .agg [.d (.int .i64), .d (.int .i64), .d (.int .i64), .d (.int .i64), .d (.int .i64), .d (.int .i64), .d (.int .i64)], .one (.d (.sl [.int .u8]))] [.one (.d (.bool))] (fun p => f_3 N p.1.1 p.1.2.1 p.1.2.2.1 p.1.2.2.2 p.2.1.1 p.2.1.2.1 p.2.1.2.2.1 p.2.1.2.2.2.1 p.2.1.2.2.2.2.1 p.2.1.2.2.2.2.2.1 p.2.1.2.2.2.2.2.2 p.2.2)
theorem s_3 (N : Nat) : SumOk Go.Proofs.Tryd.prog laidL 3 (S_3 N) :=
  fn_ok (lp := lp_3 N) (x_3 N) Go.Proofs.Tryd.func3 (c := c_3) (by kernel_rfl) (by kernel_rfl) rfl (fun p => ok_3 N p.1.1 p.1.2.1 p.1.2.2.1 p.1.2.2.2 p.2.1.1 p.2.1.2.1 p.2.1.2.2.1 p.2.1.2.2.2.1 p.2.1.2.2.2.2.1 p.2.1.2.2.2.2.2.1 p.2.1.2.2.2.2.2.2 p.2.2) (loopsAll (by kernel_rfl) (lookOk_nil))
/-! ### fusee/fuseelaw44.CallsBack -/
noncomputable def X_4 (N : Nat) : Ctx := ⟨tyT, lookF [(12, (S_12 N)), (13, (S_13 N)), (15, (S_15 N)), (17, (S_17 N)), (22, (S_22 N)), (21, (S_21 N)), (19, (S_19 N))], eqT⟩
noncomputable def c_4 : Code := bodyOf Go.Proofs.Tryd.f4
theorem x_4 (N : Nat) : CtxOk Go.Proofs.Tryd.prog laidL (X_4 N) := ⟨tyOk, eqOk, fun _ _ => (fnsOk_cons (s_12 N) (fnsOk_cons (s_13 N) (fnsOk_cons (s_15 N) (fnsOk_cons (s_17 N) (fnsOk_cons (s_22 N) (fnsOk_cons (s_21 N) (fnsOk_cons (s_19 N) fnsOk_nil))))))).get, by kernel_rfl⟩
noncomputable def lp_4 (_ : Nat) : Nat → Option LSum := lookL []
noncomputable def f_4 (N : Nat) (x1 : Int) (x2 : ByteArray) (x3 : List Int) (x4 : Int) (x5 : Int) (x6 : Int) (x7 : Int) (x8 : Int) (x9 : Int) (x10 : Int) (x11 : Int) (x12 : Int) : Option (TAs [.one (.d (.bool))]) :=
  (bif (decide ((ByteArray.size x2 : Int) > 400)) then ((f_12 N).bind fun r13 => (some r13)) else (bif (decide ((List.length x3 : Int) > 2000)) then ((f_12 N).bind fun r14 => (some r14)) else ((f_13 N x1 x2 x3 x4).bind fun r15 => ((f_15 N x5 x6 x7 x8 x9 x10 x11).bind fun r16 => (bif (Option.isNone r15.2) then ((f_17 N r15.1).bind fun r17 => (bif (decide ((if (List.length r15.1 : Int) > 1 then (List.length r15.1 : Int) else 1) = 0)) then none else (bif (decide (0 ≤ (Int.tmod (IntKind.i64.wrap x12) (if (List.length r15.1 : Int) > 1 then (List.length r15.1 : Int) else 1)) ∧ (Int.tmod (IntKind.i64.wrap x12) (if (List.length r15.1 : Int) > 1 then (List.length r15.1 : Int) else 1)) ≤ (List.length r15.1 : Int))) then (bif (decide (0 ≤ (0 : Int) ∧ (0 : Int) ≤ (Int.tmod (IntKind.i64.wrap x12) (if (List.length r15.1 : Int) > 1 then (List.length r15.1 : Int) else 1)))) then ((f_17 N (List.drop (Int.toNat (0 : Int)) (List.take (Int.toNat (Int.tmod (IntKind.i64.wrap x12) (if (List.length r15.1 : Int) > 1 then (List.length r15.1 : Int) else 1))) r15.1))).bind fun r18 => (bif (decide ((List.length ([] : List Int) + List.length r15.1) * 1 ≤ 140737488355328)) then (bif (decide ((List.length (([] : List Int) ++ r15.1) + List.length ([0] : List Int)) * 1 ≤ 140737488355328)) then ((f_17 N ((([] : List Int) ++ r15.1) ++ ([0] : List Int))).bind fun r19 => (bif (!(Option.isNone r17.2)) then (some false) else ((f_22 N r17.1.1 r17.1.2.1 r17.1.2.2.1 r17.1.2.2.2 x1 x2 x3 x4).bind fun r20 => (bif (!r20) then (some false) else ((f_21 N r18.2).bind fun r21 => (bif (r21 != 3) then (some false) else ((f_21 N r19.2).bind fun r22 => (bif (r22 != 3) then (some false) else (bif (Option.isNone r16.2) then ((f_19 N r16.1).bind fun r23 => (bif (decide ((if (List.length r16.1 : Int) > 1 then (List.length r16.1 : Int) else 1) = 0)) then none else (bif (decide (0 ≤ (Int.tmod (IntKind.i64.wrap x12) (if (List.length r16.1 : Int) > 1 then (List.length r16.1 : Int) else 1)) ∧ (Int.tmod (IntKind.i64.wrap x12) (if (List.length r16.1 : Int) > 1 then (List.length r16.1 : Int) else 1)) ≤ (List.length r16.1 : Int))) then (bif (decide (0 ≤ (0 : Int) ∧ (0 : Int) ≤ (Int.tmod (IntKind.i64.wrap x12) (if (List.length r16.1 : Int) > 1 then (List.length r16.1 : Int) else 1)))) then ((f_19 N (List.drop (Int.toNat (0 : Int)) (List.take (Int.toNat (Int.tmod (IntKind.i64.wrap x12) (if (List.length r16.1 : Int) > 1 then (List.length r16.1 : Int) else 1))) r16.1))).bind fun r24 => (bif (!(Option.isNone r23.2)) then (some false) else (bif (!((r23.1.1 == x5) && ((r23.1.2.1 == x6) && ((r23.1.2.2.1 == x7) && ((r23.1.2.2.2.1 == x8) && ((r23.1.2.2.2.2.1 == x9) && ((r23.1.2.2.2.2.2.1 == x10) && (r23.1.2.2.2.2.2.2 == x11)))))))) then (some false) else ((f_21 N r24.2).bind fun r25 => (bif (r25 != 3) then (some false) else ((f_12 N).bind fun r26 => (some r26))))))) else none) else none))) else ((f_12 N).bind fun r27 => (some r27))))))))))) else none) else none)) else none) else none))) else (bif (Option.isNone r16.2) then ((f_19 N r16.1).bind fun r28 => (bif (decide ((if (List.length r16.1 : Int) > 1 then (List.length r16.1 : Int) else 1) = 0)) then none else (bif (decide (0 ≤ (Int.tmod (IntKind.i64.wrap x12) (if (List.length r16.1 : Int) > 1 then (List.length r16.1 : Int) else 1)) ∧ (Int.tmod (IntKind.i64.wrap x12) (if (List.length r16.1 : Int) > 1 then (List.length r16.1 : Int) else 1)) ≤ (List.length r16.1 : Int))) then (bif (decide (0 ≤ (0 : Int) ∧ (0 : Int) ≤ (Int.tmod (IntKind.i64.wrap x12) (if (List.length r16.1 : Int) > 1 then (List.length r16.1 : Int) else 1)))) then ((f_19 N (List.drop (Int.toNat (0 : Int)) (List.take (Int.toNat (Int.tmod (IntKind.i64.wrap x12) (if (List.length r16.1 : Int) > 1 then (List.length r16.1 : Int) else 1))) r16.1))).bind fun r29 => (bif (!(Option.isNone r28.2)) then (some false) else (bif (!((r28.1.1 == x5) && ((r28.1.2.1 == x6) && ((r28.1.2.2.1 == x7) && ((r28.1.2.2.2.1 == x8) && ((r28.1.2.2.2.2.1 == x9) && ((r28.1.2.2.2.2.2.1 == x10) && (r28.1.2.2.2.2.2.2 == x11)))))))) then (some false) else ((f_21 N r29.2).bind fun r30 => (bif (r30 != 3) then (some false) else ((f_12 N).bind fun r31 => (some r31))))))) else none) else none))) else ((f_12 N).bind fun r32 => (some r32))))))))
theorem ok_4 (N : Nat) (x1 : Int) (x2 : ByteArray) (x3 : List Int) (x4 : Int) (x5 : Int) (x6 : Int) (x7 : Int) (x8 : Int) (x9 : Int) (x10 : Int) (x11 : Int) (x12 : Int) : f_4 N x1 x2 x3 x4 x5 x6 x7 x8 x9 x10 x11 x12 = exec (X_4 N) Go.Proofs.Tryd.f4.ntmps (lp_4 N) c_4 0 (fnK (X_4 N) Go.Proofs.Tryd.f4.results.toList 0 [.one (.d (.bool))]) (fnSt 3 0 [.agg [.d (.int .i64), .d (.str), .d (.sl [.int .u8]), .d (.int .i64)], .agg [.d (.int .i64), .d (.int .i64), .d (.int .i64), .d (.int .i64), .d (.int .i64), .d (.int .i64), .d (.int .i64)], .one (.d (.int .u16))] ((x1, x2, x3, x4), (x5, x6, x7, x8, x9, x10, x11), x12)) := by kernel_rfl
noncomputable def S_4 (N : Nat) : Sum := fnSum 3 0 1 [.agg [.d (.int .i64), .d (.str), .d (.sl [.int .u8]), .d (.int .i64)], .agg [.d (.int .i64), .d (.int .i64), .d (.int .i64), .d (.int .i64), .d (.int .i64), .d (.int .i64), .d (.int .i64)], .one (.d (.int .u16))] [.one (.d (.bool))] (fun p => f_4 N p.1.1 p.1.2.1 p.1.2.2.1 p.1.2.2.2 p.2.1.1 p.2.1.2.1 p.2.1.2.2.1 p.2.1.2.2.2.1 p.2.1.2.2.2.2.1 p.2.1.2.2.2.2.2.1 p.2.1.2.2.2.2.2.2 p.2.2)
theorem s_4 (N : Nat) : SumOk Go.Proofs.Tryd.prog laidL 4 (S_4 N) :=
  fn_ok (lp := lp_4 N) (x_4 N) Go.Proofs.Tryd.func4 (c := c_4) (by kernel_rfl) (by kernel_rfl) rfl (fun p => ok_4 N p.1.1 p.1.2.1 p.1.2.2.1 p.1.2.2.2 p.2.1.1 p.2.1.2.1 p.2.1.2.2.1 p.2.1.2.2.2.1 p.2.1.2.2.2.2.1 p.2.1.2.2.2.2.2.1 p.2.1.2.2.2.2.2.2 p.2.2) (loopsAll (by kernel_rfl) (lookOk_nil))
end Go.Proofs.YtkdjfakjnkemiaaDoor.Mir
