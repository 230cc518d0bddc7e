/- The statement SmearOnward of the given program: for every input the law answers true, and its arguments read as before. Its one listed variable (errors.errorType) is tied to the program's text by the given tie. -/
import Derived.Test.YtmdnnlfoljdfpaaDoorKxeba50c
import Derived.Test.YtmdnnlfoljdfpaaDoorKxbd1e7d
import Derived.Test.YtmdnnlfoljdfpaaDoorProg
import Derived.Test.YtmdnnlfoljdfpaaDoorKx211b95
import Derived.Test.YtmdnnlfoljdfpaaDoorTie
import Derived.Test.YtmdnnlfoljdfpaaDoorCards
import Derived.SevenTiedAt
namespace Go.Proofs.YtmdnnlfoljdfpaaDoor.Mir
open Go Go.RowKit
def ti_2 : TI := ⟨.int .i64, 1, 8, [int .i64 0], [.int .i64]⟩
theorem tk_2 : TyOk1 Go.Proofs.Tryd.prog 2 ti_2 := ⟨by kernel_rfl, fieldsNone (fun fs h => by cases h), ⟨Go.Proofs.Tryd.t2, (Go.Proofs.Tryd.t2.zero).getD .nilIface, by kernel_rfl, by kernel_rfl, by kernel_rfl, by kernel_rfl, by kernel_rfl⟩⟩
def ti_3 : TI := ⟨.int .i64, 1, 8, [int .i64 0], [.int .i64]⟩
theorem tk_3 : TyOk1 Go.Proofs.Tryd.prog 3 ti_3 := ⟨by kernel_rfl, fieldsNone (fun fs h => by cases h), ⟨Go.Proofs.Tryd.t3, (Go.Proofs.Tryd.t3.zero).getD .nilIface, by kernel_rfl, by kernel_rfl, by kernel_rfl, by kernel_rfl, by kernel_rfl⟩⟩
def ti_4 : TI := ⟨.bool, 1, 1, [boolC false], [.bool]⟩
theorem tk_4 : TyOk1 Go.Proofs.Tryd.prog 4 ti_4 := ⟨by kernel_rfl, fieldsNone (fun fs h => by cases h), ⟨Go.Proofs.Tryd.t4, (Go.Proofs.Tryd.t4.zero).getD .nilIface, by kernel_rfl, by kernel_rfl, by kernel_rfl, by kernel_rfl, by kernel_rfl⟩⟩
def ti_32 : TI := ⟨.interface #[("Error", 178)], 1, 16, [.lit .nilIface], [.err 95]⟩
theorem tk_32 : TyOk1 Go.Proofs.Tryd.prog 32 ti_32 := ⟨by kernel_rfl, fieldsNone (fun fs h => by cases h), ⟨Go.Proofs.Tryd.t32, (Go.Proofs.Tryd.t32.zero).getD .nilIface, by kernel_rfl, by kernel_rfl, by kernel_rfl, by kernel_rfl, by kernel_rfl⟩⟩
def ti_50 : TI := ⟨.struct #[{ name := "Kind", type := 3, offset := 0, embedded := false, tag := "", pkgPath := "", byteOffset := 0 }, { name := "Before", type := 2, offset := 1, embedded := false, tag := "", pkgPath := "", byteOffset := 8 }, { name := "After", type := 2, offset := 2, embedded := false, tag := "", pkgPath := "", byteOffset := 16 }], 3, 24, [int .i64 0, int .i64 0, int .i64 0], [.int .i64, .int .i64, .int .i64]⟩
theorem tk_50 : TyOk1 Go.Proofs.Tryd.prog 50 ti_50 := ⟨by kernel_rfl, fieldsSome rfl (by kernel_rfl), ⟨Go.Proofs.Tryd.t50, (Go.Proofs.Tryd.t50.zero).getD .nilIface, by kernel_rfl, by kernel_rfl, by kernel_rfl, by kernel_rfl, by kernel_rfl⟩⟩
def ti_51 : TI := ⟨.slice 2, 1, 24, [.lit (.slice none 0 0)], [.sl [.int .i64]]⟩
theorem tk_51 : TyOk1 Go.Proofs.Tryd.prog 51 ti_51 := ⟨by kernel_rfl, fieldsNone (fun fs h => by cases h), ⟨Go.Proofs.Tryd.t51, (Go.Proofs.Tryd.t51.zero).getD .nilIface, by kernel_rfl, by kernel_rfl, by kernel_rfl, by kernel_rfl, by kernel_rfl⟩⟩
def ti_53 : TI := ⟨.struct #[{ name := "Base", type := 2, offset := 0, embedded := false, tag := "", pkgPath := "", byteOffset := 0 }, { name := "Last", type := 2, offset := 1, embedded := false, tag := "", pkgPath := "", byteOffset := 8 }, { name := "L", type := 51, offset := 2, embedded := false, tag := "", pkgPath := "", byteOffset := 16 }], 3, 40, [int .i64 0, int .i64 0, .lit (.slice none 0 0)], [.int .i64, .int .i64, .sl [.int .i64]]⟩
theorem tk_53 : TyOk1 Go.Proofs.Tryd.prog 53 ti_53 := ⟨by kernel_rfl, fieldsSome rfl (by kernel_rfl), ⟨Go.Proofs.Tryd.t53, (Go.Proofs.Tryd.t53.zero).getD .nilIface, by kernel_rfl, by kernel_rfl, by kernel_rfl, by kernel_rfl, by kernel_rfl⟩⟩
def ti_54 : TI := ⟨.array 2 2, 2, 16, [.arr .i64 2 (List.replicate 2 0)], [.arr .i64 2]⟩
theorem tk_54 : TyOk1 Go.Proofs.Tryd.prog 54 ti_54 := ⟨by kernel_rfl, fieldsNone (fun fs h => by cases h), ⟨Go.Proofs.Tryd.t54, (Go.Proofs.Tryd.t54.zero).getD .nilIface, by kernel_rfl, by kernel_rfl, by kernel_rfl, by kernel_rfl, by kernel_rfl⟩⟩
def ti_55 : TI := ⟨.struct #[{ name := "Kind", type := 3, offset := 0, embedded := false, tag := "", pkgPath := "", byteOffset := 0 }, { name := "Before", type := 2, offset := 1, embedded := false, tag := "", pkgPath := "", byteOffset := 8 }, { name := "After", type := 2, offset := 2, embedded := false, tag := "", pkgPath := "", byteOffset := 16 }], 3, 24, [int .i64 0, int .i64 0, int .i64 0], [.int .i64, .int .i64, .int .i64]⟩
theorem tk_55 : TyOk1 Go.Proofs.Tryd.prog 55 ti_55 := ⟨by kernel_rfl, fieldsSome rfl (by kernel_rfl), ⟨Go.Proofs.Tryd.t55, (Go.Proofs.Tryd.t55.zero).getD .nilIface, by kernel_rfl, by kernel_rfl, by kernel_rfl, by kernel_rfl, by kernel_rfl⟩⟩
def ti_56 : TI := ⟨.struct #[{ name := "Base", type := 2, offset := 0, embedded := false, tag := "", pkgPath := "", byteOffset := 0 }, { name := "Last", type := 2, offset := 1, embedded := false, tag := "", pkgPath := "", byteOffset := 8 }, { name := "L", type := 51, offset := 2, embedded := false, tag := "", pkgPath := "", byteOffset := 16 }], 3, 40, [int .i64 0, int .i64 0, .lit (.slice none 0 0)], [.int .i64, .int .i64, .sl [.int .i64]]⟩
theorem tk_56 : TyOk1 Go.Proofs.Tryd.prog 56 ti_56 := ⟨by kernel_rfl, fieldsSome rfl (by kernel_rfl), ⟨Go.Proofs.Tryd.t56, (Go.Proofs.Tryd.t56.zero).getD .nilIface, by kernel_rfl, by kernel_rfl, by kernel_rfl, by kernel_rfl, by kernel_rfl⟩⟩
def ti_72 : TI := ⟨.struct #[{ name := "Day", type := 2, offset := 0, embedded := false, tag := "", pkgPath := "", byteOffset := 0 }, { name := "Second", type := 2, offset := 1, embedded := false, tag := "", pkgPath := "", byteOffset := 8 }, { name := "Nano", type := 2, offset := 2, embedded := false, tag := "", pkgPath := "", byteOffset := 16 }], 3, 24, [int .i64 0, int .i64 0, int .i64 0], [.int .i64, .int .i64, .int .i64]⟩
theorem tk_72 : TyOk1 Go.Proofs.Tryd.prog 72 ti_72 := ⟨by kernel_rfl, fieldsSome rfl (by kernel_rfl), ⟨Go.Proofs.Tryd.t72, (Go.Proofs.Tryd.t72.zero).getD .nilIface, by kernel_rfl, by kernel_rfl, by kernel_rfl, by kernel_rfl, by kernel_rfl⟩⟩
def ti_91 : TI := ⟨.int .u64, 1, 8, [int .u64 0], [.int .u64]⟩
theorem tk_91 : TyOk1 Go.Proofs.Tryd.prog 91 ti_91 := ⟨by kernel_rfl, fieldsNone (fun fs h => by cases h), ⟨Go.Proofs.Tryd.t91, (Go.Proofs.Tryd.t91.zero).getD .nilIface, by kernel_rfl, by kernel_rfl, by kernel_rfl, by kernel_rfl, by kernel_rfl⟩⟩
def ti_95 : TI := ⟨.int .i64, 1, 8, [int .i64 0], [.int .i64]⟩
theorem tk_95 : TyOk1 Go.Proofs.Tryd.prog 95 ti_95 := ⟨by kernel_rfl, fieldsNone (fun fs h => by cases h), ⟨Go.Proofs.Tryd.t95, (Go.Proofs.Tryd.t95.zero).getD .nilIface, by kernel_rfl, by kernel_rfl, by kernel_rfl, by kernel_rfl, by kernel_rfl⟩⟩
def ti_99 : TI := ⟨.pointer 95, 1, 8, [.lit (Value.pointer none)], []⟩
theorem tk_99 : TyOk1 Go.Proofs.Tryd.prog 99 ti_99 := ⟨by kernel_rfl, fieldsNone (fun fs h => by cases h), ⟨Go.Proofs.Tryd.t99, (Go.Proofs.Tryd.t99.zero).getD .nilIface, by kernel_rfl, by kernel_rfl, by kernel_rfl, by kernel_rfl, by kernel_rfl⟩⟩
def ti_109 : TI := ⟨.struct #[{ name := "Day", type := 2, offset := 0, embedded := false, tag := "", pkgPath := "", byteOffset := 0 }, { name := "Second", type := 2, offset := 1, embedded := false, tag := "", pkgPath := "", byteOffset := 8 }, { name := "Nano", type := 2, offset := 2, embedded := false, tag := "", pkgPath := "", byteOffset := 16 }], 3, 24, [int .i64 0, int .i64 0, int .i64 0], [.int .i64, .int .i64, .int .i64]⟩
theorem tk_109 : TyOk1 Go.Proofs.Tryd.prog 109 ti_109 := ⟨by kernel_rfl, fieldsSome rfl (by kernel_rfl), ⟨Go.Proofs.Tryd.t109, (Go.Proofs.Tryd.t109.zero).getD .nilIface, by kernel_rfl, by kernel_rfl, by kernel_rfl, by kernel_rfl, by kernel_rfl⟩⟩
def ti_152 : TI := ⟨.struct #[{ name := "Hi", type := 2, offset := 0, embedded := false, tag := "", pkgPath := "", byteOffset := 0 }, { name := "Lo", type := 150, offset := 1, embedded := false, tag := "", pkgPath := "", byteOffset := 8 }], 2, 16, [int .i64 0, int .u64 0], [.int .i64, .int .u64]⟩
theorem tk_152 : TyOk1 Go.Proofs.Tryd.prog 152 ti_152 := ⟨by kernel_rfl, fieldsSome rfl (by kernel_rfl), ⟨Go.Proofs.Tryd.t152, (Go.Proofs.Tryd.t152.zero).getD .nilIface, by kernel_rfl, by kernel_rfl, by kernel_rfl, by kernel_rfl, by kernel_rfl⟩⟩
def tab : List (Nat × TI) := [(2, ti_2), (3, ti_3), (4, ti_4), (32, ti_32), (50, ti_50), (51, ti_51), (53, ti_53), (54, ti_54), (55, ti_55), (56, ti_56), (72, ti_72), (91, ti_91), (95, ti_95), (99, ti_99), (109, ti_109), (152, ti_152)]
def tyT : TypeId → Option TI := lookT tab
theorem tyOk : TyOk Go.Proofs.Tryd.prog tyT := TysOk.ok (tysOk_cons tk_2 (tysOk_cons tk_3 (tysOk_cons tk_4 (tysOk_cons tk_32 (tysOk_cons tk_50 (tysOk_cons tk_51 (tysOk_cons tk_53 (tysOk_cons tk_54 (tysOk_cons tk_55 (tysOk_cons tk_56 (tysOk_cons tk_72 (tysOk_cons tk_91 (tysOk_cons tk_95 (tysOk_cons tk_99 (tysOk_cons tk_109 (tysOk_cons tk_152 tysOk_nil))))))))))))))))
def eqT : TypeId → Option (List C → List C → Option Bool) := lookE []
theorem eqOk : ∀ t q, eqT t = some q → EqOk Go.Proofs.Tryd.prog t q := eqsOk_nil
end Go.Proofs.YtmdnnlfoljdfpaaDoor.Mir
namespace Go.Proofs.YtmdnnlfoljdfpaaDoor.Mir
open Go Go.RowKit
set_option maxRecDepth 100000
noncomputable def X_26 (_ : Nat) : Ctx := ⟨tyT, lookF [], eqT⟩
noncomputable def c_26 : Code := bodyOf Go.Proofs.Tryd.f26
theorem x_26 (N : Nat) : CtxOk Go.Proofs.Tryd.prog laidL (X_26 N) := ⟨tyOk, eqOk, fun _ _ => fnsOk_nil.get, by kernel_rfl⟩
noncomputable def lp_26 (_ : Nat) : Nat → Option LSum := lookL []
noncomputable def f_26 (_ : Nat) (x1 : Int) (x2 : Int) (x3 : Int) : Option (TAs [.one (.d (.err 95))]) :=
  (bif (decide (x2 < 0)) then (some (some 1)) else (bif (decide (x2 > 43200)) then (some (some 1)) else (bif (decide (x3 < 0)) then (some (some 1)) else (bif (decide (x3 > 43200)) then (some (some 1)) else (bif (x1 == 0) then (bif ((IntKind.i64.wrap (x2 + x3)) == 0) then (some none) else (some (some 1))) else (bif (x1 == 1) then (bif (decide ((IntKind.i64.wrap (x2 + x3)) > 0)) then (some none) else (some (some 1))) else (bif (x1 == 2) then (bif (decide ((IntKind.i64.wrap (x2 + x3)) ≥ 3600)) then (some none) else (some (some 1))) else (some (some 1)))))))))
theorem ok_26 (N : Nat) (x1 : Int) (x2 : Int) (x3 : Int) : f_26 N x1 x2 x3 = exec (X_26 N) Go.Proofs.Tryd.f26.ntmps (lp_26 N) c_26 0 (fnK (X_26 N) Go.Proofs.Tryd.f26.results.toList 0 [.one (.d (.err 95))]) (fnSt 1 0 [.agg [.d (.int .i64), .d (.int .i64), .d (.int .i64)]] (x1, x2, x3)) := by kernel_rfl
noncomputable def S_26 (N : Nat) : Sum := fnSum 1 0 1 [.agg [.d (.int .i64), .d (.int .i64), .d (.int .i64)]] [.one (.d (.err 95))] (fun p => f_26 N p.1 p.2.1 p.2.2)
theorem s_26 (N : Nat) : SumOk Go.Proofs.Tryd.prog laidL 26 (S_26 N) :=
  fn_ok (lp := lp_26 N) (x_26 N) Go.Proofs.Tryd.func26 (c := c_26) (by kernel_rfl) (by kernel_rfl) rfl (fun p => ok_26 N p.1 p.2.1 p.2.2) (loopsAll (by kernel_rfl) (lookOk_nil))
noncomputable def X_27 (_ : Nat) : Ctx := ⟨tyT, lookF [], eqT⟩
noncomputable def c_27 : Code := bodyOf Go.Proofs.Tryd.f27
theorem x_27 (N : Nat) : CtxOk Go.Proofs.Tryd.prog laidL (X_27 N) := ⟨tyOk, eqOk, fun _ _ => fnsOk_nil.get, by kernel_rfl⟩
noncomputable def lp_27 (_ : Nat) : Nat → Option LSum := lookL []
noncomputable def f_27 (_ : Nat) (x1 : Int) (x2 : Int) (x3 : Int) : Option (TAs [.one (.d (.bool))]) :=
  (bif (decide (x2 < 0)) then (some false) else (bif (decide (x2 > 43200)) then (some false) else (bif (decide (x3 < 0)) then (some false) else (bif (decide (x3 > 43200)) then (some false) else (bif (x1 == 0) then (bif ((IntKind.i64.wrap (x2 + x3)) == 0) then (some true) else (bif (x1 == 1) then (bif (decide ((IntKind.i64.wrap (x2 + x3)) ≥ 1)) then (some true) else (bif (x1 == 2) then (some (decide ((IntKind.i64.wrap (x2 + x3)) ≥ 3600))) else (some false))) else (bif (x1 == 2) then (some (decide ((IntKind.i64.wrap (x2 + x3)) ≥ 3600))) else (some false)))) else (bif (x1 == 1) then (bif (decide ((IntKind.i64.wrap (x2 + x3)) ≥ 1)) then (some true) else (bif (x1 == 2) then (some (decide ((IntKind.i64.wrap (x2 + x3)) ≥ 3600))) else (some false))) else (bif (x1 == 2) then (some (decide ((IntKind.i64.wrap (x2 + x3)) ≥ 3600))) else (some false))))))))
theorem ok_27 (N : Nat) (x1 : Int) (x2 : Int) (x3 : Int) : f_27 N x1 x2 x3 = exec (X_27 N) Go.Proofs.Tryd.f27.ntmps (lp_27 N) c_27 0 (fnK (X_27 N) Go.Proofs.Tryd.f27.results.toList 0 [.one (.d (.bool))]) (fnSt 1 0 [.agg [.d (.int .i64), .d (.int .i64), .d (.int .i64)]] (x1, x2, x3)) := by kernel_rfl
noncomputable def S_27 (N : Nat) : Sum := fnSum 1 0 1 [.agg [.d (.int .i64), .d (.int .i64), .d (.int .i64)]] [.one (.d (.bool))] (fun p => f_27 N p.1 p.2.1 p.2.2)
theorem s_27 (N : Nat) : SumOk Go.Proofs.Tryd.prog laidL 27 (S_27 N) :=
  fn_ok (lp := lp_27 N) (x_27 N) Go.Proofs.Tryd.func27 (c := c_27) (by kernel_rfl) (by kernel_rfl) rfl (fun p => ok_27 N p.1 p.2.1 p.2.2) (loopsAll (by kernel_rfl) (lookOk_nil))
noncomputable def X_28 (_ : Nat) : Ctx := ⟨tyT, lookF [(47, asS)], eqT⟩
noncomputable def c_28 : Code := bodyOf Go.Proofs.Tryd.f28
theorem x_28 (N : Nat) : CtxOk Go.Proofs.Tryd.prog laidL (X_28 N) := ⟨tyOk, eqOk, fun _ _ => (fnsOk_cons asS_ok fnsOk_nil).get, by kernel_rfl⟩
noncomputable def lp_28 (_ : Nat) : Nat → Option LSum := lookL []
noncomputable def f_28 (_ : Nat) (x1 : Option Int) : Option (TAs [.one (.d (.int .i64))]) :=
  (bif (Option.isNone x1) then (some 0) else ((some (x1, (0 : Int)) : Option (Option Int × Int)).bind fun r2 => (bif (Option.isSome r2.1) then (some (asVal r2.2 r2.1)) else (some (-1)))))
theorem ok_28 (N : Nat) (x1 : Option Int) : f_28 N x1 = exec (X_28 N) Go.Proofs.Tryd.f28.ntmps (lp_28 N) c_28 0 (fnK (X_28 N) Go.Proofs.Tryd.f28.results.toList 0 [.one (.d (.int .i64))]) (fnSt 1 0 [.one (.d (.err 95))] x1) := by kernel_rfl
noncomputable def S_28 (N : Nat) : Sum := fnSum 1 0 1 [.one (.d (.err 95))] [.one (.d (.int .i64))] (fun p => f_28 N p)
theorem s_28 (N : Nat) : SumOk Go.Proofs.Tryd.prog laidL 28 (S_28 N) :=
  fn_ok (lp := lp_28 N) (x_28 N) Go.Proofs.Tryd.func28 (c := c_28) (by kernel_rfl) (by kernel_rfl) rfl (fun p => ok_28 N p) (loopsAll (by kernel_rfl) (lookOk_nil))
noncomputable def X_48 (_ : Nat) : Ctx := ⟨tyT, lookF [], eqT⟩
noncomputable def c_48 : Code := bodyOf Go.Proofs.Tryd.f48
theorem x_48 (N : Nat) : CtxOk Go.Proofs.Tryd.prog laidL (X_48 N) := ⟨tyOk, eqOk, fun _ _ => fnsOk_nil.get, by kernel_rfl⟩
noncomputable def lp_48 (_ : Nat) : Nat → Option LSum := lookL []
noncomputable def f_48 (_ : Nat) (_x1 : Int) (x2 : Int) (x3 : Int) : Option (TAs [.one (.d (.int .i64))]) :=
  (some (IntKind.i64.wrap ((IntKind.i64.wrap ((IntKind.i64.wrap (x2 + 1)) + x3)) * 1000000000)))
theorem ok_48 (N : Nat) (x1 : Int) (x2 : Int) (x3 : Int) : f_48 N x1 x2 x3 = exec (X_48 N) Go.Proofs.Tryd.f48.ntmps (lp_48 N) c_48 0 (fnK (X_48 N) Go.Proofs.Tryd.f48.results.toList 0 [.one (.d (.int .i64))]) (fnSt 1 0 [.agg [.d (.int .i64), .d (.int .i64), .d (.int .i64)]] (x1, x2, x3)) := by kernel_rfl
noncomputable def S_48 (N : Nat) : Sum := fnSum 1 0 1 [.agg [.d (.int .i64), .d (.int .i64), .d (.int .i64)]] [.one (.d (.int .i64))] (fun p => f_48 N p.1 p.2.1 p.2.2)
theorem s_48 (N : Nat) : SumOk Go.Proofs.Tryd.prog laidL 48 (S_48 N) :=
  fn_ok (lp := lp_48 N) (x_48 N) Go.Proofs.Tryd.func48 (c := c_48) (by kernel_rfl) (by kernel_rfl) rfl (fun p => ok_48 N p.1 p.2.1 p.2.2) (loopsAll (by kernel_rfl) (lookOk_nil))
noncomputable def X_50 (_ : Nat) : Ctx := ⟨tyT, lookF [(49, mdS), (90, wmulS), (89, wdivS), (91, wintS)], eqT⟩
noncomputable def c_50 : Code := bodyOf Go.Proofs.Tryd.f50
theorem x_50 (N : Nat) : CtxOk Go.Proofs.Tryd.prog laidL (X_50 N) := ⟨tyOk, eqOk, fun _ _ => (fnsOk_cons mdS_ok (fnsOk_cons wmulS_ok (fnsOk_cons wdivS_ok (fnsOk_cons wintS_ok fnsOk_nil)))).get, by kernel_rfl⟩
noncomputable def lp_50 (_ : Nat) : Nat → Option LSum := lookL []
noncomputable def f_50 (_ : Nat) (x1 : Int) (x2 : Int) : Option (TAs [.one (.d (.int .i64)), .one (.d (.int .i64)), .one (.d (.err 95))]) :=
  ((mdF 2000000000 x1 x2).bind fun r3 => (bif (!(Option.isNone r3.2)) then (some (0, 0, r3.2)) else ((wmulF x1 r3.1).bind fun r4 => ((wdivF ((r4.1, r4.2), x2)).bind fun r5 => (bif (!(Option.isNone r5.2.2)) then (some (0, 0, r5.2.2)) else ((wintF (r5.1.1, r5.1.2)).bind fun r6 => (some (r6.1, r5.2.1, r6.2))))))))
theorem ok_50 (N : Nat) (x1 : Int) (x2 : Int) : f_50 N x1 x2 = exec (X_50 N) Go.Proofs.Tryd.f50.ntmps (lp_50 N) c_50 0 (fnK (X_50 N) Go.Proofs.Tryd.f50.results.toList 0 [.one (.d (.int .i64)), .one (.d (.int .i64)), .one (.d (.err 95))]) (fnSt 2 0 [.one (.d (.int .i64)), .one (.d (.int .i64))] (x1, x2)) := by kernel_rfl
noncomputable def S_50 (N : Nat) : Sum := fnSum 2 0 3 [.one (.d (.int .i64)), .one (.d (.int .i64))] [.one (.d (.int .i64)), .one (.d (.int .i64)), .one (.d (.err 95))] (fun p => f_50 N p.1 p.2)
theorem s_50 (N : Nat) : SumOk Go.Proofs.Tryd.prog laidL 50 (S_50 N) :=
  fn_ok (lp := lp_50 N) (x_50 N) Go.Proofs.Tryd.func50 (c := c_50) (by kernel_rfl) (by kernel_rfl) rfl (fun p => ok_50 N p.1 p.2) (loopsAll (by kernel_rfl) (lookOk_nil))
noncomputable def X_51 (_ : Nat) : Ctx := ⟨tyT, lookF [(52, rmdS)], eqT⟩
noncomputable def c_51 : Code := bodyOf Go.Proofs.Tryd.f51
theorem x_51 (N : Nat) : CtxOk Go.Proofs.Tryd.prog laidL (X_51 N) := ⟨tyOk, eqOk, fun _ _ => (fnsOk_cons rmdS_ok fnsOk_nil).get, by kernel_rfl⟩
noncomputable def lp_51 (_ : Nat) : Nat → Option LSum := lookL []
noncomputable def f_51 (_ : Nat) (x1 : Int) (x2 : Int) (x3 : Int) : Option (TAs [.one (.d (.int .i64))]) :=
  ((rmdF (IntKind.i64.wrap (0 - x1)) x2 x3).bind fun r4 => (some (IntKind.i64.wrap (0 - r4.1))))
theorem ok_51 (N : Nat) (x1 : Int) (x2 : Int) (x3 : Int) : f_51 N x1 x2 x3 = exec (X_51 N) Go.Proofs.Tryd.f51.ntmps (lp_51 N) c_51 0 (fnK (X_51 N) Go.Proofs.Tryd.f51.results.toList 0 [.one (.d (.int .i64))]) (fnSt 3 0 [.one (.d (.int .i64)), .one (.d (.int .i64)), .one (.d (.int .i64))] (x1, x2, x3)) := by kernel_rfl
noncomputable def S_51 (N : Nat) : Sum := fnSum 3 0 1 [.one (.d (.int .i64)), .one (.d (.int .i64)), .one (.d (.int .i64))] [.one (.d (.int .i64))] (fun p => f_51 N p.1 p.2.1 p.2.2)
theorem s_51 (N : Nat) : SumOk Go.Proofs.Tryd.prog laidL 51 (S_51 N) :=
  fn_ok (lp := lp_51 N) (x_51 N) Go.Proofs.Tryd.func51 (c := c_51) (by kernel_rfl) (by kernel_rfl) rfl (fun p => ok_51 N p.1 p.2.1 p.2.2) (loopsAll (by kernel_rfl) (lookOk_nil))
noncomputable def X_53 (_ : Nat) : Ctx := ⟨tyT, lookF [], eqT⟩
noncomputable def c_53 : Code := bodyOf Go.Proofs.Tryd.f53
theorem x_53 (N : Nat) : CtxOk Go.Proofs.Tryd.prog laidL (X_53 N) := ⟨tyOk, eqOk, fun _ _ => fnsOk_nil.get, by kernel_rfl⟩
noncomputable def nd_53_0 : Code := loopAt 0 0 c_53
noncomputable def cb_53_0 : Code := unloop nd_53_0
theorem ne_53_0 : nd_53_0 = .loop cb_53_0 := by kernel_rfl
noncomputable def sh_53_0 : List ShA := [.one (.ptr 144 0), .one (.d (.int .i64)), .agg [.d (.int .i64), .d (.int .i64), .d (.sl [.int .i64])]]
noncomputable def o_53_0 : OutK 0 (((TAs [.one (.d (.bool))]) ⊕ (TAs [.one (.ptr 144 0), .agg [.d (.int .i64), .d (.int .i64), .d (.sl [.int .i64])]]))) := (outTwo (outOne 0 .ret [2] [] [.one (.d (.bool))]) (outOne 0 (.exit 0) [1] [144] [.one (.ptr 144 0), .agg [.d (.int .i64), .d (.int .i64), .d (.sl [.int .i64])]]))
noncomputable def b_53_0 (_ : Nat) (ih : TAs sh_53_0 → Option (((TAs [.one (.d (.bool))]) ⊕ (TAs [.one (.ptr 144 0), .agg [.d (.int .i64), .d (.int .i64), .d (.sl [.int .i64])]])))) : TAs sh_53_0 → Option (((TAs [.one (.d (.bool))]) ⊕ (TAs [.one (.ptr 144 0), .agg [.d (.int .i64), .d (.int .i64), .d (.sl [.int .i64])]]))) := fun (_, y4, (y5, y6, y7)) =>
  (bif (decide (y4 < (List.length y7 : Int))) then (bif (decide (0 ≤ y4 ∧ y4 < (List.length y7 : Int))) then (bif (decide ((List.getD y7 (Int.toNat y4) 0) < (-50000))) then (some (.inl false)) else (bif (decide (0 ≤ y4 ∧ y4 < (List.length y7 : Int))) then (bif (decide ((List.getD y7 (Int.toNat y4) 0) ≥ y6)) then (some (.inl false)) else (bif (decide (y4 > 0)) then (bif (decide (0 ≤ y4 ∧ y4 < (List.length y7 : Int))) then (bif (decide (0 ≤ (IntKind.i64.wrap (y4 - 1)) ∧ (IntKind.i64.wrap (y4 - 1)) < (List.length y7 : Int))) then (bif (decide ((List.getD y7 (Int.toNat y4) 0) ≤ (List.getD y7 (Int.toNat (IntKind.i64.wrap (y4 - 1))) 0))) then (some (.inl false)) else (ih ((), (IntKind.i64.wrap (y4 + 1)), (y5, y6, y7)))) else none) else none) else (ih ((), (IntKind.i64.wrap (y4 + 1)), (y5, y6, y7))))) else none)) else none) else (some (.inr ((), (y5, y6, y7)))))
noncomputable def l_53_0 (N : Nat) : TAs sh_53_0 → Option (((TAs [.one (.d (.bool))]) ⊕ (TAs [.one (.ptr 144 0), .agg [.d (.int .i64), .d (.int .i64), .d (.sl [.int .i64])]]))) := iter (b_53_0 N) N
noncomputable def lp_53_0 (_ : Nat) : Nat → Option LSum := lookL []
noncomputable def L_53_0 (N : Nat) : LSum := loopSum [1, 3] [144] sh_53_0 o_53_0 (l_53_0 N)
theorem b_ok_53_0 (N : Nat) (ih : TAs sh_53_0 → Option (((TAs [.one (.d (.bool))]) ⊕ (TAs [.one (.ptr 144 0), .agg [.d (.int .i64), .d (.int .i64), .d (.sl [.int .i64])]])))) (p : TAs sh_53_0) : b_53_0 N ih p = exec (X_53 N) Go.Proofs.Tryd.f53.ntmps (lp_53_0 N) cb_53_0 0 (roundK [1, 3] [144] sh_53_0 o_53_0 ih) (stOf [1, 3] [144] sh_53_0 p) := by kernel_rfl
theorem L_ok_53_0 (N : Nat) : SegOk Go.Proofs.Tryd.prog laidL 0 Go.Proofs.Tryd.f53.ntmps nd_53_0 (L_53_0 N) :=
  ne_53_0 ▸ loop_ok (cur := 0) (lp := lp_53_0 N) (x_53 N) (fun n => iter (b_53_0 N) n) (fun _ => rfl) (fun n p => b_ok_53_0 N (iter (b_53_0 N) n) p) (loopsAll (by kernel_rfl) (lookOk_nil)) N
noncomputable def lp_53 (N : Nat) : Nat → Option LSum := lookL [(0, L_53_0 N)]
noncomputable def f_53 (N : Nat) (x1 : Int) (x2 : Int) (x3 : List Int) : Option (TAs [.one (.d (.bool))]) :=
  ((l_53_0 N ((), 0, (x1, x2, x3))).bind fun q => (match q with | .inl q8 => (some q8) | .inr q9 => (bif (decide (q9.2.1 ≥ 0)) then (bif (decide (q9.2.1 ≤ 100)) then (bif (decide (q9.2.2.1 ≥ (-50000))) then (bif (decide (q9.2.2.1 ≤ 50000)) then (some (decide ((List.length q9.2.2.2 : Int) ≤ 32))) else (some false)) else (some false)) else (some false)) else (some false))))
theorem ok_53 (N : Nat) (x1 : Int) (x2 : Int) (x3 : List Int) : f_53 N x1 x2 x3 = exec (X_53 N) Go.Proofs.Tryd.f53.ntmps (lp_53 N) c_53 0 (fnK (X_53 N) Go.Proofs.Tryd.f53.results.toList 0 [.one (.d (.bool))]) (fnSt 1 0 [.agg [.d (.int .i64), .d (.int .i64), .d (.sl [.int .i64])]] (x1, x2, x3)) := by kernel_rfl
noncomputable def S_53 (N : Nat) : Sum := fnSum 1 0 1 [.agg [.d (.int .i64), .d (.int .i64), .d (.sl [.int .i64])]] [.one (.d (.bool))] (fun p => f_53 N p.1 p.2.1 p.2.2)
theorem s_53 (N : Nat) : SumOk Go.Proofs.Tryd.prog laidL 53 (S_53 N) :=
  fn_ok (lp := lp_53 N) (x_53 N) Go.Proofs.Tryd.func53 (c := c_53) (by kernel_rfl) (by kernel_rfl) rfl (fun p => ok_53 N p.1 p.2.1 p.2.2) (loopsAll (by kernel_rfl) ((lookOk_cons (L_ok_53_0 N) lookOk_nil)))
noncomputable def X_54 (_ : Nat) : Ctx := ⟨tyT, lookF [], eqT⟩
noncomputable def c_54 : Code := bodyOf Go.Proofs.Tryd.f54
theorem x_54 (N : Nat) : CtxOk Go.Proofs.Tryd.prog laidL (X_54 N) := ⟨tyOk, eqOk, fun _ _ => fnsOk_nil.get, by kernel_rfl⟩
noncomputable def lp_54 (_ : Nat) : Nat → Option LSum := lookL []
noncomputable def f_54 (_ : Nat) (_x1 : Int) (x2 : Int) (x3 : Int) (x4 : Int) (_x5 : Int) (x6 : List Int) (x7 : Int) : Option (TAs [.one (.d (.int .i64)), .one (.d (.int .i64))]) :=
  (bif (decide (0 ≤ x7 ∧ x7 < (List.length x6 : Int))) then (some ((IntKind.i64.wrap ((IntKind.i64.wrap ((IntKind.i64.wrap ((IntKind.i64.wrap ((IntKind.i64.wrap ((IntKind.i64.wrap ((IntKind.i64.wrap ((List.getD x6 (Int.toNat x7) 0) + 1)) * 86400)) + x4)) + x7)) + 1)) - 1)) - x2)), (IntKind.i64.wrap ((IntKind.i64.wrap ((IntKind.i64.wrap ((IntKind.i64.wrap ((IntKind.i64.wrap ((IntKind.i64.wrap ((List.getD x6 (Int.toNat x7) 0) + 1)) * 86400)) + x4)) + x7)) + 1)) + x3)))) else none)
theorem ok_54 (N : Nat) (x1 : Int) (x2 : Int) (x3 : Int) (x4 : Int) (x5 : Int) (x6 : List Int) (x7 : Int) : f_54 N x1 x2 x3 x4 x5 x6 x7 = exec (X_54 N) Go.Proofs.Tryd.f54.ntmps (lp_54 N) c_54 0 (fnK (X_54 N) Go.Proofs.Tryd.f54.results.toList 0 [.one (.d (.int .i64)), .one (.d (.int .i64))]) (fnSt 3 0 [.agg [.d (.int .i64), .d (.int .i64), .d (.int .i64)], .agg [.d (.int .i64), .d (.int .i64), .d (.sl [.int .i64])], .one (.d (.int .i64))] ((x1, x2, x3), (x4, x5, x6), x7)) := by kernel_rfl
noncomputable def S_54 (N : Nat) : Sum := fnSum 3 0 2 [.agg [.d (.int .i64), .d (.int .i64), .d (.int .i64)], .agg [.d (.int .i64), .d (.int .i64), .d (.sl [.int .i64])], .one (.d (.int .i64))] [.one (.d (.int .i64)), .one (.d (.int .i64))] (fun p => f_54 N p.1.1 p.1.2.1 p.1.2.2 p.2.1.1 p.2.1.2.1 p.2.1.2.2 p.2.2)
theorem s_54 (N : Nat) : SumOk Go.Proofs.Tryd.prog laidL 54 (S_54 N) :=
  fn_ok (lp := lp_54 N) (x_54 N) Go.Proofs.Tryd.func54 (c := c_54) (by kernel_rfl) (by kernel_rfl) rfl (fun p => ok_54 N p.1.1 p.1.2.1 p.1.2.2 p.2.1.1 p.2.1.2.1 p.2.1.2.2 p.2.2) (loopsAll (by kernel_rfl) (lookOk_nil))
noncomputable def X_55 (_ : Nat) : Ctx := ⟨tyT, lookF [], eqT⟩
noncomputable def c_55 : Code := bodyOf Go.Proofs.Tryd.f55
theorem x_55 (N : Nat) : CtxOk Go.Proofs.Tryd.prog laidL (X_55 N) := ⟨tyOk, eqOk, fun _ _ => fnsOk_nil.get, by kernel_rfl⟩
noncomputable def nd_55_0 : Code := loopAt 0 0 c_55
noncomputable def cb_55_0 : Code := unloop nd_55_0
theorem ne_55_0 : nd_55_0 = .loop cb_55_0 := by kernel_rfl
noncomputable def sh_55_0 : List ShA := [.one (.ptr 144 0), .one (.d (.sl [.int .i64])), .one (.d (.int .i64)), .one (.d (.int .i64)), .agg [.d (.int .i64), .d (.int .i64), .d (.sl [.int .i64])]]
noncomputable def o_55_0 : OutK 0 (((TAs [.one (.d (.err 95))]) ⊕ (TAs []))) := (outTwo (outOne 0 .ret [2] [] [.one (.d (.err 95))]) (outOne 0 (.exit 0) [] [] []))
noncomputable def b_55_0 (_ : Nat) (ih : TAs sh_55_0 → Option (((TAs [.one (.d (.err 95))]) ⊕ (TAs [])))) : TAs sh_55_0 → Option (((TAs [.one (.d (.err 95))]) ⊕ (TAs []))) := fun (_, y4, y5, y6, (y7, y8, y9)) =>
  (bif (decide (y6 < y5)) then (bif (decide (0 ≤ y6 ∧ y6 < (List.length y4 : Int))) then (bif (decide ((List.getD y4 (Int.toNat y6) 0) < (-50000))) then (some (.inl (some 1))) else (bif (decide ((List.getD y4 (Int.toNat y6) 0) ≥ y8)) then (some (.inl (some 1))) else (bif (decide (y6 > 0)) then (bif (decide (0 ≤ (IntKind.i64.wrap (y6 - 1)) ∧ (IntKind.i64.wrap (y6 - 1)) < (List.length y9 : Int))) then (bif (decide ((List.getD y9 (Int.toNat (IntKind.i64.wrap (y6 - 1))) 0) ≥ (List.getD y4 (Int.toNat y6) 0))) then (some (.inl (some 1))) else (ih ((), y4, y5, (IntKind.i64.wrap (y6 + 1)), (y7, y8, y9)))) else none) else (ih ((), y4, y5, (IntKind.i64.wrap (y6 + 1)), (y7, y8, y9)))))) else none) else (some (.inr ())))
noncomputable def l_55_0 (N : Nat) : TAs sh_55_0 → Option (((TAs [.one (.d (.err 95))]) ⊕ (TAs []))) := iter (b_55_0 N) N
noncomputable def lp_55_0 (_ : Nat) : Nat → Option LSum := lookL []
noncomputable def L_55_0 (N : Nat) : LSum := loopSum [1, 31, 32, 33] [144] sh_55_0 o_55_0 (l_55_0 N)
theorem b_ok_55_0 (N : Nat) (ih : TAs sh_55_0 → Option (((TAs [.one (.d (.err 95))]) ⊕ (TAs [])))) (p : TAs sh_55_0) : b_55_0 N ih p = exec (X_55 N) Go.Proofs.Tryd.f55.ntmps (lp_55_0 N) cb_55_0 0 (roundK [1, 31, 32, 33] [144] sh_55_0 o_55_0 ih) (stOf [1, 31, 32, 33] [144] sh_55_0 p) := by kernel_rfl
theorem L_ok_55_0 (N : Nat) : SegOk Go.Proofs.Tryd.prog laidL 0 Go.Proofs.Tryd.f55.ntmps nd_55_0 (L_55_0 N) :=
  ne_55_0 ▸ loop_ok (cur := 0) (lp := lp_55_0 N) (x_55 N) (fun n => iter (b_55_0 N) n) (fun _ => rfl) (fun n p => b_ok_55_0 N (iter (b_55_0 N) n) p) (loopsAll (by kernel_rfl) (lookOk_nil)) N
noncomputable def lp_55 (N : Nat) : Nat → Option LSum := lookL [(0, L_55_0 N)]
noncomputable def f_55 (N : Nat) (x1 : Int) (x2 : Int) (x3 : List Int) : Option (TAs [.one (.d (.err 95))]) :=
  (bif (decide (x1 < 0)) then (some (some 1)) else (bif (decide (x1 > 100)) then (some (some 1)) else (bif (decide (x2 < (-50000))) then (some (some 1)) else (bif (decide (x2 > 50000)) then (some (some 1)) else (bif (decide ((List.length x3 : Int) > 32)) then (some (some 1)) else ((l_55_0 N ((), x3, (List.length x3 : Int), 0, (x1, x2, x3))).bind fun q => (match q with | .inl q10 => (some q10) | .inr _ => (some none))))))))
theorem ok_55 (N : Nat) (x1 : Int) (x2 : Int) (x3 : List Int) : f_55 N x1 x2 x3 = exec (X_55 N) Go.Proofs.Tryd.f55.ntmps (lp_55 N) c_55 0 (fnK (X_55 N) Go.Proofs.Tryd.f55.results.toList 0 [.one (.d (.err 95))]) (fnSt 1 0 [.agg [.d (.int .i64), .d (.int .i64), .d (.sl [.int .i64])]] (x1, x2, x3)) := by kernel_rfl
noncomputable def S_55 (N : Nat) : Sum := fnSum 1 0 1 [.agg [.d (.int .i64), .d (.int .i64), .d (.sl [.int .i64])]] [.one (.d (.err 95))] (fun p => f_55 N p.1 p.2.1 p.2.2)
theorem s_55 (N : Nat) : SumOk Go.Proofs.Tryd.prog laidL 55 (S_55 N) :=
  fn_ok (lp := lp_55 N) (x_55 N) Go.Proofs.Tryd.func55 (c := c_55) (by kernel_rfl) (by kernel_rfl) rfl (fun p => ok_55 N p.1 p.2.1 p.2.2) (loopsAll (by kernel_rfl) ((lookOk_cons (L_ok_55_0 N) lookOk_nil)))
noncomputable def X_56 (_ : Nat) : Ctx := ⟨tyT, lookF [], eqT⟩
noncomputable def c_56 : Code := bodyOf Go.Proofs.Tryd.f56
theorem x_56 (N : Nat) : CtxOk Go.Proofs.Tryd.prog laidL (X_56 N) := ⟨tyOk, eqOk, fun _ _ => fnsOk_nil.get, by kernel_rfl⟩
noncomputable def nd_56_0 : Code := loopAt 0 0 c_56
noncomputable def cb_56_0 : Code := unloop nd_56_0
theorem ne_56_0 : nd_56_0 = .loop cb_56_0 := by kernel_rfl
noncomputable def sh_56_0 : List ShA := [.one (.d (.int .i64)), .one (.ptr 160 0), .one (.d (.int .i64)), .one (.d (.int .i64)), .agg [.d (.int .i64), .d (.int .i64), .d (.sl [.int .i64])]]
noncomputable def o_56_0 : OutK 0 (TAs [.one (.d (.int .i64))]) := (outOne 0 (.exit 0) [5] [] [.one (.d (.int .i64))])
noncomputable def b_56_0 (_ : Nat) (ih : TAs sh_56_0 → Option (TAs [.one (.d (.int .i64))])) : TAs sh_56_0 → Option (TAs [.one (.d (.int .i64))]) := fun (y5, _, y6, y7, (y8, y9, y10)) =>
  (bif (decide (y7 < (List.length y10 : Int))) then (bif (decide (0 ≤ y7 ∧ y7 < (List.length y10 : Int))) then (bif (decide ((List.getD y10 (Int.toNat y7) 0) < y5)) then (ih (y5, (), (IntKind.i64.wrap (y6 + 1)), (IntKind.i64.wrap (y7 + 1)), (y8, y9, y10))) else (ih (y5, (), y6, (IntKind.i64.wrap (y7 + 1)), (y8, y9, y10)))) else none) else (some (y6)))
noncomputable def l_56_0 (N : Nat) : TAs sh_56_0 → Option (TAs [.one (.d (.int .i64))]) := iter (b_56_0 N) N
noncomputable def lp_56_0 (_ : Nat) : Nat → Option LSum := lookL []
noncomputable def L_56_0 (N : Nat) : LSum := loopSum [1, 2, 5, 6] [160] sh_56_0 o_56_0 (l_56_0 N)
theorem b_ok_56_0 (N : Nat) (ih : TAs sh_56_0 → Option (TAs [.one (.d (.int .i64))])) (p : TAs sh_56_0) : b_56_0 N ih p = exec (X_56 N) Go.Proofs.Tryd.f56.ntmps (lp_56_0 N) cb_56_0 0 (roundK [1, 2, 5, 6] [160] sh_56_0 o_56_0 ih) (stOf [1, 2, 5, 6] [160] sh_56_0 p) := by kernel_rfl
theorem L_ok_56_0 (N : Nat) : SegOk Go.Proofs.Tryd.prog laidL 0 Go.Proofs.Tryd.f56.ntmps nd_56_0 (L_56_0 N) :=
  ne_56_0 ▸ loop_ok (cur := 0) (lp := lp_56_0 N) (x_56 N) (fun n => iter (b_56_0 N) n) (fun _ => rfl) (fun n p => b_ok_56_0 N (iter (b_56_0 N) n) p) (loopsAll (by kernel_rfl) (lookOk_nil)) N
noncomputable def lp_56 (N : Nat) : Nat → Option LSum := lookL [(0, L_56_0 N)]
noncomputable def f_56 (N : Nat) (x1 : Int) (x2 : Int) (x3 : List Int) (x4 : Int) : Option (TAs [.one (.d (.int .i64))]) :=
  ((l_56_0 N (x4, (), (IntKind.i64.wrap ((IntKind.i64.wrap (86400 * x4)) + x1)), 0, (x1, x2, x3))).bind fun q11 => (some q11))
theorem ok_56 (N : Nat) (x1 : Int) (x2 : Int) (x3 : List Int) (x4 : Int) : f_56 N x1 x2 x3 x4 = exec (X_56 N) Go.Proofs.Tryd.f56.ntmps (lp_56 N) c_56 0 (fnK (X_56 N) Go.Proofs.Tryd.f56.results.toList 0 [.one (.d (.int .i64))]) (fnSt 2 0 [.agg [.d (.int .i64), .d (.int .i64), .d (.sl [.int .i64])], .one (.d (.int .i64))] ((x1, x2, x3), x4)) := by kernel_rfl
noncomputable def S_56 (N : Nat) : Sum := fnSum 2 0 1 [.agg [.d (.int .i64), .d (.int .i64), .d (.sl [.int .i64])], .one (.d (.int .i64))] [.one (.d (.int .i64))] (fun p => f_56 N p.1.1 p.1.2.1 p.1.2.2 p.2)
theorem s_56 (N : Nat) : SumOk Go.Proofs.Tryd.prog laidL 56 (S_56 N) :=
  fn_ok (lp := lp_56 N) (x_56 N) Go.Proofs.Tryd.func56 (c := c_56) (by kernel_rfl) (by kernel_rfl) rfl (fun p => ok_56 N p.1.1 p.1.2.1 p.1.2.2 p.2) (loopsAll (by kernel_rfl) ((lookOk_cons (L_ok_56_0 N) lookOk_nil)))
noncomputable def X_58 (N : Nat) : Ctx := ⟨tyT, lookF [(53, (S_53 N)), (56, (S_56 N))], eqT⟩
noncomputable def c_58 : Code := bodyOf Go.Proofs.Tryd.f58
theorem x_58 (N : Nat) : CtxOk Go.Proofs.Tryd.prog laidL (X_58 N) := ⟨tyOk, eqOk, fun _ _ => (fnsOk_cons (s_53 N) (fnsOk_cons (s_56 N) fnsOk_nil)).get, by kernel_rfl⟩
noncomputable def nd_58_0 : Code := loopAt 0 0 c_58
noncomputable def cb_58_0 : Code := unloop nd_58_0
theorem ne_58_0 : nd_58_0 = .loop cb_58_0 := by kernel_rfl
noncomputable def sh_58_0 : List ShA := [.one (.d (.int .i64)), .one (.ptr 160 0), .one (.ptr 192 0), .one (.d (.int .i64)), .one (.d (.int .i64)), .one (.d (.int .i64)), .agg [.d (.int .i64), .d (.int .i64), .d (.sl [.int .i64])], .agg [.d (.int .i64), .d (.int .i64), .d (.int .i64)]]
noncomputable def o_58_0 : OutK 0 (TAs [.one (.d (.int .i64)), .one (.ptr 160 0), .one (.ptr 192 0), .one (.d (.int .i64)), .one (.d (.int .i64)), .agg [.d (.int .i64), .d (.int .i64), .d (.sl [.int .i64])], .agg [.d (.int .i64), .d (.int .i64), .d (.int .i64)]]) := (outOne 0 (.exit 0) [1, 2, 4, 6, 7] [160, 192] [.one (.d (.int .i64)), .one (.ptr 160 0), .one (.ptr 192 0), .one (.d (.int .i64)), .one (.d (.int .i64)), .agg [.d (.int .i64), .d (.int .i64), .d (.sl [.int .i64])], .agg [.d (.int .i64), .d (.int .i64), .d (.int .i64)]])
noncomputable def b_58_0 (N : Nat) (ih : TAs sh_58_0 → Option (TAs [.one (.d (.int .i64)), .one (.ptr 160 0), .one (.ptr 192 0), .one (.d (.int .i64)), .one (.d (.int .i64)), .agg [.d (.int .i64), .d (.int .i64), .d (.sl [.int .i64])], .agg [.d (.int .i64), .d (.int .i64), .d (.int .i64)]])) : TAs sh_58_0 → Option (TAs [.one (.d (.int .i64)), .one (.ptr 160 0), .one (.ptr 192 0), .one (.d (.int .i64)), .one (.d (.int .i64)), .agg [.d (.int .i64), .d (.int .i64), .d (.sl [.int .i64])], .agg [.d (.int .i64), .d (.int .i64), .d (.int .i64)]]) := fun (y8, _, _, y9, y10, y11, (y12, y13, y14), (y15, y16, y17)) =>
  (bif (decide ((IntKind.i64.wrap (y11 - y10)) > 1)) then ((f_56 N y12 y13 y14 (IntKind.i64.wrap (Int.tdiv (IntKind.i64.wrap (y10 + y11)) 2))).bind fun r18 => (bif (decide (r18 ≤ y9)) then (ih (y8, (), (), y9, (IntKind.i64.wrap (Int.tdiv (IntKind.i64.wrap (y10 + y11)) 2)), y11, (y12, y13, y14), (y15, y16, y17))) else (ih (y8, (), (), y9, y10, (IntKind.i64.wrap (Int.tdiv (IntKind.i64.wrap (y10 + y11)) 2)), (y12, y13, y14), (y15, y16, y17))))) else (some ((y8, (), (), y9, y10, (y12, y13, y14), (y15, y16, y17)))))
noncomputable def l_58_0 (N : Nat) : TAs sh_58_0 → Option (TAs [.one (.d (.int .i64)), .one (.ptr 160 0), .one (.ptr 192 0), .one (.d (.int .i64)), .one (.d (.int .i64)), .agg [.d (.int .i64), .d (.int .i64), .d (.sl [.int .i64])], .agg [.d (.int .i64), .d (.int .i64), .d (.int .i64)]]) := iter (b_58_0 N) N
noncomputable def lp_58_0 (_ : Nat) : Nat → Option LSum := lookL []
noncomputable def L_58_0 (N : Nat) : LSum := loopSum [1, 2, 4, 6, 7, 8] [160, 192] sh_58_0 o_58_0 (l_58_0 N)
theorem b_ok_58_0 (N : Nat) (ih : TAs sh_58_0 → Option (TAs [.one (.d (.int .i64)), .one (.ptr 160 0), .one (.ptr 192 0), .one (.d (.int .i64)), .one (.d (.int .i64)), .agg [.d (.int .i64), .d (.int .i64), .d (.sl [.int .i64])], .agg [.d (.int .i64), .d (.int .i64), .d (.int .i64)]])) (p : TAs sh_58_0) : b_58_0 N ih p = exec (X_58 N) Go.Proofs.Tryd.f58.ntmps (lp_58_0 N) cb_58_0 0 (roundK [1, 2, 4, 6, 7, 8] [160, 192] sh_58_0 o_58_0 ih) (stOf [1, 2, 4, 6, 7, 8] [160, 192] sh_58_0 p) := by kernel_rfl
theorem L_ok_58_0 (N : Nat) : SegOk Go.Proofs.Tryd.prog laidL 0 Go.Proofs.Tryd.f58.ntmps nd_58_0 (L_58_0 N) :=
  ne_58_0 ▸ loop_ok (cur := 0) (lp := lp_58_0 N) (x_58 N) (fun n => iter (b_58_0 N) n) (fun _ => rfl) (fun n p => b_ok_58_0 N (iter (b_58_0 N) n) p) (loopsAll (by kernel_rfl) (lookOk_nil)) N
noncomputable def lp_58 (N : Nat) : Nat → Option LSum := lookL [(0, L_58_0 N)]
noncomputable def f_58 (N : Nat) (x1 : Int) (x2 : Int) (x3 : List Int) (x4 : Int) : Option (TAs [.agg [.d (.int .i64), .d (.int .i64), .d (.int .i64)], .one (.d (.int .i64))]) :=
  ((f_53 N x1 x2 x3).bind fun r5 => (bif (!r5) then (some ((0, 0, 0), 1)) else (bif (decide (x4 ≤ (-4611686018427387904))) then (some ((0, 0, 0), 2)) else (bif (decide (x4 ≥ 4611686018427387904)) then (some ((0, 0, 0), 2)) else (bif (decide (x4 < 0)) then (bif ((IntKind.i64.wrap ((IntKind.i64.wrap (Int.tdiv x4 1000000000)) * 1000000000)) != x4) then ((f_56 N x1 x2 x3 (-50000)).bind fun r6 => (bif (decide ((IntKind.i64.wrap ((IntKind.i64.wrap (Int.tdiv x4 1000000000)) - 1)) < r6)) then (some ((0, 0, 0), 2)) else ((f_56 N x1 x2 x3 x2).bind fun r7 => (bif (decide ((IntKind.i64.wrap ((IntKind.i64.wrap (Int.tdiv x4 1000000000)) - 1)) ≥ r7)) then (some ((0, 0, 0), 10)) else ((l_58_0 N (x4, (), (), (IntKind.i64.wrap ((IntKind.i64.wrap (Int.tdiv x4 1000000000)) - 1)), (-50000), x2, (x1, x2, x3), (0, 0, 0))).bind fun q19 => ((f_56 N q19.2.2.2.2.2.1.1 q19.2.2.2.2.2.1.2.1 q19.2.2.2.2.2.1.2.2 q19.2.2.2.2.1).bind fun r20 => (some ((q19.2.2.2.2.1, (IntKind.i64.wrap (q19.2.2.2.1 - r20)), (IntKind.i64.wrap (q19.1 - (IntKind.i64.wrap (q19.2.2.2.1 * 1000000000))))), 0)))))))) else ((f_56 N x1 x2 x3 (-50000)).bind fun r21 => (bif (decide ((IntKind.i64.wrap (Int.tdiv x4 1000000000)) < r21)) then (some ((0, 0, 0), 2)) else ((f_56 N x1 x2 x3 x2).bind fun r22 => (bif (decide ((IntKind.i64.wrap (Int.tdiv x4 1000000000)) ≥ r22)) then (some ((0, 0, 0), 10)) else ((l_58_0 N (x4, (), (), (IntKind.i64.wrap (Int.tdiv x4 1000000000)), (-50000), x2, (x1, x2, x3), (0, 0, 0))).bind fun q23 => ((f_56 N q23.2.2.2.2.2.1.1 q23.2.2.2.2.2.1.2.1 q23.2.2.2.2.2.1.2.2 q23.2.2.2.2.1).bind fun r24 => (some ((q23.2.2.2.2.1, (IntKind.i64.wrap (q23.2.2.2.1 - r24)), (IntKind.i64.wrap (q23.1 - (IntKind.i64.wrap (q23.2.2.2.1 * 1000000000))))), 0))))))))) else ((f_56 N x1 x2 x3 (-50000)).bind fun r25 => (bif (decide ((IntKind.i64.wrap (Int.tdiv x4 1000000000)) < r25)) then (some ((0, 0, 0), 2)) else ((f_56 N x1 x2 x3 x2).bind fun r26 => (bif (decide ((IntKind.i64.wrap (Int.tdiv x4 1000000000)) ≥ r26)) then (some ((0, 0, 0), 10)) else ((l_58_0 N (x4, (), (), (IntKind.i64.wrap (Int.tdiv x4 1000000000)), (-50000), x2, (x1, x2, x3), (0, 0, 0))).bind fun q27 => ((f_56 N q27.2.2.2.2.2.1.1 q27.2.2.2.2.2.1.2.1 q27.2.2.2.2.2.1.2.2 q27.2.2.2.2.1).bind fun r28 => (some ((q27.2.2.2.2.1, (IntKind.i64.wrap (q27.2.2.2.1 - r28)), (IntKind.i64.wrap (q27.1 - (IntKind.i64.wrap (q27.2.2.2.1 * 1000000000))))), 0)))))))))))))
theorem ok_58 (N : Nat) (x1 : Int) (x2 : Int) (x3 : List Int) (x4 : Int) : f_58 N x1 x2 x3 x4 = exec (X_58 N) Go.Proofs.Tryd.f58.ntmps (lp_58 N) c_58 0 (fnK (X_58 N) Go.Proofs.Tryd.f58.results.toList 0 [.agg [.d (.int .i64), .d (.int .i64), .d (.int .i64)], .one (.d (.int .i64))]) (fnSt 2 0 [.agg [.d (.int .i64), .d (.int .i64), .d (.sl [.int .i64])], .one (.d (.int .i64))] ((x1, x2, x3), x4)) := by kernel_rfl
noncomputable def S_58 (N : Nat) : Sum := fnSum 2 0 2 [.agg [.d (.int .i64), .d (.int .i64), .d (.sl [.int .i64])], .one (.d (.int .i64))] [.agg [.d (.int .i64), .d (.int .i64), .d (.int .i64)], .one (.d (.int .i64))] (fun p => f_58 N p.1.1 p.1.2.1 p.1.2.2 p.2)
theorem s_58 (N : Nat) : SumOk Go.Proofs.Tryd.prog laidL 58 (S_58 N) :=
  fn_ok (lp := lp_58 N) (x_58 N) Go.Proofs.Tryd.func58 (c := c_58) (by kernel_rfl) (by kernel_rfl) rfl (fun p => ok_58 N p.1.1 p.1.2.1 p.1.2.2 p.2) (loopsAll (by kernel_rfl) ((lookOk_cons (L_ok_58_0 N) lookOk_nil)))
noncomputable def X_59 (_ : Nat) : Ctx := ⟨tyT, lookF [], eqT⟩
noncomputable def c_59 : Code := bodyOf Go.Proofs.Tryd.f59
theorem x_59 (N : Nat) : CtxOk Go.Proofs.Tryd.prog laidL (X_59 N) := ⟨tyOk, eqOk, fun _ _ => fnsOk_nil.get, by kernel_rfl⟩
noncomputable def lp_59 (_ : Nat) : Nat → Option LSum := lookL []
noncomputable def f_59 (_ : Nat) (x1 : Int) (x2 : Int) : Option (TAs [.one (.d (.int .i64)), .one (.d (.int .i64)), .one (.d (.err 95))]) :=
  (bif (decide (x2 < 1)) then (some (0, 0, (some 1))) else (bif (decide (x2 = 0)) then none else (bif (decide (x2 = 0)) then none else (bif (decide ((Int.tmod x1 x2) < 0)) then (some ((IntKind.i64.wrap ((IntKind.i64.wrap (Int.tdiv x1 x2)) - 1)), (IntKind.i64.wrap ((Int.tmod x1 x2) + x2)), none)) else (some ((IntKind.i64.wrap (Int.tdiv x1 x2)), (Int.tmod x1 x2), none))))))
theorem ok_59 (N : Nat) (x1 : Int) (x2 : Int) : f_59 N x1 x2 = exec (X_59 N) Go.Proofs.Tryd.f59.ntmps (lp_59 N) c_59 0 (fnK (X_59 N) Go.Proofs.Tryd.f59.results.toList 0 [.one (.d (.int .i64)), .one (.d (.int .i64)), .one (.d (.err 95))]) (fnSt 2 0 [.one (.d (.int .i64)), .one (.d (.int .i64))] (x1, x2)) := by kernel_rfl
noncomputable def S_59 (N : Nat) : Sum := fnSum 2 0 3 [.one (.d (.int .i64)), .one (.d (.int .i64))] [.one (.d (.int .i64)), .one (.d (.int .i64)), .one (.d (.err 95))] (fun p => f_59 N p.1 p.2)
theorem s_59 (N : Nat) : SumOk Go.Proofs.Tryd.prog laidL 59 (S_59 N) :=
  fn_ok (lp := lp_59 N) (x_59 N) Go.Proofs.Tryd.func59 (c := c_59) (by kernel_rfl) (by kernel_rfl) rfl (fun p => ok_59 N p.1 p.2) (loopsAll (by kernel_rfl) (lookOk_nil))
noncomputable def X_61 (N : Nat) : Ctx := ⟨tyT, lookF [(55, (S_55 N))], eqT⟩
noncomputable def c_61 : Code := bodyOf Go.Proofs.Tryd.f61
theorem x_61 (N : Nat) : CtxOk Go.Proofs.Tryd.prog laidL (X_61 N) := ⟨tyOk, eqOk, fun _ _ => (fnsOk_cons (s_55 N) fnsOk_nil).get, by kernel_rfl⟩
noncomputable def lp_61 (_ : Nat) : Nat → Option LSum := lookL []
noncomputable def f_61 (N : Nat) (x1 : Int) (x2 : Int) (x3 : List Int) (x4 : Int) : Option (TAs [.one (.d (.err 95))]) :=
  ((f_55 N x1 x2 x3).bind fun r5 => (bif (!(Option.isNone r5)) then (some (some 1)) else (bif (decide (x4 < (-50000))) then (some (some 2)) else (bif (decide (x4 ≥ x2)) then (some (some 10)) else (some none)))))
theorem ok_61 (N : Nat) (x1 : Int) (x2 : Int) (x3 : List Int) (x4 : Int) : f_61 N x1 x2 x3 x4 = exec (X_61 N) Go.Proofs.Tryd.f61.ntmps (lp_61 N) c_61 0 (fnK (X_61 N) Go.Proofs.Tryd.f61.results.toList 0 [.one (.d (.err 95))]) (fnSt 2 0 [.agg [.d (.int .i64), .d (.int .i64), .d (.sl [.int .i64])], .one (.d (.int .i64))] ((x1, x2, x3), x4)) := by kernel_rfl
noncomputable def S_61 (N : Nat) : Sum := fnSum 2 0 1 [.agg [.d (.int .i64), .d (.int .i64), .d (.sl [.int .i64])], .one (.d (.int .i64))] [.one (.d (.err 95))] (fun p => f_61 N p.1.1 p.1.2.1 p.1.2.2 p.2)
theorem s_61 (N : Nat) : SumOk Go.Proofs.Tryd.prog laidL 61 (S_61 N) :=
  fn_ok (lp := lp_61 N) (x_61 N) Go.Proofs.Tryd.func61 (c := c_61) (by kernel_rfl) (by kernel_rfl) rfl (fun p => ok_61 N p.1.1 p.1.2.1 p.1.2.2 p.2) (loopsAll (by kernel_rfl) (lookOk_nil))
noncomputable def X_108 (_ : Nat) : Ctx := ⟨tyT, lookF [], eqT⟩
noncomputable def c_108 : Code := bodyOf Go.Proofs.Tryd.f108
theorem x_108 (N : Nat) : CtxOk Go.Proofs.Tryd.prog laidL (X_108 N) := ⟨tyOk, eqOk, fun _ _ => fnsOk_nil.get, by kernel_rfl⟩
noncomputable def lp_108 (_ : Nat) : Nat → Option LSum := lookL []
noncomputable def f_108 (_ : Nat) (x1 : Int) : Option (TAs [.one (.d (.bool))]) :=
  (some (x1 != x1))
theorem ok_108 (N : Nat) (x1 : Int) : f_108 N x1 = exec (X_108 N) Go.Proofs.Tryd.f108.ntmps (lp_108 N) c_108 0 (fnK (X_108 N) Go.Proofs.Tryd.f108.results.toList 0 [.one (.d (.bool))]) (fnSt 1 0 [.one (.d (.int .i64))] x1) := by kernel_rfl
noncomputable def S_108 (N : Nat) : Sum := fnSum 1 0 1 [.one (.d (.int .i64))] [.one (.d (.bool))] (fun p => f_108 N p)
theorem s_108 (N : Nat) : SumOk Go.Proofs.Tryd.prog laidL 108 (S_108 N) :=
  fn_ok (lp := lp_108 N) (x_108 N) Go.Proofs.Tryd.func108 (c := c_108) (by kernel_rfl) (by kernel_rfl) rfl (fun p => ok_108 N p) (loopsAll (by kernel_rfl) (lookOk_nil))
noncomputable def X_126 (N : Nat) : Ctx := ⟨tyT, lookF [(108, (S_108 N))], eqT⟩
noncomputable def c_126 : Code := bodyOf Go.Proofs.Tryd.f126
theorem x_126 (N : Nat) : CtxOk Go.Proofs.Tryd.prog laidL (X_126 N) := ⟨tyOk, eqOk, fun _ _ => (fnsOk_cons (s_108 N) fnsOk_nil).get, by kernel_rfl⟩
noncomputable def lp_126 (_ : Nat) : Nat → Option LSum := lookL []
noncomputable def f_126 (N : Nat) (x1 : Int) (x2 : Int) : Option (TAs [.one (.d (.bool))]) :=
  ((f_108 N x1).bind fun r3 => (bif r3 then ((f_108 N x2).bind fun r4 => (bif (!r4) then (some true) else (some (decide (x1 < x2))))) else (some (decide (x1 < x2)))))
theorem ok_126 (N : Nat) (x1 : Int) (x2 : Int) : f_126 N x1 x2 = exec (X_126 N) Go.Proofs.Tryd.f126.ntmps (lp_126 N) c_126 0 (fnK (X_126 N) Go.Proofs.Tryd.f126.results.toList 0 [.one (.d (.bool))]) (fnSt 2 0 [.one (.d (.int .i64)), .one (.d (.int .i64))] (x1, x2)) := by kernel_rfl
noncomputable def S_126 (N : Nat) : Sum := fnSum 2 0 1 [.one (.d (.int .i64)), .one (.d (.int .i64))] [.one (.d (.bool))] (fun p => f_126 N p.1 p.2)
theorem s_126 (N : Nat) : SumOk Go.Proofs.Tryd.prog laidL 126 (S_126 N) :=
  fn_ok (lp := lp_126 N) (x_126 N) Go.Proofs.Tryd.func126 (c := c_126) (by kernel_rfl) (by kernel_rfl) rfl (fun p => ok_126 N p.1 p.2) (loopsAll (by kernel_rfl) (lookOk_nil))
noncomputable def X_127 (_ : Nat) : Ctx := ⟨tyT, lookF [], eqT⟩
noncomputable def c_127 : Code := bodyOf Go.Proofs.Tryd.f127
theorem x_127 (N : Nat) : CtxOk Go.Proofs.Tryd.prog laidL (X_127 N) := ⟨tyOk, eqOk, fun _ _ => fnsOk_nil.get, by kernel_rfl⟩
noncomputable def lp_127 (_ : Nat) : Nat → Option LSum := lookL []
noncomputable def f_127 (_ : Nat) (x1 : Int) : Option (TAs [.one (.d (.bool))]) :=
  (some (x1 != x1))
theorem ok_127 (N : Nat) (x1 : Int) : f_127 N x1 = exec (X_127 N) Go.Proofs.Tryd.f127.ntmps (lp_127 N) c_127 0 (fnK (X_127 N) Go.Proofs.Tryd.f127.results.toList 0 [.one (.d (.bool))]) (fnSt 1 0 [.one (.d (.int .i64))] x1) := by kernel_rfl
noncomputable def S_127 (N : Nat) : Sum := fnSum 1 0 1 [.one (.d (.int .i64))] [.one (.d (.bool))] (fun p => f_127 N p)
theorem s_127 (N : Nat) : SumOk Go.Proofs.Tryd.prog laidL 127 (S_127 N) :=
  fn_ok (lp := lp_127 N) (x_127 N) Go.Proofs.Tryd.func127 (c := c_127) (by kernel_rfl) (by kernel_rfl) rfl (fun p => ok_127 N p) (loopsAll (by kernel_rfl) (lookOk_nil))
noncomputable def X_22 (N : Nat) : Ctx := ⟨tyT, lookF [(48, (S_48 N)), (26, (S_26 N)), (49, mdS), (50, (S_50 N))], eqT⟩
noncomputable def c_22 : Code := bodyOf Go.Proofs.Tryd.f22
theorem x_22 (N : Nat) : CtxOk Go.Proofs.Tryd.prog laidL (X_22 N) := ⟨tyOk, eqOk, fun _ _ => (fnsOk_cons (s_48 N) (fnsOk_cons (s_26 N) (fnsOk_cons mdS_ok (fnsOk_cons (s_50 N) fnsOk_nil)))).get, by kernel_rfl⟩
noncomputable def lp_22 (_ : Nat) : Nat → Option LSum := lookL []
noncomputable def f_22 (N : Nat) (x1 : Int) (x2 : Int) (x3 : Int) (x4 : Int) : Option (TAs [.one (.d (.int .i64)), .one (.d (.err 95))]) :=
  ((f_48 N x1 x2 x3).bind fun r5 => ((f_26 N x1 x2 x3).bind fun r6 => (bif (!(Option.isNone r6)) then (some (0, (some 1))) else (bif (x1 == 0) then (some (0, (some 1))) else (bif (decide (x4 < 0)) then (some (0, (some 1))) else (bif (decide (x4 > r5)) then (some (0, (some 1))) else (bif (x1 == 1) then ((mdF (IntKind.i64.wrap (r5 - x4)) 1000000000 r5).bind fun r7 => (some ((IntKind.i64.wrap (1000000000 - r7.1)), r7.2))) else (bif (decide (x4 ≥ (IntKind.i64.wrap (Int.tdiv r5 2)))) then ((f_50 N (IntKind.i64.wrap (r5 - x4)) r5).bind fun r8 => (some ((IntKind.i64.wrap (1000000000 - r8.1)), r8.2.2))) else ((f_50 N x4 r5).bind fun r9 => (bif (decide (r9.2.1 > 0)) then (some ((IntKind.i64.wrap (r9.1 + 1)), r9.2.2)) else (some (r9.1, r9.2.2))))))))))))
theorem ok_22 (N : Nat) (x1 : Int) (x2 : Int) (x3 : Int) (x4 : Int) : f_22 N x1 x2 x3 x4 = exec (X_22 N) Go.Proofs.Tryd.f22.ntmps (lp_22 N) c_22 0 (fnK (X_22 N) Go.Proofs.Tryd.f22.results.toList 0 [.one (.d (.int .i64)), .one (.d (.err 95))]) (fnSt 2 0 [.agg [.d (.int .i64), .d (.int .i64), .d (.int .i64)], .one (.d (.int .i64))] ((x1, x2, x3), x4)) := by kernel_rfl
noncomputable def S_22 (N : Nat) : Sum := fnSum 2 0 2 [.agg [.d (.int .i64), .d (.int .i64), .d (.int .i64)], .one (.d (.int .i64))] [.one (.d (.int .i64)), .one (.d (.err 95))] (fun p => f_22 N p.1.1 p.1.2.1 p.1.2.2 p.2)
theorem s_22 (N : Nat) : SumOk Go.Proofs.Tryd.prog laidL 22 (S_22 N) :=
  fn_ok (lp := lp_22 N) (x_22 N) Go.Proofs.Tryd.func22 (c := c_22) (by kernel_rfl) (by kernel_rfl) rfl (fun p => ok_22 N p.1.1 p.1.2.1 p.1.2.2 p.2) (loopsAll (by kernel_rfl) (lookOk_nil))
noncomputable def X_23 (N : Nat) : Ctx := ⟨tyT, lookF [(27, (S_27 N)), (51, (S_51 N)), (52, rmdS)], eqT⟩
noncomputable def c_23 : Code := bodyOf Go.Proofs.Tryd.f23
theorem x_23 (N : Nat) : CtxOk Go.Proofs.Tryd.prog laidL (X_23 N) := ⟨tyOk, eqOk, fun _ _ => (fnsOk_cons (s_27 N) (fnsOk_cons (s_51 N) (fnsOk_cons rmdS_ok fnsOk_nil))).get, by kernel_rfl⟩
noncomputable def lp_23 (_ : Nat) : Nat → Option LSum := lookL []
noncomputable def f_23 (N : Nat) (x1 : Int) (x2 : Int) (x3 : Int) (x4 : Int) : Option (TAs [.one (.d (.int .i64)), .one (.d (.int .i64))]) :=
  ((f_27 N x1 x2 x3).bind fun r5 => (bif (!r5) then (some (0, 1)) else (bif (x1 == 0) then (some (0, 1)) else (bif (decide (x4 < 0)) then (some (0, 1)) else (bif (decide (x4 > (IntKind.i64.wrap ((IntKind.i64.wrap ((IntKind.i64.wrap (x2 + x3)) + 1)) * 1000000000)))) then (some (0, 1)) else (bif (x1 == 1) then ((f_51 N x4 1000000000 (IntKind.i64.wrap ((IntKind.i64.wrap ((IntKind.i64.wrap (x2 + x3)) + 1)) * 1000000000))).bind fun r6 => (some (r6, 0))) else (bif (decide (x4 < (IntKind.i64.wrap (Int.tdiv (IntKind.i64.wrap ((IntKind.i64.wrap ((IntKind.i64.wrap (x2 + x3)) + 1)) * 1000000000)) 2)))) then ((rmdF x4 2000000000 (IntKind.i64.wrap ((IntKind.i64.wrap ((IntKind.i64.wrap (x2 + x3)) + 1)) * 1000000000))).bind fun r7 => ((f_51 N x4 r7.1 (IntKind.i64.wrap ((IntKind.i64.wrap ((IntKind.i64.wrap (x2 + x3)) + 1)) * 1000000000))).bind fun r8 => (some (r8, 0)))) else ((rmdF (IntKind.i64.wrap ((IntKind.i64.wrap ((IntKind.i64.wrap ((IntKind.i64.wrap (x2 + x3)) + 1)) * 1000000000)) - x4)) 2000000000 (IntKind.i64.wrap ((IntKind.i64.wrap ((IntKind.i64.wrap (x2 + x3)) + 1)) * 1000000000))).bind fun r9 => ((rmdF (IntKind.i64.wrap ((IntKind.i64.wrap ((IntKind.i64.wrap ((IntKind.i64.wrap (x2 + x3)) + 1)) * 1000000000)) - x4)) r9.1 (IntKind.i64.wrap ((IntKind.i64.wrap ((IntKind.i64.wrap (x2 + x3)) + 1)) * 1000000000))).bind fun r10 => (some ((IntKind.i64.wrap (1000000000 - r10.1)), 0)))))))))))
theorem ok_23 (N : Nat) (x1 : Int) (x2 : Int) (x3 : Int) (x4 : Int) : f_23 N x1 x2 x3 x4 = exec (X_23 N) Go.Proofs.Tryd.f23.ntmps (lp_23 N) c_23 0 (fnK (X_23 N) Go.Proofs.Tryd.f23.results.toList 0 [.one (.d (.int .i64)), .one (.d (.int .i64))]) (fnSt 2 0 [.agg [.d (.int .i64), .d (.int .i64), .d (.int .i64)], .one (.d (.int .i64))] ((x1, x2, x3), x4)) := by kernel_rfl
noncomputable def S_23 (N : Nat) : Sum := fnSum 2 0 2 [.agg [.d (.int .i64), .d (.int .i64), .d (.int .i64)], .one (.d (.int .i64))] [.one (.d (.int .i64)), .one (.d (.int .i64))] (fun p => f_23 N p.1.1 p.1.2.1 p.1.2.2 p.2)
theorem s_23 (N : Nat) : SumOk Go.Proofs.Tryd.prog laidL 23 (S_23 N) :=
  fn_ok (lp := lp_23 N) (x_23 N) Go.Proofs.Tryd.func23 (c := c_23) (by kernel_rfl) (by kernel_rfl) rfl (fun p => ok_23 N p.1.1 p.1.2.1 p.1.2.2 p.2) (loopsAll (by kernel_rfl) (lookOk_nil))
noncomputable def X_29 (N : Nat) : Ctx := ⟨tyT, lookF [(26, (S_26 N)), (55, (S_55 N)), (54, (S_54 N))], eqT⟩
noncomputable def c_29 : Code := bodyOf Go.Proofs.Tryd.f29
theorem x_29 (N : Nat) : CtxOk Go.Proofs.Tryd.prog laidL (X_29 N) := ⟨tyOk, eqOk, fun _ _ => (fnsOk_cons (s_26 N) (fnsOk_cons (s_55 N) (fnsOk_cons (s_54 N) fnsOk_nil))).get, by kernel_rfl⟩
noncomputable def nd_29_0 : Code := loopAt 0 0 c_29
noncomputable def cb_29_0 : Code := unloop nd_29_0
theorem ne_29_0 : nd_29_0 = .loop cb_29_0 := by kernel_rfl
noncomputable def sh_29_0 : List ShA := [.one (.ptr 160 0), .one (.ptr 176 0), .one (.d (.int .i64)), .one (.d (.int .i64)), .one (.d (.int .i64)), .agg [.d (.int .i64), .d (.int .i64), .d (.int .i64)], .agg [.d (.int .i64), .d (.int .i64), .d (.sl [.int .i64])]]
noncomputable def o_29_0 : OutK 0 (((TAs [.one (.d (.err 95))]) ⊕ (TAs []))) := (outTwo (outOne 0 .ret [4] [] [.one (.d (.err 95))]) (outOne 0 (.exit 0) [] [] []))
noncomputable def b_29_0 (N : Nat) (ih : TAs sh_29_0 → Option (((TAs [.one (.d (.err 95))]) ⊕ (TAs [])))) : TAs sh_29_0 → Option (((TAs [.one (.d (.err 95))]) ⊕ (TAs []))) := fun (_, _, y9, y10, y11, (y12, y13, y14), (y15, y16, y17)) =>
  (bif (decide (y11 < y10)) then ((f_54 N y12 y13 y14 y15 y16 y17 y11).bind fun r18 => (bif (y12 != 0) then (bif (decide (r18.1 < y9)) then (some (.inl (some 9))) else (ih ((), (), r18.2, y10, (IntKind.i64.wrap (y11 + 1)), (y12, y13, y14), (y15, y16, y17)))) else (ih ((), (), r18.2, y10, (IntKind.i64.wrap (y11 + 1)), (y12, y13, y14), (y15, y16, y17))))) else (some (.inr ())))
noncomputable def l_29_0 (N : Nat) : TAs sh_29_0 → Option (((TAs [.one (.d (.err 95))]) ⊕ (TAs []))) := iter (b_29_0 N) N
noncomputable def lp_29_0 (_ : Nat) : Nat → Option LSum := lookL []
noncomputable def L_29_0 (N : Nat) : LSum := loopSum [2, 3, 5, 20, 21] [160, 176] sh_29_0 o_29_0 (l_29_0 N)
theorem b_ok_29_0 (N : Nat) (ih : TAs sh_29_0 → Option (((TAs [.one (.d (.err 95))]) ⊕ (TAs [])))) (p : TAs sh_29_0) : b_29_0 N ih p = exec (X_29 N) Go.Proofs.Tryd.f29.ntmps (lp_29_0 N) cb_29_0 0 (roundK [2, 3, 5, 20, 21] [160, 176] sh_29_0 o_29_0 ih) (stOf [2, 3, 5, 20, 21] [160, 176] sh_29_0 p) := by kernel_rfl
theorem L_ok_29_0 (N : Nat) : SegOk Go.Proofs.Tryd.prog laidL 0 Go.Proofs.Tryd.f29.ntmps nd_29_0 (L_29_0 N) :=
  ne_29_0 ▸ loop_ok (cur := 0) (lp := lp_29_0 N) (x_29 N) (fun n => iter (b_29_0 N) n) (fun _ => rfl) (fun n p => b_ok_29_0 N (iter (b_29_0 N) n) p) (loopsAll (by kernel_rfl) (lookOk_nil)) N
noncomputable def lp_29 (N : Nat) : Nat → Option LSum := lookL [(0, L_29_0 N)]
noncomputable def f_29 (N : Nat) (x1 : Int) (x2 : Int) (x3 : Int) (x4 : Int) (x5 : Int) (x6 : List Int) : Option (TAs [.one (.d (.err 95))]) :=
  ((f_26 N x1 x2 x3).bind fun r7 => (bif (!(Option.isNone r7)) then (some (some 1)) else ((f_55 N x4 x5 x6).bind fun r8 => (bif (!(Option.isNone r8)) then (some (some 1)) else ((l_29_0 N ((), (), (-9223372036854775808), (List.length x6 : Int), 0, (x1, x2, x3), (x4, x5, x6))).bind fun q => (match q with | .inl q19 => (some q19) | .inr _ => (some none)))))))
theorem ok_29 (N : Nat) (x1 : Int) (x2 : Int) (x3 : Int) (x4 : Int) (x5 : Int) (x6 : List Int) : f_29 N x1 x2 x3 x4 x5 x6 = exec (X_29 N) Go.Proofs.Tryd.f29.ntmps (lp_29 N) c_29 0 (fnK (X_29 N) Go.Proofs.Tryd.f29.results.toList 0 [.one (.d (.err 95))]) (fnSt 2 0 [.agg [.d (.int .i64), .d (.int .i64), .d (.int .i64)], .agg [.d (.int .i64), .d (.int .i64), .d (.sl [.int .i64])]] ((x1, x2, x3), (x4, x5, x6))) := by kernel_rfl
noncomputable def S_29 (N : Nat) : Sum := fnSum 2 0 1 [.agg [.d (.int .i64), .d (.int .i64), .d (.int .i64)], .agg [.d (.int .i64), .d (.int .i64), .d (.sl [.int .i64])]] [.one (.d (.err 95))] (fun p => f_29 N p.1.1 p.1.2.1 p.1.2.2 p.2.1 p.2.2.1 p.2.2.2)
theorem s_29 (N : Nat) : SumOk Go.Proofs.Tryd.prog laidL 29 (S_29 N) :=
  fn_ok (lp := lp_29 N) (x_29 N) Go.Proofs.Tryd.func29 (c := c_29) (by kernel_rfl) (by kernel_rfl) rfl (fun p => ok_29 N p.1.1 p.1.2.1 p.1.2.2 p.2.1 p.2.2.1 p.2.2.2) (loopsAll (by kernel_rfl) ((lookOk_cons (L_ok_29_0 N) lookOk_nil)))
noncomputable def X_30 (N : Nat) : Ctx := ⟨tyT, lookF [(56, (S_56 N))], eqT⟩
noncomputable def c_30 : Code := bodyOf Go.Proofs.Tryd.f30
theorem x_30 (N : Nat) : CtxOk Go.Proofs.Tryd.prog laidL (X_30 N) := ⟨tyOk, eqOk, fun _ _ => (fnsOk_cons (s_56 N) fnsOk_nil).get, by kernel_rfl⟩
noncomputable def lp_30 (_ : Nat) : Nat → Option LSum := lookL []
noncomputable def f_30 (N : Nat) (_x1 : Int) (x2 : Int) (x3 : Int) (x4 : Int) (x5 : Int) (x6 : List Int) (x7 : Int) : Option (TAs [.one (.d (.int .i64)), .one (.d (.int .i64))]) :=
  (bif (decide (0 ≤ x7 ∧ x7 < (List.length x6 : Int))) then ((f_56 N x4 x5 x6 (IntKind.i64.wrap ((List.getD x6 (Int.toNat x7) 0) + 1))).bind fun r8 => (some ((IntKind.i64.wrap ((IntKind.i64.wrap ((IntKind.i64.wrap (r8 - 1)) - x2)) * 1000000000)), (IntKind.i64.wrap ((IntKind.i64.wrap (r8 + x3)) * 1000000000))))) else none)
theorem ok_30 (N : Nat) (x1 : Int) (x2 : Int) (x3 : Int) (x4 : Int) (x5 : Int) (x6 : List Int) (x7 : Int) : f_30 N x1 x2 x3 x4 x5 x6 x7 = exec (X_30 N) Go.Proofs.Tryd.f30.ntmps (lp_30 N) c_30 0 (fnK (X_30 N) Go.Proofs.Tryd.f30.results.toList 0 [.one (.d (.int .i64)), .one (.d (.int .i64))]) (fnSt 3 0 [.agg [.d (.int .i64), .d (.int .i64), .d (.int .i64)], .agg [.d (.int .i64), .d (.int .i64), .d (.sl [.int .i64])], .one (.d (.int .i64))] ((x1, x2, x3), (x4, x5, x6), x7)) := by kernel_rfl
noncomputable def S_30 (N : Nat) : Sum := fnSum 3 0 2 [.agg [.d (.int .i64), .d (.int .i64), .d (.int .i64)], .agg [.d (.int .i64), .d (.int .i64), .d (.sl [.int .i64])], .one (.d (.int .i64))] [.one (.d (.int .i64)), .one (.d (.int .i64))] (fun p => f_30 N p.1.1 p.1.2.1 p.1.2.2 p.2.1.1 p.2.1.2.1 p.2.1.2.2 p.2.2)
theorem s_30 (N : Nat) : SumOk Go.Proofs.Tryd.prog laidL 30 (S_30 N) :=
  fn_ok (lp := lp_30 N) (x_30 N) Go.Proofs.Tryd.func30 (c := c_30) (by kernel_rfl) (by kernel_rfl) rfl (fun p => ok_30 N p.1.1 p.1.2.1 p.1.2.2 p.2.1.1 p.2.1.2.1 p.2.1.2.2 p.2.2) (loopsAll (by kernel_rfl) (lookOk_nil))
noncomputable def X_96 (N : Nat) : Ctx := ⟨tyT, lookF [(126, (S_126 N)), (127, (S_127 N))], eqT⟩
noncomputable def c_96 : Code := bodyOf Go.Proofs.Tryd.f96
theorem x_96 (N : Nat) : CtxOk Go.Proofs.Tryd.prog laidL (X_96 N) := ⟨tyOk, eqOk, fun _ _ => (fnsOk_cons (s_126 N) (fnsOk_cons (s_127 N) fnsOk_nil)).get, by kernel_rfl⟩
noncomputable def nd_96_0 : Code := loopAt 0 0 c_96
noncomputable def cb_96_0 : Code := unloop nd_96_0
theorem ne_96_0 : nd_96_0 = .loop cb_96_0 := by kernel_rfl
noncomputable def sh_96_0 : List ShA := [.one (.d (.sl [.int .i64])), .one (.d (.int .i64)), .one (.d (.int .i64)), .one (.d (.int .i64)), .one (.d (.int .i64))]
noncomputable def o_96_0 : OutK 0 (TAs [.one (.d (.sl [.int .i64])), .one (.d (.int .i64)), .one (.d (.int .i64)), .one (.d (.int .i64))]) := (outOne 0 (.exit 0) [0, 1, 6, 7] [] [.one (.d (.sl [.int .i64])), .one (.d (.int .i64)), .one (.d (.int .i64)), .one (.d (.int .i64))])
noncomputable def b_96_0 (N : Nat) (ih : TAs sh_96_0 → Option (TAs [.one (.d (.sl [.int .i64])), .one (.d (.int .i64)), .one (.d (.int .i64)), .one (.d (.int .i64))])) : TAs sh_96_0 → Option (TAs [.one (.d (.sl [.int .i64])), .one (.d (.int .i64)), .one (.d (.int .i64)), .one (.d (.int .i64))]) := fun (y3, y4, y5, y6, y7) =>
  (bif (decide (y6 < y7)) then (bif (decide (0 ≤ (IntKind.i64.wrap ((IntKind.u64.wrap (IntKind.i64.wrap (y6 + y7))) / 2 ^ (min (Int.toNat 1) IntKind.u64.bits))) ∧ (IntKind.i64.wrap ((IntKind.u64.wrap (IntKind.i64.wrap (y6 + y7))) / 2 ^ (min (Int.toNat 1) IntKind.u64.bits))) < (List.length y3 : Int))) then ((f_126 N (List.getD y3 (Int.toNat (IntKind.i64.wrap ((IntKind.u64.wrap (IntKind.i64.wrap (y6 + y7))) / 2 ^ (min (Int.toNat 1) IntKind.u64.bits)))) 0) y4).bind fun r8 => (bif r8 then (ih (y3, y4, y5, (IntKind.i64.wrap ((IntKind.i64.wrap ((IntKind.u64.wrap (IntKind.i64.wrap (y6 + y7))) / 2 ^ (min (Int.toNat 1) IntKind.u64.bits))) + 1)), y7)) else (ih (y3, y4, y5, y6, (IntKind.i64.wrap ((IntKind.u64.wrap (IntKind.i64.wrap (y6 + y7))) / 2 ^ (min (Int.toNat 1) IntKind.u64.bits))))))) else none) else (some ((y3, y4, y5, y6))))
noncomputable def l_96_0 (N : Nat) : TAs sh_96_0 → Option (TAs [.one (.d (.sl [.int .i64])), .one (.d (.int .i64)), .one (.d (.int .i64)), .one (.d (.int .i64))]) := iter (b_96_0 N) N
noncomputable def lp_96_0 (_ : Nat) : Nat → Option LSum := lookL []
noncomputable def L_96_0 (N : Nat) : LSum := loopSum [0, 1, 6, 7, 8] [] sh_96_0 o_96_0 (l_96_0 N)
theorem b_ok_96_0 (N : Nat) (ih : TAs sh_96_0 → Option (TAs [.one (.d (.sl [.int .i64])), .one (.d (.int .i64)), .one (.d (.int .i64)), .one (.d (.int .i64))])) (p : TAs sh_96_0) : b_96_0 N ih p = exec (X_96 N) Go.Proofs.Tryd.f96.ntmps (lp_96_0 N) cb_96_0 0 (roundK [0, 1, 6, 7, 8] [] sh_96_0 o_96_0 ih) (stOf [0, 1, 6, 7, 8] [] sh_96_0 p) := by kernel_rfl
theorem L_ok_96_0 (N : Nat) : SegOk Go.Proofs.Tryd.prog laidL 0 Go.Proofs.Tryd.f96.ntmps nd_96_0 (L_96_0 N) :=
  ne_96_0 ▸ loop_ok (cur := 0) (lp := lp_96_0 N) (x_96 N) (fun n => iter (b_96_0 N) n) (fun _ => rfl) (fun n p => b_ok_96_0 N (iter (b_96_0 N) n) p) (loopsAll (by kernel_rfl) (lookOk_nil)) N
noncomputable def lp_96 (N : Nat) : Nat → Option LSum := lookL [(0, L_96_0 N)]
noncomputable def f_96 (N : Nat) (x1 : List Int) (x2 : Int) : Option (TAs [.one (.d (.int .i64)), .one (.d (.bool))]) :=
  ((l_96_0 N (x1, x2, (List.length x1 : Int), 0, (List.length x1 : Int))).bind fun q9 => (bif (decide (q9.2.2.2 < q9.2.2.1)) then (bif (decide (0 ≤ q9.2.2.2 ∧ q9.2.2.2 < (List.length q9.1 : Int))) then (bif ((List.getD q9.1 (Int.toNat q9.2.2.2) 0) == q9.2.1) then (some (q9.2.2.2, true)) else (bif (decide (0 ≤ q9.2.2.2 ∧ q9.2.2.2 < (List.length q9.1 : Int))) then ((f_127 N (List.getD q9.1 (Int.toNat q9.2.2.2) 0)).bind fun r10 => (bif r10 then ((f_127 N q9.2.1).bind fun r11 => (some (q9.2.2.2, r11))) else (some (q9.2.2.2, false)))) else none)) else none) else (some (q9.2.2.2, false))))
theorem ok_96 (N : Nat) (x1 : List Int) (x2 : Int) : f_96 N x1 x2 = exec (X_96 N) Go.Proofs.Tryd.f96.ntmps (lp_96 N) c_96 0 (fnK (X_96 N) Go.Proofs.Tryd.f96.results.toList 0 [.one (.d (.int .i64)), .one (.d (.bool))]) (fnSt 2 0 [.one (.d (.sl [.int .i64])), .one (.d (.int .i64))] (x1, x2)) := by kernel_rfl
noncomputable def S_96 (N : Nat) : Sum := fnSum 2 0 2 [.one (.d (.sl [.int .i64])), .one (.d (.int .i64))] [.one (.d (.int .i64)), .one (.d (.bool))] (fun p => f_96 N p.1 p.2)
theorem s_96 (N : Nat) : SumOk Go.Proofs.Tryd.prog laidL 96 (S_96 N) :=
  fn_ok (lp := lp_96 N) (x_96 N) Go.Proofs.Tryd.func96 (c := c_96) (by kernel_rfl) (by kernel_rfl) rfl (fun p => ok_96 N p.1 p.2) (loopsAll (by kernel_rfl) ((lookOk_cons (L_ok_96_0 N) lookOk_nil)))
noncomputable def X_24 (N : Nat) : Ctx := ⟨tyT, lookF [(27, (S_27 N)), (53, (S_53 N)), (30, (S_30 N))], eqT⟩
noncomputable def c_24 : Code := bodyOf Go.Proofs.Tryd.f24
theorem x_24 (N : Nat) : CtxOk Go.Proofs.Tryd.prog laidL (X_24 N) := ⟨tyOk, eqOk, fun _ _ => (fnsOk_cons (s_27 N) (fnsOk_cons (s_53 N) (fnsOk_cons (s_30 N) fnsOk_nil))).get, by kernel_rfl⟩
noncomputable def nd_24_0 : Code := loopAt 0 0 c_24
noncomputable def cb_24_0 : Code := unloop nd_24_0
theorem ne_24_0 : nd_24_0 = .loop cb_24_0 := by kernel_rfl
noncomputable def sh_24_0 : List ShA := [.one (.ptr 160 0), .one (.ptr 176 0), .one (.d (.int .i64)), .agg [.d (.int .i64), .d (.int .i64), .d (.int .i64)], .agg [.d (.int .i64), .d (.int .i64), .d (.sl [.int .i64])]]
noncomputable def o_24_0 : OutK 0 (((TAs [.one (.d (.int .i64))]) ⊕ (TAs []))) := (outTwo (outOne 0 .ret [4] [] [.one (.d (.int .i64))]) (outOne 0 (.exit 0) [] [] []))
noncomputable def b_24_0 (N : Nat) (ih : TAs sh_24_0 → Option (((TAs [.one (.d (.int .i64))]) ⊕ (TAs [])))) : TAs sh_24_0 → Option (((TAs [.one (.d (.int .i64))]) ⊕ (TAs []))) := fun (_, _, y9, (y10, y11, y12), (y13, y14, y15)) =>
  (bif (decide (y9 < (List.length y15 : Int))) then ((f_30 N y10 y11 y12 y13 y14 y15 (IntKind.i64.wrap (y9 - 1))).bind fun r16 => ((f_30 N y10 y11 y12 y13 y14 y15 y9).bind fun r17 => (bif (decide (y10 > 0)) then (bif (decide (r17.1 < r16.2)) then (some (.inl 9)) else (ih ((), (), (IntKind.i64.wrap (y9 + 1)), (y10, y11, y12), (y13, y14, y15)))) else (ih ((), (), (IntKind.i64.wrap (y9 + 1)), (y10, y11, y12), (y13, y14, y15)))))) else (some (.inr ())))
noncomputable def l_24_0 (N : Nat) : TAs sh_24_0 → Option (((TAs [.one (.d (.int .i64))]) ⊕ (TAs []))) := iter (b_24_0 N) N
noncomputable def lp_24_0 (_ : Nat) : Nat → Option LSum := lookL []
noncomputable def L_24_0 (N : Nat) : LSum := loopSum [2, 3, 5] [160, 176] sh_24_0 o_24_0 (l_24_0 N)
theorem b_ok_24_0 (N : Nat) (ih : TAs sh_24_0 → Option (((TAs [.one (.d (.int .i64))]) ⊕ (TAs [])))) (p : TAs sh_24_0) : b_24_0 N ih p = exec (X_24 N) Go.Proofs.Tryd.f24.ntmps (lp_24_0 N) cb_24_0 0 (roundK [2, 3, 5] [160, 176] sh_24_0 o_24_0 ih) (stOf [2, 3, 5] [160, 176] sh_24_0 p) := by kernel_rfl
theorem L_ok_24_0 (N : Nat) : SegOk Go.Proofs.Tryd.prog laidL 0 Go.Proofs.Tryd.f24.ntmps nd_24_0 (L_24_0 N) :=
  ne_24_0 ▸ loop_ok (cur := 0) (lp := lp_24_0 N) (x_24 N) (fun n => iter (b_24_0 N) n) (fun _ => rfl) (fun n p => b_ok_24_0 N (iter (b_24_0 N) n) p) (loopsAll (by kernel_rfl) (lookOk_nil)) N
noncomputable def lp_24 (N : Nat) : Nat → Option LSum := lookL [(0, L_24_0 N)]
noncomputable def f_24 (N : Nat) (x1 : Int) (x2 : Int) (x3 : Int) (x4 : Int) (x5 : Int) (x6 : List Int) : Option (TAs [.one (.d (.int .i64))]) :=
  ((f_27 N x1 x2 x3).bind fun r7 => (bif (!r7) then (some 1) else ((f_53 N x4 x5 x6).bind fun r8 => (bif (!r8) then (some 1) else ((l_24_0 N ((), (), 1, (x1, x2, x3), (x4, x5, x6))).bind fun q => (match q with | .inl q18 => (some q18) | .inr _ => (some 0)))))))
theorem ok_24 (N : Nat) (x1 : Int) (x2 : Int) (x3 : Int) (x4 : Int) (x5 : Int) (x6 : List Int) : f_24 N x1 x2 x3 x4 x5 x6 = exec (X_24 N) Go.Proofs.Tryd.f24.ntmps (lp_24 N) c_24 0 (fnK (X_24 N) Go.Proofs.Tryd.f24.results.toList 0 [.one (.d (.int .i64))]) (fnSt 2 0 [.agg [.d (.int .i64), .d (.int .i64), .d (.int .i64)], .agg [.d (.int .i64), .d (.int .i64), .d (.sl [.int .i64])]] ((x1, x2, x3), (x4, x5, x6))) := by kernel_rfl
noncomputable def S_24 (N : Nat) : Sum := fnSum 2 0 1 [.agg [.d (.int .i64), .d (.int .i64), .d (.int .i64)], .agg [.d (.int .i64), .d (.int .i64), .d (.sl [.int .i64])]] [.one (.d (.int .i64))] (fun p => f_24 N p.1.1 p.1.2.1 p.1.2.2 p.2.1 p.2.2.1 p.2.2.2)
theorem s_24 (N : Nat) : SumOk Go.Proofs.Tryd.prog laidL 24 (S_24 N) :=
  fn_ok (lp := lp_24 N) (x_24 N) Go.Proofs.Tryd.func24 (c := c_24) (by kernel_rfl) (by kernel_rfl) rfl (fun p => ok_24 N p.1.1 p.1.2.1 p.1.2.2 p.2.1 p.2.2.1 p.2.2.2) (loopsAll (by kernel_rfl) ((lookOk_cons (L_ok_24_0 N) lookOk_nil)))
noncomputable def X_25 (N : Nat) : Ctx := ⟨tyT, lookF [(29, (S_29 N)), (54, (S_54 N))], eqT⟩
noncomputable def c_25 : Code := bodyOf Go.Proofs.Tryd.f25
theorem x_25 (N : Nat) : CtxOk Go.Proofs.Tryd.prog laidL (X_25 N) := ⟨tyOk, eqOk, fun _ _ => (fnsOk_cons (s_29 N) (fnsOk_cons (s_54 N) fnsOk_nil)).get, by kernel_rfl⟩
noncomputable def lp_25 (_ : Nat) : Nat → Option LSum := lookL []
noncomputable def f_25 (N : Nat) (x1 : Int) (x2 : Int) (x3 : Int) (x4 : Int) (x5 : Int) (x6 : List Int) (x7 : Int) : Option (TAs [.one (.d (.int .i64)), .one (.d (.int .i64)), .one (.d (.err 95))]) :=
  ((f_29 N x1 x2 x3 x4 x5 x6).bind fun r8 => (bif (!(Option.isNone r8)) then (some (0, 0, r8)) else (bif (x1 == 0) then (some (0, 0, (some 1))) else (bif (decide (x7 < 0)) then (some (0, 0, (some 1))) else (bif (decide (x7 ≥ (List.length x6 : Int))) then (some (0, 0, (some 1))) else ((f_54 N x1 x2 x3 x4 x5 x6 x7).bind fun r9 => (some ((IntKind.i64.wrap (r9.1 * 1000000000)), (IntKind.i64.wrap (r9.2 * 1000000000)), none))))))))
theorem ok_25 (N : Nat) (x1 : Int) (x2 : Int) (x3 : Int) (x4 : Int) (x5 : Int) (x6 : List Int) (x7 : Int) : f_25 N x1 x2 x3 x4 x5 x6 x7 = exec (X_25 N) Go.Proofs.Tryd.f25.ntmps (lp_25 N) c_25 0 (fnK (X_25 N) Go.Proofs.Tryd.f25.results.toList 0 [.one (.d (.int .i64)), .one (.d (.int .i64)), .one (.d (.err 95))]) (fnSt 3 0 [.agg [.d (.int .i64), .d (.int .i64), .d (.int .i64)], .agg [.d (.int .i64), .d (.int .i64), .d (.sl [.int .i64])], .one (.d (.int .i64))] ((x1, x2, x3), (x4, x5, x6), x7)) := by kernel_rfl
noncomputable def S_25 (N : Nat) : Sum := fnSum 3 0 3 [.agg [.d (.int .i64), .d (.int .i64), .d (.int .i64)], .agg [.d (.int .i64), .d (.int .i64), .d (.sl [.int .i64])], .one (.d (.int .i64))] [.one (.d (.int .i64)), .one (.d (.int .i64)), .one (.d (.err 95))] (fun p => f_25 N p.1.1 p.1.2.1 p.1.2.2 p.2.1.1 p.2.1.2.1 p.2.1.2.2 p.2.2)
theorem s_25 (N : Nat) : SumOk Go.Proofs.Tryd.prog laidL 25 (S_25 N) :=
  fn_ok (lp := lp_25 N) (x_25 N) Go.Proofs.Tryd.func25 (c := c_25) (by kernel_rfl) (by kernel_rfl) rfl (fun p => ok_25 N p.1.1 p.1.2.1 p.1.2.2 p.2.1.1 p.2.1.2.1 p.2.1.2.2 p.2.2) (loopsAll (by kernel_rfl) (lookOk_nil))
noncomputable def X_32 (N : Nat) : Ctx := ⟨tyT, lookF [(24, (S_24 N)), (58, (S_58 N)), (30, (S_30 N)), (23, (S_23 N)), (56, (S_56 N))], eqT⟩
noncomputable def c_32 : Code := bodyOf Go.Proofs.Tryd.f32
theorem x_32 (N : Nat) : CtxOk Go.Proofs.Tryd.prog laidL (X_32 N) := ⟨tyOk, eqOk, fun _ _ => (fnsOk_cons (s_24 N) (fnsOk_cons (s_58 N) (fnsOk_cons (s_30 N) (fnsOk_cons (s_23 N) (fnsOk_cons (s_56 N) fnsOk_nil))))).get, by kernel_rfl⟩
noncomputable def nd_32_0 : Code := loopAt 0 0 c_32
noncomputable def cb_32_0 : Code := unloop nd_32_0
theorem ne_32_0 : nd_32_0 = .loop cb_32_0 := by kernel_rfl
noncomputable def sh_32_0 : List ShA := [.one (.d (.int .i64)), .one (.ptr 176 0), .one (.ptr 192 0), .one (.ptr 272 0), .one (.d (.int .i64)), .agg [.d (.int .i64), .d (.int .i64), .d (.int .i64)], .agg [.d (.int .i64), .d (.int .i64), .d (.sl [.int .i64])], .agg [.d (.int .i64), .d (.int .i64), .d (.int .i64)]]
noncomputable def o_32_0 : OutK 0 (((TAs [.one (.d (.int .i64)), .one (.d (.int .i64))]) ⊕ (TAs [.one (.d (.int .i64)), .one (.ptr 192 0), .one (.ptr 272 0), .agg [.d (.int .i64), .d (.int .i64), .d (.sl [.int .i64])], .agg [.d (.int .i64), .d (.int .i64), .d (.int .i64)]]))) := (outTwo (outOne 0 .ret [6, 7] [] [.one (.d (.int .i64)), .one (.d (.int .i64))]) (outOne 0 (.exit 0) [2, 4, 9] [192, 272] [.one (.d (.int .i64)), .one (.ptr 192 0), .one (.ptr 272 0), .agg [.d (.int .i64), .d (.int .i64), .d (.sl [.int .i64])], .agg [.d (.int .i64), .d (.int .i64), .d (.int .i64)]]))
noncomputable def b_32_0 (N : Nat) (ih : TAs sh_32_0 → Option (((TAs [.one (.d (.int .i64)), .one (.d (.int .i64))]) ⊕ (TAs [.one (.d (.int .i64)), .one (.ptr 192 0), .one (.ptr 272 0), .agg [.d (.int .i64), .d (.int .i64), .d (.sl [.int .i64])], .agg [.d (.int .i64), .d (.int .i64), .d (.int .i64)]])))) : TAs sh_32_0 → Option (((TAs [.one (.d (.int .i64)), .one (.d (.int .i64))]) ⊕ (TAs [.one (.d (.int .i64)), .one (.ptr 192 0), .one (.ptr 272 0), .agg [.d (.int .i64), .d (.int .i64), .d (.sl [.int .i64])], .agg [.d (.int .i64), .d (.int .i64), .d (.int .i64)]]))) := fun (y10, _, _, _, y11, (y12, y13, y14), (y15, y16, y17), (y18, y19, y20)) =>
  (bif (decide (y11 < (List.length y17 : Int))) then (bif (decide (y12 > 0)) then ((f_30 N y12 y13 y14 y15 y16 y17 y11).bind fun r21 => (bif (decide (y10 ≥ r21.1)) then (bif (decide (y10 < r21.2)) then ((f_23 N y12 y13 y14 (IntKind.i64.wrap (y10 - r21.1))).bind fun r22 => (bif (decide (0 ≤ y11 ∧ y11 < (List.length y17 : Int))) then ((f_56 N y15 y16 y17 (List.getD y17 (Int.toNat y11) 0)).bind fun r23 => (bif (decide (0 ≤ y11 ∧ y11 < (List.length y17 : Int))) then (some (.inl ((IntKind.i64.wrap ((IntKind.i64.wrap (y10 - (IntKind.i64.wrap ((IntKind.i64.wrap (r23 - (IntKind.i64.wrap (86400 * (List.getD y17 (Int.toNat y11) 0))))) * 1000000000)))) - r22.1)), 0))) else none)) else none)) else (ih (y10, (), (), (), (IntKind.i64.wrap (y11 + 1)), (y12, y13, y14), (y15, y16, y17), (y18, y19, y20)))) else (ih (y10, (), (), (), (IntKind.i64.wrap (y11 + 1)), (y12, y13, y14), (y15, y16, y17), (y18, y19, y20))))) else (some (.inr (y10, (), (), (y15, y16, y17), (y18, y19, y20))))) else (some (.inr (y10, (), (), (y15, y16, y17), (y18, y19, y20)))))
noncomputable def l_32_0 (N : Nat) : TAs sh_32_0 → Option (((TAs [.one (.d (.int .i64)), .one (.d (.int .i64))]) ⊕ (TAs [.one (.d (.int .i64)), .one (.ptr 192 0), .one (.ptr 272 0), .agg [.d (.int .i64), .d (.int .i64), .d (.sl [.int .i64])], .agg [.d (.int .i64), .d (.int .i64), .d (.int .i64)]]))) := iter (b_32_0 N) N
noncomputable def lp_32_0 (_ : Nat) : Nat → Option LSum := lookL []
noncomputable def L_32_0 (N : Nat) : LSum := loopSum [2, 3, 4, 9, 10] [176, 192, 272] sh_32_0 o_32_0 (l_32_0 N)
theorem b_ok_32_0 (N : Nat) (ih : TAs sh_32_0 → Option (((TAs [.one (.d (.int .i64)), .one (.d (.int .i64))]) ⊕ (TAs [.one (.d (.int .i64)), .one (.ptr 192 0), .one (.ptr 272 0), .agg [.d (.int .i64), .d (.int .i64), .d (.sl [.int .i64])], .agg [.d (.int .i64), .d (.int .i64), .d (.int .i64)]])))) (p : TAs sh_32_0) : b_32_0 N ih p = exec (X_32 N) Go.Proofs.Tryd.f32.ntmps (lp_32_0 N) cb_32_0 0 (roundK [2, 3, 4, 9, 10] [176, 192, 272] sh_32_0 o_32_0 ih) (stOf [2, 3, 4, 9, 10] [176, 192, 272] sh_32_0 p) := by kernel_rfl
theorem L_ok_32_0 (N : Nat) : SegOk Go.Proofs.Tryd.prog laidL 0 Go.Proofs.Tryd.f32.ntmps nd_32_0 (L_32_0 N) :=
  ne_32_0 ▸ loop_ok (cur := 0) (lp := lp_32_0 N) (x_32 N) (fun n => iter (b_32_0 N) n) (fun _ => rfl) (fun n p => b_ok_32_0 N (iter (b_32_0 N) n) p) (loopsAll (by kernel_rfl) (lookOk_nil)) N
noncomputable def lp_32 (N : Nat) : Nat → Option LSum := lookL [(0, L_32_0 N)]
noncomputable def f_32 (N : Nat) (x1 : Int) (x2 : Int) (x3 : Int) (x4 : Int) (x5 : Int) (x6 : List Int) (x7 : Int) : Option (TAs [.one (.d (.int .i64)), .one (.d (.int .i64))]) :=
  ((f_24 N x1 x2 x3 x4 x5 x6).bind fun r8 => (bif (r8 != 0) then (some (0, r8)) else ((f_58 N x4 x5 x6 x7).bind fun r9 => (bif (r9.2 != 0) then (some (0, r9.2)) else ((l_32_0 N (x7, (), (), (), 0, (x1, x2, x3), (x4, x5, x6), (r9.1.1, r9.1.2.1, r9.1.2.2))).bind fun q => (match q with | .inl q24 => (some (q24.1, q24.2)) | .inr q25 => ((f_56 N q25.2.2.2.1.1 q25.2.2.2.1.2.1 q25.2.2.2.1.2.2 q25.2.2.2.2.1).bind fun r26 => (some ((IntKind.i64.wrap (q25.1 - (IntKind.i64.wrap ((IntKind.i64.wrap (r26 - (IntKind.i64.wrap (86400 * q25.2.2.2.2.1)))) * 1000000000)))), 0)))))))))
theorem ok_32 (N : Nat) (x1 : Int) (x2 : Int) (x3 : Int) (x4 : Int) (x5 : Int) (x6 : List Int) (x7 : Int) : f_32 N x1 x2 x3 x4 x5 x6 x7 = exec (X_32 N) Go.Proofs.Tryd.f32.ntmps (lp_32 N) c_32 0 (fnK (X_32 N) Go.Proofs.Tryd.f32.results.toList 0 [.one (.d (.int .i64)), .one (.d (.int .i64))]) (fnSt 3 0 [.agg [.d (.int .i64), .d (.int .i64), .d (.int .i64)], .agg [.d (.int .i64), .d (.int .i64), .d (.sl [.int .i64])], .one (.d (.int .i64))] ((x1, x2, x3), (x4, x5, x6), x7)) := by kernel_rfl
noncomputable def S_32 (N : Nat) : Sum := fnSum 3 0 2 [.agg [.d (.int .i64), .d (.int .i64), .d (.int .i64)], .agg [.d (.int .i64), .d (.int .i64), .d (.sl [.int .i64])], .one (.d (.int .i64))] [.one (.d (.int .i64)), .one (.d (.int .i64))] (fun p => f_32 N p.1.1 p.1.2.1 p.1.2.2 p.2.1.1 p.2.1.2.1 p.2.1.2.2 p.2.2)
theorem s_32 (N : Nat) : SumOk Go.Proofs.Tryd.prog laidL 32 (S_32 N) :=
  fn_ok (lp := lp_32 N) (x_32 N) Go.Proofs.Tryd.func32 (c := c_32) (by kernel_rfl) (by kernel_rfl) rfl (fun p => ok_32 N p.1.1 p.1.2.1 p.1.2.2 p.2.1.1 p.2.1.2.1 p.2.1.2.2 p.2.2) (loopsAll (by kernel_rfl) ((lookOk_cons (L_ok_32_0 N) lookOk_nil)))
noncomputable def X_62 (N : Nat) : Ctx := ⟨tyT, lookF [(96, (S_96 N))], eqT⟩
noncomputable def c_62 : Code := bodyOf Go.Proofs.Tryd.f62
theorem x_62 (N : Nat) : CtxOk Go.Proofs.Tryd.prog laidL (X_62 N) := ⟨tyOk, eqOk, fun _ _ => (fnsOk_cons (s_96 N) fnsOk_nil).get, by kernel_rfl⟩
noncomputable def lp_62 (_ : Nat) : Nat → Option LSum := lookL []
noncomputable def f_62 (N : Nat) (x1 : Int) (_x2 : Int) (x3 : List Int) (x4 : Int) : Option (TAs [.one (.d (.int .i64))]) :=
  ((f_96 N x3 x4).bind fun r5 => (some (IntKind.i64.wrap (x1 + r5.1))))
theorem ok_62 (N : Nat) (x1 : Int) (x2 : Int) (x3 : List Int) (x4 : Int) : f_62 N x1 x2 x3 x4 = exec (X_62 N) Go.Proofs.Tryd.f62.ntmps (lp_62 N) c_62 0 (fnK (X_62 N) Go.Proofs.Tryd.f62.results.toList 0 [.one (.d (.int .i64))]) (fnSt 2 0 [.agg [.d (.int .i64), .d (.int .i64), .d (.sl [.int .i64])], .one (.d (.int .i64))] ((x1, x2, x3), x4)) := by kernel_rfl
noncomputable def S_62 (N : Nat) : Sum := fnSum 2 0 1 [.agg [.d (.int .i64), .d (.int .i64), .d (.sl [.int .i64])], .one (.d (.int .i64))] [.one (.d (.int .i64))] (fun p => f_62 N p.1.1 p.1.2.1 p.1.2.2 p.2)
theorem s_62 (N : Nat) : SumOk Go.Proofs.Tryd.prog laidL 62 (S_62 N) :=
  fn_ok (lp := lp_62 N) (x_62 N) Go.Proofs.Tryd.func62 (c := c_62) (by kernel_rfl) (by kernel_rfl) rfl (fun p => ok_62 N p.1.1 p.1.2.1 p.1.2.2 p.2) (loopsAll (by kernel_rfl) (lookOk_nil))
noncomputable def X_34 (N : Nat) : Ctx := ⟨tyT, lookF [(61, (S_61 N)), (62, (S_62 N))], eqT⟩
noncomputable def c_34 : Code := bodyOf Go.Proofs.Tryd.f34
theorem x_34 (N : Nat) : CtxOk Go.Proofs.Tryd.prog laidL (X_34 N) := ⟨tyOk, eqOk, fun _ _ => (fnsOk_cons (s_61 N) (fnsOk_cons (s_62 N) fnsOk_nil)).get, by kernel_rfl⟩
noncomputable def lp_34 (_ : Nat) : Nat → Option LSum := lookL []
noncomputable def f_34 (N : Nat) (x1 : Int) (x2 : Int) (x3 : List Int) (x4 : Int) : Option (TAs [.one (.d (.int .i64)), .one (.d (.err 95))]) :=
  ((f_61 N x1 x2 x3 x4).bind fun r5 => (bif (!(Option.isNone r5)) then (some (0, r5)) else ((f_62 N x1 x2 x3 x4).bind fun r6 => (some (r6, none)))))
theorem ok_34 (N : Nat) (x1 : Int) (x2 : Int) (x3 : List Int) (x4 : Int) : f_34 N x1 x2 x3 x4 = exec (X_34 N) Go.Proofs.Tryd.f34.ntmps (lp_34 N) c_34 0 (fnK (X_34 N) Go.Proofs.Tryd.f34.results.toList 0 [.one (.d (.int .i64)), .one (.d (.err 95))]) (fnSt 2 0 [.agg [.d (.int .i64), .d (.int .i64), .d (.sl [.int .i64])], .one (.d (.int .i64))] ((x1, x2, x3), x4)) := by kernel_rfl
noncomputable def S_34 (N : Nat) : Sum := fnSum 2 0 2 [.agg [.d (.int .i64), .d (.int .i64), .d (.sl [.int .i64])], .one (.d (.int .i64))] [.one (.d (.int .i64)), .one (.d (.err 95))] (fun p => f_34 N p.1.1 p.1.2.1 p.1.2.2 p.2)
theorem s_34 (N : Nat) : SumOk Go.Proofs.Tryd.prog laidL 34 (S_34 N) :=
  fn_ok (lp := lp_34 N) (x_34 N) Go.Proofs.Tryd.func34 (c := c_34) (by kernel_rfl) (by kernel_rfl) rfl (fun p => ok_34 N p.1.1 p.1.2.1 p.1.2.2 p.2) (loopsAll (by kernel_rfl) (lookOk_nil))
noncomputable def X_60 (N : Nat) : Ctx := ⟨tyT, lookF [(62, (S_62 N))], eqT⟩
noncomputable def c_60 : Code := bodyOf Go.Proofs.Tryd.f60
theorem x_60 (N : Nat) : CtxOk Go.Proofs.Tryd.prog laidL (X_60 N) := ⟨tyOk, eqOk, fun _ _ => (fnsOk_cons (s_62 N) fnsOk_nil).get, by kernel_rfl⟩
noncomputable def lp_60 (_ : Nat) : Nat → Option LSum := lookL []
noncomputable def f_60 (N : Nat) (x1 : Int) (x2 : Int) (x3 : List Int) (x4 : Int) : Option (TAs [.one (.d (.int .i64))]) :=
  ((f_62 N x1 x2 x3 x4).bind fun r5 => (some (IntKind.i64.wrap ((IntKind.i64.wrap (x4 * 86400)) + r5))))
theorem ok_60 (N : Nat) (x1 : Int) (x2 : Int) (x3 : List Int) (x4 : Int) : f_60 N x1 x2 x3 x4 = exec (X_60 N) Go.Proofs.Tryd.f60.ntmps (lp_60 N) c_60 0 (fnK (X_60 N) Go.Proofs.Tryd.f60.results.toList 0 [.one (.d (.int .i64))]) (fnSt 2 0 [.agg [.d (.int .i64), .d (.int .i64), .d (.sl [.int .i64])], .one (.d (.int .i64))] ((x1, x2, x3), x4)) := by kernel_rfl
noncomputable def S_60 (N : Nat) : Sum := fnSum 2 0 1 [.agg [.d (.int .i64), .d (.int .i64), .d (.sl [.int .i64])], .one (.d (.int .i64))] [.one (.d (.int .i64))] (fun p => f_60 N p.1.1 p.1.2.1 p.1.2.2 p.2)
theorem s_60 (N : Nat) : SumOk Go.Proofs.Tryd.prog laidL 60 (S_60 N) :=
  fn_ok (lp := lp_60 N) (x_60 N) Go.Proofs.Tryd.func60 (c := c_60) (by kernel_rfl) (by kernel_rfl) rfl (fun p => ok_60 N p.1.1 p.1.2.1 p.1.2.2 p.2) (loopsAll (by kernel_rfl) (lookOk_nil))
noncomputable def X_33 (N : Nat) : Ctx := ⟨tyT, lookF [(55, (S_55 N)), (59, (S_59 N)), (60, (S_60 N))], eqT⟩
noncomputable def c_33 : Code := bodyOf Go.Proofs.Tryd.f33
theorem x_33 (N : Nat) : CtxOk Go.Proofs.Tryd.prog laidL (X_33 N) := ⟨tyOk, eqOk, fun _ _ => (fnsOk_cons (s_55 N) (fnsOk_cons (s_59 N) (fnsOk_cons (s_60 N) fnsOk_nil))).get, by kernel_rfl⟩
noncomputable def nd_33_0 : Code := loopAt 0 0 c_33
noncomputable def cb_33_0 : Code := unloop nd_33_0
theorem ne_33_0 : nd_33_0 = .loop cb_33_0 := by kernel_rfl
noncomputable def sh_33_0 : List ShA := [.one (.ptr 160 0), .one (.ptr 192 0), .one (.d (.int .i64)), .one (.d (.int .i64)), .one (.d (.int .i64)), .agg [.d (.int .i64), .d (.int .i64), .d (.sl [.int .i64])], .agg [.d (.int .i64), .d (.int .i64), .d (.int .i64)]]
noncomputable def o_33_0 : OutK 0 (TAs [.one (.ptr 160 0), .one (.ptr 192 0), .one (.d (.int .i64)), .one (.d (.int .i64)), .one (.d (.int .i64)), .agg [.d (.int .i64), .d (.int .i64), .d (.sl [.int .i64])], .agg [.d (.int .i64), .d (.int .i64), .d (.int .i64)]]) := (outOne 0 (.exit 0) [2, 4, 7, 8, 10] [160, 192] [.one (.ptr 160 0), .one (.ptr 192 0), .one (.d (.int .i64)), .one (.d (.int .i64)), .one (.d (.int .i64)), .agg [.d (.int .i64), .d (.int .i64), .d (.sl [.int .i64])], .agg [.d (.int .i64), .d (.int .i64), .d (.int .i64)]])
noncomputable def b_33_0 (N : Nat) (ih : TAs sh_33_0 → Option (TAs [.one (.ptr 160 0), .one (.ptr 192 0), .one (.d (.int .i64)), .one (.d (.int .i64)), .one (.d (.int .i64)), .agg [.d (.int .i64), .d (.int .i64), .d (.sl [.int .i64])], .agg [.d (.int .i64), .d (.int .i64), .d (.int .i64)]])) : TAs sh_33_0 → Option (TAs [.one (.ptr 160 0), .one (.ptr 192 0), .one (.d (.int .i64)), .one (.d (.int .i64)), .one (.d (.int .i64)), .agg [.d (.int .i64), .d (.int .i64), .d (.sl [.int .i64])], .agg [.d (.int .i64), .d (.int .i64), .d (.int .i64)]]) := fun (_, _, y10, y11, y12, (y13, y14, y15), (y16, y17, y18)) =>
  ((f_60 N y13 y14 y15 y12).bind fun r19 => (bif (decide (y10 < r19)) then (ih ((), (), y10, y11, (IntKind.i64.wrap (y12 - 1)), (y13, y14, y15), (y16, y17, y18))) else (some (((), (), y10, y11, y12, (y13, y14, y15), (y16, y17, y18))))))
noncomputable def l_33_0 (N : Nat) : TAs sh_33_0 → Option (TAs [.one (.ptr 160 0), .one (.ptr 192 0), .one (.d (.int .i64)), .one (.d (.int .i64)), .one (.d (.int .i64)), .agg [.d (.int .i64), .d (.int .i64), .d (.sl [.int .i64])], .agg [.d (.int .i64), .d (.int .i64), .d (.int .i64)]]) := iter (b_33_0 N) N
noncomputable def lp_33_0 (_ : Nat) : Nat → Option LSum := lookL []
noncomputable def L_33_0 (N : Nat) : LSum := loopSum [2, 4, 7, 8, 10] [160, 192] sh_33_0 o_33_0 (l_33_0 N)
theorem b_ok_33_0 (N : Nat) (ih : TAs sh_33_0 → Option (TAs [.one (.ptr 160 0), .one (.ptr 192 0), .one (.d (.int .i64)), .one (.d (.int .i64)), .one (.d (.int .i64)), .agg [.d (.int .i64), .d (.int .i64), .d (.sl [.int .i64])], .agg [.d (.int .i64), .d (.int .i64), .d (.int .i64)]])) (p : TAs sh_33_0) : b_33_0 N ih p = exec (X_33 N) Go.Proofs.Tryd.f33.ntmps (lp_33_0 N) cb_33_0 0 (roundK [2, 4, 7, 8, 10] [160, 192] sh_33_0 o_33_0 ih) (stOf [2, 4, 7, 8, 10] [160, 192] sh_33_0 p) := by kernel_rfl
theorem L_ok_33_0 (N : Nat) : SegOk Go.Proofs.Tryd.prog laidL 0 Go.Proofs.Tryd.f33.ntmps nd_33_0 (L_33_0 N) :=
  ne_33_0 ▸ loop_ok (cur := 0) (lp := lp_33_0 N) (x_33 N) (fun n => iter (b_33_0 N) n) (fun _ => rfl) (fun n p => b_ok_33_0 N (iter (b_33_0 N) n) p) (loopsAll (by kernel_rfl) (lookOk_nil)) N
noncomputable def lp_33 (N : Nat) : Nat → Option LSum := lookL [(0, L_33_0 N)]
noncomputable def f_33 (N : Nat) (x1 : Int) (x2 : Int) (x3 : List Int) (x4 : Int) : Option (TAs [.agg [.d (.int .i64), .d (.int .i64), .d (.int .i64)], .one (.d (.err 95))]) :=
  ((f_55 N x1 x2 x3).bind fun r5 => (bif (!(Option.isNone r5)) then (some ((0, 0, 0), r5)) else ((f_59 N x4 1000000000).bind fun r6 => (bif (!(Option.isNone r6.2.2)) then (some ((0, 0, 0), (some 2))) else (bif (decide (x4 ≤ (-4611686018427387904))) then (some ((0, 0, 0), (some 2))) else (bif (decide (x4 ≥ 4611686018427387904)) then (some ((0, 0, 0), (some 2))) else ((f_60 N x1 x2 x3 (-50000)).bind fun r7 => (bif (decide (r6.1 < r7)) then (some ((0, 0, 0), (some 2))) else ((f_60 N x1 x2 x3 x2).bind fun r8 => (bif (decide (r6.1 ≥ r8)) then (some ((0, 0, 0), (some 10))) else ((f_59 N r6.1 86400).bind fun r9 => (bif (!(Option.isNone r9.2.2)) then (some ((0, 0, 0), r9.2.2)) else ((l_33_0 N ((), (), r6.1, r6.2.1, r9.1, (x1, x2, x3), (0, 0, 0))).bind fun q20 => ((f_60 N q20.2.2.2.2.2.1.1 q20.2.2.2.2.2.1.2.1 q20.2.2.2.2.2.1.2.2 q20.2.2.2.2.1).bind fun r21 => (some ((q20.2.2.2.2.1, (IntKind.i64.wrap (q20.2.2.1 - r21)), q20.2.2.2.1), none))))))))))))))))
theorem ok_33 (N : Nat) (x1 : Int) (x2 : Int) (x3 : List Int) (x4 : Int) : f_33 N x1 x2 x3 x4 = exec (X_33 N) Go.Proofs.Tryd.f33.ntmps (lp_33 N) c_33 0 (fnK (X_33 N) Go.Proofs.Tryd.f33.results.toList 0 [.agg [.d (.int .i64), .d (.int .i64), .d (.int .i64)], .one (.d (.err 95))]) (fnSt 2 0 [.agg [.d (.int .i64), .d (.int .i64), .d (.sl [.int .i64])], .one (.d (.int .i64))] ((x1, x2, x3), x4)) := by kernel_rfl
noncomputable def S_33 (N : Nat) : Sum := fnSum 2 0 2 [.agg [.d (.int .i64), .d (.int .i64), .d (.sl [.int .i64])], .one (.d (.int .i64))] [.agg [.d (.int .i64), .d (.int .i64), .d (.int .i64)], .one (.d (.err 95))] (fun p => f_33 N p.1.1 p.1.2.1 p.1.2.2 p.2)
theorem s_33 (N : Nat) : SumOk Go.Proofs.Tryd.prog laidL 33 (S_33 N) :=
  fn_ok (lp := lp_33 N) (x_33 N) Go.Proofs.Tryd.func33 (c := c_33) (by kernel_rfl) (by kernel_rfl) rfl (fun p => ok_33 N p.1.1 p.1.2.1 p.1.2.2 p.2) (loopsAll (by kernel_rfl) ((lookOk_cons (L_ok_33_0 N) lookOk_nil)))
noncomputable def X_57 (N : Nat) : Ctx := ⟨tyT, lookF [(33, (S_33 N)), (34, (S_34 N))], eqT⟩
noncomputable def c_57 : Code := bodyOf Go.Proofs.Tryd.f57
theorem x_57 (N : Nat) : CtxOk Go.Proofs.Tryd.prog laidL (X_57 N) := ⟨tyOk, eqOk, fun _ _ => (fnsOk_cons (s_33 N) (fnsOk_cons (s_34 N) fnsOk_nil)).get, by kernel_rfl⟩
noncomputable def lp_57 (_ : Nat) : Nat → Option LSum := lookL []
noncomputable def f_57 (N : Nat) (x1 : Int) (x2 : Int) (x3 : List Int) (x4 : Int) : Option (TAs [.one (.d (.int .i64)), .one (.d (.err 95))]) :=
  ((f_33 N x1 x2 x3 x4).bind fun r5 => (bif (!(Option.isNone r5.2)) then (some (0, r5.2)) else ((f_34 N x1 x2 x3 r5.1.1).bind fun r6 => (bif (!(Option.isNone r6.2)) then (some (0, r6.2)) else (some ((IntKind.i64.wrap (x4 - (IntKind.i64.wrap (r6.1 * 1000000000)))), none))))))
theorem ok_57 (N : Nat) (x1 : Int) (x2 : Int) (x3 : List Int) (x4 : Int) : f_57 N x1 x2 x3 x4 = exec (X_57 N) Go.Proofs.Tryd.f57.ntmps (lp_57 N) c_57 0 (fnK (X_57 N) Go.Proofs.Tryd.f57.results.toList 0 [.one (.d (.int .i64)), .one (.d (.err 95))]) (fnSt 2 0 [.agg [.d (.int .i64), .d (.int .i64), .d (.sl [.int .i64])], .one (.d (.int .i64))] ((x1, x2, x3), x4)) := by kernel_rfl
noncomputable def S_57 (N : Nat) : Sum := fnSum 2 0 2 [.agg [.d (.int .i64), .d (.int .i64), .d (.sl [.int .i64])], .one (.d (.int .i64))] [.one (.d (.int .i64)), .one (.d (.err 95))] (fun p => f_57 N p.1.1 p.1.2.1 p.1.2.2 p.2)
theorem s_57 (N : Nat) : SumOk Go.Proofs.Tryd.prog laidL 57 (S_57 N) :=
  fn_ok (lp := lp_57 N) (x_57 N) Go.Proofs.Tryd.func57 (c := c_57) (by kernel_rfl) (by kernel_rfl) rfl (fun p => ok_57 N p.1.1 p.1.2.1 p.1.2.2 p.2) (loopsAll (by kernel_rfl) (lookOk_nil))
noncomputable def X_31 (N : Nat) : Ctx := ⟨tyT, lookF [(29, (S_29 N)), (57, (S_57 N)), (54, (S_54 N)), (22, (S_22 N))], eqT⟩
noncomputable def c_31 : Code := bodyOf Go.Proofs.Tryd.f31
theorem x_31 (N : Nat) : CtxOk Go.Proofs.Tryd.prog laidL (X_31 N) := ⟨tyOk, eqOk, fun _ _ => (fnsOk_cons (s_29 N) (fnsOk_cons (s_57 N) (fnsOk_cons (s_54 N) (fnsOk_cons (s_22 N) fnsOk_nil)))).get, by kernel_rfl⟩
noncomputable def nd_31_0 : Code := loopAt 0 0 c_31
noncomputable def cb_31_0 : Code := unloop nd_31_0
theorem ne_31_0 : nd_31_0 = .loop cb_31_0 := by kernel_rfl
noncomputable def sh_31_0 : List ShA := [.one (.d (.int .i64)), .one (.ptr 176 0), .one (.ptr 192 0), .one (.d (.int .i64)), .one (.d (.int .i64)), .one (.d (.int .i64)), .agg [.d (.int .i64), .d (.int .i64), .d (.int .i64)], .agg [.d (.int .i64), .d (.int .i64), .d (.sl [.int .i64])]]
noncomputable def o_31_0 : OutK 0 (((TAs [.one (.d (.int .i64)), .one (.d (.err 95))]) ⊕ (TAs [.one (.d (.int .i64))]))) := (outTwo (outOne 0 .ret [6, 7] [] [.one (.d (.int .i64)), .one (.d (.err 95))]) (outOne 0 (.exit 0) [9] [] [.one (.d (.int .i64))]))
noncomputable def b_31_0 (N : Nat) (ih : TAs sh_31_0 → Option (((TAs [.one (.d (.int .i64)), .one (.d (.err 95))]) ⊕ (TAs [.one (.d (.int .i64))])))) : TAs sh_31_0 → Option (((TAs [.one (.d (.int .i64)), .one (.d (.err 95))]) ⊕ (TAs [.one (.d (.int .i64))]))) := fun (y10, _, _, y11, y12, y13, (y14, y15, y16), (y17, y18, y19)) =>
  (bif (decide (y13 < y12)) then ((f_54 N y14 y15 y16 y17 y18 y19 y13).bind fun r20 => (bif (decide (y10 < (IntKind.i64.wrap (r20.1 * 1000000000)))) then (ih (y10, (), (), y11, y12, (IntKind.i64.wrap (y13 + 1)), (y14, y15, y16), (y17, y18, y19))) else (bif (decide (y10 ≥ (IntKind.i64.wrap (r20.2 * 1000000000)))) then (ih (y10, (), (), y11, y12, (IntKind.i64.wrap (y13 + 1)), (y14, y15, y16), (y17, y18, y19))) else ((f_22 N y14 y15 y16 (IntKind.i64.wrap (y10 - (IntKind.i64.wrap (r20.1 * 1000000000))))).bind fun r21 => (bif (!(Option.isNone r21.2)) then (some (.inl (0, r21.2))) else (some (.inl ((IntKind.i64.wrap ((IntKind.i64.wrap (y10 - (IntKind.i64.wrap ((IntKind.i64.wrap (y17 + y13)) * 1000000000)))) - r21.1)), none)))))))) else (some (.inr y11)))
noncomputable def l_31_0 (N : Nat) : TAs sh_31_0 → Option (((TAs [.one (.d (.int .i64)), .one (.d (.err 95))]) ⊕ (TAs [.one (.d (.int .i64))]))) := iter (b_31_0 N) N
noncomputable def lp_31_0 (_ : Nat) : Nat → Option LSum := lookL []
noncomputable def L_31_0 (N : Nat) : LSum := loopSum [2, 3, 4, 9, 39, 40] [176, 192] sh_31_0 o_31_0 (l_31_0 N)
theorem b_ok_31_0 (N : Nat) (ih : TAs sh_31_0 → Option (((TAs [.one (.d (.int .i64)), .one (.d (.err 95))]) ⊕ (TAs [.one (.d (.int .i64))])))) (p : TAs sh_31_0) : b_31_0 N ih p = exec (X_31 N) Go.Proofs.Tryd.f31.ntmps (lp_31_0 N) cb_31_0 0 (roundK [2, 3, 4, 9, 39, 40] [176, 192] sh_31_0 o_31_0 ih) (stOf [2, 3, 4, 9, 39, 40] [176, 192] sh_31_0 p) := by kernel_rfl
theorem L_ok_31_0 (N : Nat) : SegOk Go.Proofs.Tryd.prog laidL 0 Go.Proofs.Tryd.f31.ntmps nd_31_0 (L_31_0 N) :=
  ne_31_0 ▸ loop_ok (cur := 0) (lp := lp_31_0 N) (x_31 N) (fun n => iter (b_31_0 N) n) (fun _ => rfl) (fun n p => b_ok_31_0 N (iter (b_31_0 N) n) p) (loopsAll (by kernel_rfl) (lookOk_nil)) N
noncomputable def lp_31 (N : Nat) : Nat → Option LSum := lookL [(0, L_31_0 N)]
noncomputable def f_31 (N : Nat) (x1 : Int) (x2 : Int) (x3 : Int) (x4 : Int) (x5 : Int) (x6 : List Int) (x7 : Int) : Option (TAs [.one (.d (.int .i64)), .one (.d (.err 95))]) :=
  ((f_29 N x1 x2 x3 x4 x5 x6).bind fun r8 => (bif (!(Option.isNone r8)) then (some (0, r8)) else ((f_57 N x4 x5 x6 x7).bind fun r9 => (bif (!(Option.isNone r9.2)) then (some (r9.1, r9.2)) else (bif (x1 == 0) then (some (r9.1, r9.2)) else ((l_31_0 N (x7, (), (), r9.1, (List.length x6 : Int), 0, (x1, x2, x3), (x4, x5, x6))).bind fun q => (match q with | .inl q22 => (some (q22.1, q22.2)) | .inr q23 => (some (q23, none)))))))))
theorem ok_31 (N : Nat) (x1 : Int) (x2 : Int) (x3 : Int) (x4 : Int) (x5 : Int) (x6 : List Int) (x7 : Int) : f_31 N x1 x2 x3 x4 x5 x6 x7 = exec (X_31 N) Go.Proofs.Tryd.f31.ntmps (lp_31 N) c_31 0 (fnK (X_31 N) Go.Proofs.Tryd.f31.results.toList 0 [.one (.d (.int .i64)), .one (.d (.err 95))]) (fnSt 3 0 [.agg [.d (.int .i64), .d (.int .i64), .d (.int .i64)], .agg [.d (.int .i64), .d (.int .i64), .d (.sl [.int .i64])], .one (.d (.int .i64))] ((x1, x2, x3), (x4, x5, x6), x7)) := by kernel_rfl
noncomputable def S_31 (N : Nat) : Sum := fnSum 3 0 2 [.agg [.d (.int .i64), .d (.int .i64), .d (.int .i64)], .agg [.d (.int .i64), .d (.int .i64), .d (.sl [.int .i64])], .one (.d (.int .i64))] [.one (.d (.int .i64)), .one (.d (.err 95))] (fun p => f_31 N p.1.1 p.1.2.1 p.1.2.2 p.2.1.1 p.2.1.2.1 p.2.1.2.2 p.2.2)
theorem s_31 (N : Nat) : SumOk Go.Proofs.Tryd.prog laidL 31 (S_31 N) :=
  fn_ok (lp := lp_31 N) (x_31 N) Go.Proofs.Tryd.func31 (c := c_31) (by kernel_rfl) (by kernel_rfl) rfl (fun p => ok_31 N p.1.1 p.1.2.1 p.1.2.2 p.2.1.1 p.2.1.2.1 p.2.1.2.2 p.2.2) (loopsAll (by kernel_rfl) ((lookOk_cons (L_ok_31_0 N) lookOk_nil)))
noncomputable def X_21 (N : Nat) : Ctx := ⟨tyT, lookF [(22, (S_22 N)), (25, (S_25 N)), (31, (S_31 N)), (26, (S_26 N)), (28, (S_28 N))], eqT⟩
noncomputable def c_21 : Code := bodyOf Go.Proofs.Tryd.f21
theorem x_21 (N : Nat) : CtxOk Go.Proofs.Tryd.prog laidL (X_21 N) := ⟨tyOk, eqOk, fun _ _ => (fnsOk_cons (s_22 N) (fnsOk_cons (s_25 N) (fnsOk_cons (s_31 N) (fnsOk_cons (s_26 N) (fnsOk_cons (s_28 N) fnsOk_nil))))).get, by kernel_rfl⟩
noncomputable def lp_21 (_ : Nat) : Nat → Option LSum := lookL []
noncomputable def f_21 (N : Nat) : Option (TAs [.one (.d (.bool))]) :=
  ((f_22 N 1 0 1 500000000).bind fun r1 => ((f_25 N 1 0 1 10 2000 ([911] : List Int) 0).bind fun r2 => ((f_31 N 1 0 1 10 2000 ([911] : List Int) r2.1).bind fun r3 => ((f_31 N 1 0 1 10 2000 ([911] : List Int) r2.2.1).bind fun r4 => (bif (Option.isNone r1.2) then (bif (Option.isNone r2.2.2) then (bif (Option.isNone r3.2) then (bif (Option.isNone r4.2) then (bif (r1.1 == 250000000) then (bif ((IntKind.i64.wrap (r2.2.1 - r2.1)) == 2000000000) then (bif ((IntKind.i64.wrap (r4.1 - r3.1)) == 1000000000) then (bif (r4.1 == 78796801000000000) then ((f_26 N 2 0 5).bind fun r5 => ((f_28 N r5).bind fun r6 => (some (r6 == 1)))) else (some false)) else (some false)) else (some false)) else (some false)) else (some false)) else (some false)) else (some false)) else (some false))))))
theorem ok_21 (N : Nat) : f_21 N = exec (X_21 N) Go.Proofs.Tryd.f21.ntmps (lp_21 N) c_21 0 (fnK (X_21 N) Go.Proofs.Tryd.f21.results.toList 0 [.one (.d (.bool))]) (fnSt 0 0 [] ()) := by kernel_rfl
noncomputable def S_21 (N : Nat) : Sum := fnSum 0 0 1 [] [.one (.d (.bool))] (fun _ => f_21 N)
theorem s_21 (N : Nat) : SumOk Go.Proofs.Tryd.prog laidL 21 (S_21 N) :=
  fn_ok (lp := lp_21 N) (x_21 N) Go.Proofs.Tryd.func21 (c := c_21) (by kernel_rfl) (by kernel_rfl) rfl (fun _ => ok_21 N) (loopsAll (by kernel_rfl) (lookOk_nil))
noncomputable def X_5 (N : Nat) : Ctx := ⟨tyT, lookF [(21, (S_21 N)), (22, (S_22 N)), (23, (S_23 N)), (24, (S_24 N)), (25, (S_25 N)), (26, (S_26 N)), (27, (S_27 N)), (29, (S_29 N)), (28, (S_28 N)), (30, (S_30 N))], eqT⟩
noncomputable def c_5 : Code := bodyOf Go.Proofs.Tryd.f5
theorem x_5 (N : Nat) : CtxOk Go.Proofs.Tryd.prog laidL (X_5 N) := ⟨tyOk, eqOk, fun _ _ => (fnsOk_cons (s_21 N) (fnsOk_cons (s_22 N) (fnsOk_cons (s_23 N) (fnsOk_cons (s_24 N) (fnsOk_cons (s_25 N) (fnsOk_cons (s_26 N) (fnsOk_cons (s_27 N) (fnsOk_cons (s_29 N) (fnsOk_cons (s_28 N) (fnsOk_cons (s_30 N) fnsOk_nil)))))))))).get, by kernel_rfl⟩
noncomputable def lp_5 (_ : Nat) : Nat → Option LSum := lookL []
noncomputable def f_5 (N : Nat) (x1 : Int) (x2 : Int) (x3 : Int) (x4 : Int) (x5 : Int) (x6 : List Int) (x7 : List Int) : Option (TAs [.one (.d (.bool))]) :=
  (bif (decide ((List.length x6 : Int) > 40)) then ((f_21 N).bind fun r8 => (some r8)) else ((f_22 N x1 x2 x3 (List.getD x7 (Int.toNat 0) 0)).bind fun r9 => ((f_23 N x1 x2 x3 (List.getD x7 (Int.toNat 0) 0)).bind fun r10 => ((f_24 N x1 x2 x3 x4 x5 x6).bind fun r11 => ((f_25 N x1 x2 x3 x4 x5 x6 (List.getD x7 (Int.toNat 1) 0)).bind fun r12 => ((f_26 N x1 x2 x3).bind fun r13 => ((f_27 N x1 x2 x3).bind fun r14 => (bif (!((Option.isNone r13) == r14)) then (some false) else ((f_29 N x1 x2 x3 x4 x5 x6).bind fun r15 => ((f_28 N r15).bind fun r16 => (bif (r16 != r11) then (some false) else (bif (r9.1 != r10.1) then (some false) else ((f_28 N r9.2).bind fun r17 => (bif (r17 != r10.2) then (some false) else (bif (r11 != 0) then ((f_28 N r12.2.2).bind fun r18 => (bif (r18 == r11) then (bif (r12.1 == 0) then (bif (r12.2.1 == 0) then ((f_21 N).bind fun r19 => (some r19)) else (some false)) else (some false)) else (some false))) else (bif (x1 == 0) then ((f_28 N r12.2.2).bind fun r20 => (bif (r20 == 1) then (bif (r12.1 == 0) then (bif (r12.2.1 == 0) then ((f_21 N).bind fun r21 => (some r21)) else (some false)) else (some false)) else (some false))) else (bif (decide ((List.getD x7 (Int.toNat 1) 0) < 0)) then ((f_28 N r12.2.2).bind fun r22 => (bif (r22 == 1) then (bif (r12.1 == 0) then (bif (r12.2.1 == 0) then ((f_21 N).bind fun r23 => (some r23)) else (some false)) else (some false)) else (some false))) else (bif (decide ((List.getD x7 (Int.toNat 1) 0) ≥ (List.length x6 : Int))) then ((f_28 N r12.2.2).bind fun r24 => (bif (r24 == 1) then (bif (r12.1 == 0) then (bif (r12.2.1 == 0) then ((f_21 N).bind fun r25 => (some r25)) else (some false)) else (some false)) else (some false))) else ((f_30 N x1 x2 x3 x4 x5 x6 (List.getD x7 (Int.toNat 1) 0)).bind fun r26 => (bif (Option.isNone r12.2.2) then (bif (r12.1 == r26.1) then (bif (r12.2.1 == r26.2) then ((f_21 N).bind fun r27 => (some r27)) else (some false)) else (some false)) else (some false)))))))))))))))))))))
theorem ok_5 (N : Nat) (x1 : Int) (x2 : Int) (x3 : Int) (x4 : Int) (x5 : Int) (x6 : List Int) (x7 : List Int) : f_5 N x1 x2 x3 x4 x5 x6 x7 = exec (X_5 N) Go.Proofs.Tryd.f5.ntmps (lp_5 N) c_5 0 (fnK (X_5 N) Go.Proofs.Tryd.f5.results.toList 0 [.one (.d (.bool))]) (fnSt 3 0 [.agg [.d (.int .i64), .d (.int .i64), .d (.int .i64)], .agg [.d (.int .i64), .d (.int .i64), .d (.sl [.int .i64])], .agg [.d (.arr .i64 2)]] ((x1, x2, x3), (x4, x5, x6), x7)) := by kernel_rfl
noncomputable def S_5 (N : Nat) : Sum := fnSum 3 0 1 [.agg [.d (.int .i64), .d (.int .i64), .d (.int .i64)], .agg [.d (.int .i64), .d (.int .i64), .d (.sl [.int .i64])], .agg [.d (.arr .i64 2)]] [.one (.d (.bool))] (fun p => f_5 N p.1.1 p.1.2.1 p.1.2.2 p.2.1.1 p.2.1.2.1 p.2.1.2.2 p.2.2)
theorem s_5 (N : Nat) : SumOk Go.Proofs.Tryd.prog laidL 5 (S_5 N) :=
  fn_ok (lp := lp_5 N) (x_5 N) Go.Proofs.Tryd.func5 (c := c_5) (by kernel_rfl) (by kernel_rfl) rfl (fun p => ok_5 N p.1.1 p.1.2.1 p.1.2.2 p.2.1.1 p.2.1.2.1 p.2.1.2.2 p.2.2) (loopsAll (by kernel_rfl) (lookOk_nil))
noncomputable def X_6 (N : Nat) : Ctx := ⟨tyT, lookF [(21, (S_21 N)), (31, (S_31 N)), (32, (S_32 N)), (28, (S_28 N))], eqT⟩
noncomputable def c_6 : Code := bodyOf Go.Proofs.Tryd.f6
theorem x_6 (N : Nat) : CtxOk Go.Proofs.Tryd.prog laidL (X_6 N) := ⟨tyOk, eqOk, fun _ _ => (fnsOk_cons (s_21 N) (fnsOk_cons (s_31 N) (fnsOk_cons (s_32 N) (fnsOk_cons (s_28 N) fnsOk_nil)))).get, by kernel_rfl⟩
noncomputable def lp_6 (_ : Nat) : Nat → Option LSum := lookL []
noncomputable def f_6 (N : Nat) (x1 : Int) (x2 : Int) (x3 : Int) (x4 : Int) (x5 : Int) (x6 : List Int) (x7 : Int) : Option (TAs [.one (.d (.bool))]) :=
  (bif (decide ((List.length x6 : Int) > 40)) then ((f_21 N).bind fun r8 => (some r8)) else ((f_31 N x1 x2 x3 x4 x5 x6 x7).bind fun r9 => ((f_32 N x1 x2 x3 x4 x5 x6 x7).bind fun r10 => (bif (r9.1 == r10.1) then ((f_28 N r9.2).bind fun r11 => (bif (r11 == r10.2) then ((f_21 N).bind fun r12 => (some r12)) else (some false))) else (some false)))))
theorem ok_6 (N : Nat) (x1 : Int) (x2 : Int) (x3 : Int) (x4 : Int) (x5 : Int) (x6 : List Int) (x7 : Int) : f_6 N x1 x2 x3 x4 x5 x6 x7 = exec (X_6 N) Go.Proofs.Tryd.f6.ntmps (lp_6 N) c_6 0 (fnK (X_6 N) Go.Proofs.Tryd.f6.results.toList 0 [.one (.d (.bool))]) (fnSt 3 0 [.agg [.d (.int .i64), .d (.int .i64), .d (.int .i64)], .agg [.d (.int .i64), .d (.int .i64), .d (.sl [.int .i64])], .one (.d (.int .i64))] ((x1, x2, x3), (x4, x5, x6), x7)) := by kernel_rfl
noncomputable def S_6 (N : Nat) : Sum := fnSum 3 0 1 [.agg [.d (.int .i64), .d (.int .i64), .d (.int .i64)], .agg [.d (.int .i64), .d (.int .i64), .d (.sl [.int .i64])], .one (.d (.int .i64))] [.one (.d (.bool))] (fun p => f_6 N p.1.1 p.1.2.1 p.1.2.2 p.2.1.1 p.2.1.2.1 p.2.1.2.2 p.2.2)
theorem s_6 (N : Nat) : SumOk Go.Proofs.Tryd.prog laidL 6 (S_6 N) :=
  fn_ok (lp := lp_6 N) (x_6 N) Go.Proofs.Tryd.func6 (c := c_6) (by kernel_rfl) (by kernel_rfl) rfl (fun p => ok_6 N p.1.1 p.1.2.1 p.1.2.2 p.2.1.1 p.2.1.2.1 p.2.1.2.2 p.2.2) (loopsAll (by kernel_rfl) (lookOk_nil))
noncomputable def X_7 (N : Nat) : Ctx := ⟨tyT, lookF [(21, (S_21 N)), (29, (S_29 N)), (31, (S_31 N)), (25, (S_25 N)), (22, (S_22 N))], eqT⟩
noncomputable def c_7 : Code := bodyOf Go.Proofs.Tryd.f7
theorem x_7 (N : Nat) : CtxOk Go.Proofs.Tryd.prog laidL (X_7 N) := ⟨tyOk, eqOk, fun _ _ => (fnsOk_cons (s_21 N) (fnsOk_cons (s_29 N) (fnsOk_cons (s_31 N) (fnsOk_cons (s_25 N) (fnsOk_cons (s_22 N) fnsOk_nil))))).get, by kernel_rfl⟩
noncomputable def nd_7_0 : Code := loopAt 0 0 c_7
noncomputable def cb_7_0 : Code := unloop nd_7_0
theorem ne_7_0 : nd_7_0 = .loop cb_7_0 := by kernel_rfl
noncomputable def sh_7_0 : List ShA := [.one (.ptr 192 0), .one (.ptr 240 0), .one (.ptr 256 0), .one (.d (.int .i64)), .agg [.d (.int .i64), .d (.int .i64), .d (.sl [.int .i64])], .agg [.d (.int .i64), .d (.int .i64), .d (.int .i64)], .agg [.d (.int .i64), .d (.int .i64), .d (.sl [.int .i64])]]
noncomputable def o_7_0 : OutK 0 (((TAs [.one (.d (.bool))]) ⊕ (TAs []))) := (outTwo (outOne 0 .ret [6] [] [.one (.d (.bool))]) (outOne 0 (.exit 0) [] [] []))
noncomputable def b_7_0 (N : Nat) (ih : TAs sh_7_0 → Option (((TAs [.one (.d (.bool))]) ⊕ (TAs [])))) : TAs sh_7_0 → Option (((TAs [.one (.d (.bool))]) ⊕ (TAs []))) := fun (_, _, _, y14, (y15, y16, y17), (y18, y19, y20), (y21, y22, y23)) =>
  (bif (decide (y14 < (List.length y17 : Int))) then ((f_25 N y18 y19 y20 y21 y22 y23 y14).bind fun r24 => ((f_22 N y18 y19 y20 0).bind fun r25 => ((f_22 N y18 y19 y20 (IntKind.i64.wrap (r24.2.1 - r24.1))).bind fun r26 => (bif (!(Option.isNone r24.2.2)) then (some (.inl false)) else (bif (!(Option.isNone r25.2)) then (some (.inl false)) else (bif (!(Option.isNone r26.2)) then (some (.inl false)) else (bif (r25.1 != 0) then (some (.inl false)) else (bif (r26.1 != 1000000000) then (some (.inl false)) else ((f_31 N y18 y19 y20 y21 y22 y23 r24.1).bind fun r27 => ((f_31 N 0 0 0 y21 y22 y23 r24.1).bind fun r28 => ((f_31 N y18 y19 y20 y21 y22 y23 r24.2.1).bind fun r29 => ((f_31 N 0 0 0 y21 y22 y23 r24.2.1).bind fun r30 => (bif (!((Option.isNone r27.2) == (Option.isNone r28.2))) then (some (.inl false)) else (bif (!((Option.isNone r29.2) == (Option.isNone r30.2))) then (some (.inl false)) else (bif (r27.1 != r28.1) then (some (.inl false)) else (bif (r29.1 != r30.1) then (some (.inl false)) else (ih ((), (), (), (IntKind.i64.wrap (y14 + 1)), (y15, y16, y17), (y18, y19, y20), (y21, y22, y23))))))))))))))))))) else (some (.inr ())))
noncomputable def l_7_0 (N : Nat) : TAs sh_7_0 → Option (((TAs [.one (.d (.bool))]) ⊕ (TAs []))) := iter (b_7_0 N) N
noncomputable def lp_7_0 (_ : Nat) : Nat → Option LSum := lookL []
noncomputable def L_7_0 (N : Nat) : LSum := loopSum [4, 7, 8, 15] [192, 240, 256] sh_7_0 o_7_0 (l_7_0 N)
theorem b_ok_7_0 (N : Nat) (ih : TAs sh_7_0 → Option (((TAs [.one (.d (.bool))]) ⊕ (TAs [])))) (p : TAs sh_7_0) : b_7_0 N ih p = exec (X_7 N) Go.Proofs.Tryd.f7.ntmps (lp_7_0 N) cb_7_0 0 (roundK [4, 7, 8, 15] [192, 240, 256] sh_7_0 o_7_0 ih) (stOf [4, 7, 8, 15] [192, 240, 256] sh_7_0 p) := by kernel_rfl
theorem L_ok_7_0 (N : Nat) : SegOk Go.Proofs.Tryd.prog laidL 0 Go.Proofs.Tryd.f7.ntmps nd_7_0 (L_7_0 N) :=
  ne_7_0 ▸ loop_ok (cur := 0) (lp := lp_7_0 N) (x_7 N) (fun n => iter (b_7_0 N) n) (fun _ => rfl) (fun n p => b_ok_7_0 N (iter (b_7_0 N) n) p) (loopsAll (by kernel_rfl) (lookOk_nil)) N
noncomputable def lp_7 (N : Nat) : Nat → Option LSum := lookL [(0, L_7_0 N)]
noncomputable def f_7 (N : Nat) (x1 : Int) (x2 : Int) (x3 : Int) (x4 : Int) (x5 : Int) (x6 : List Int) (x7 : List Int) : Option (TAs [.one (.d (.bool))]) :=
  (bif (decide ((List.length x6 : Int) > 40)) then ((f_21 N).bind fun r8 => (some r8)) else ((f_29 N x1 x2 x3 x4 x5 x6).bind fun r9 => (bif (!(Option.isNone r9)) then ((f_21 N).bind fun r10 => (some r10)) else (bif (x1 == 0) then ((f_21 N).bind fun r11 => (some r11)) else ((f_31 N x1 x2 x3 x4 x5 x6 (if (List.getD x7 (Int.toNat 1) 0) < (List.getD x7 (Int.toNat 0) 0) then (List.getD x7 (Int.toNat 1) 0) else (List.getD x7 (Int.toNat 0) 0))).bind fun r12 => ((f_31 N x1 x2 x3 x4 x5 x6 (if (List.getD x7 (Int.toNat 1) 0) > (List.getD x7 (Int.toNat 0) 0) then (List.getD x7 (Int.toNat 1) 0) else (List.getD x7 (Int.toNat 0) 0))).bind fun r13 => (bif (Option.isNone r12.2) then (bif (Option.isNone r13.2) then (bif (decide (r13.1 < r12.1)) then (some false) else (bif (decide ((IntKind.i64.wrap (r13.1 - r12.1)) > (IntKind.i64.wrap ((if (List.getD x7 (Int.toNat 1) 0) > (List.getD x7 (Int.toNat 0) 0) then (List.getD x7 (Int.toNat 1) 0) else (List.getD x7 (Int.toNat 0) 0)) - (if (List.getD x7 (Int.toNat 1) 0) < (List.getD x7 (Int.toNat 0) 0) then (List.getD x7 (Int.toNat 1) 0) else (List.getD x7 (Int.toNat 0) 0)))))) then (some false) else ((l_7_0 N ((), (), (), 0, (x4, x5, x6), (x1, x2, x3), (x4, x5, x6))).bind fun q => (match q with | .inl q31 => (some q31) | .inr _ => ((f_21 N).bind fun r33 => (some r33)))))) else ((l_7_0 N ((), (), (), 0, (x4, x5, x6), (x1, x2, x3), (x4, x5, x6))).bind fun q => (match q with | .inl q34 => (some q34) | .inr _ => ((f_21 N).bind fun r36 => (some r36))))) else ((l_7_0 N ((), (), (), 0, (x4, x5, x6), (x1, x2, x3), (x4, x5, x6))).bind fun q => (match q with | .inl q37 => (some q37) | .inr _ => ((f_21 N).bind fun r39 => (some r39)))))))))))
theorem ok_7 (N : Nat) (x1 : Int) (x2 : Int) (x3 : Int) (x4 : Int) (x5 : Int) (x6 : List Int) (x7 : List Int) : f_7 N x1 x2 x3 x4 x5 x6 x7 = exec (X_7 N) Go.Proofs.Tryd.f7.ntmps (lp_7 N) c_7 0 (fnK (X_7 N) Go.Proofs.Tryd.f7.results.toList 0 [.one (.d (.bool))]) (fnSt 3 0 [.agg [.d (.int .i64), .d (.int .i64), .d (.int .i64)], .agg [.d (.int .i64), .d (.int .i64), .d (.sl [.int .i64])], .agg [.d (.arr .i64 2)]] ((x1, x2, x3), (x4, x5, x6), x7)) := by kernel_rfl
noncomputable def S_7 (N : Nat) : Sum := fnSum 3 0 1 [.agg [.d (.int .i64), .d (.int .i64), .d (.int .i64)], .agg [.d (.int .i64), .d (.int .i64), .d (.sl [.int .i64])], .agg [.d (.arr .i64 2)]] [.one (.d (.bool))] (fun p => f_7 N p.1.1 p.1.2.1 p.1.2.2 p.2.1.1 p.2.1.2.1 p.2.1.2.2 p.2.2)
theorem s_7 (N : Nat) : SumOk Go.Proofs.Tryd.prog laidL 7 (S_7 N) :=
  fn_ok (lp := lp_7 N) (x_7 N) Go.Proofs.Tryd.func7 (c := c_7) (by kernel_rfl) (by kernel_rfl) rfl (fun p => ok_7 N p.1.1 p.1.2.1 p.1.2.2 p.2.1.1 p.2.1.2.1 p.2.1.2.2 p.2.2) (loopsAll (by kernel_rfl) ((lookOk_cons (L_ok_7_0 N) lookOk_nil)))
noncomputable def X_8 (N : Nat) : Ctx := ⟨tyT, lookF [(21, (S_21 N)), (29, (S_29 N)), (31, (S_31 N)), (33, (S_33 N)), (28, (S_28 N)), (34, (S_34 N)), (25, (S_25 N))], eqT⟩
noncomputable def c_8 : Code := bodyOf Go.Proofs.Tryd.f8
theorem x_8 (N : Nat) : CtxOk Go.Proofs.Tryd.prog laidL (X_8 N) := ⟨tyOk, eqOk, fun _ _ => (fnsOk_cons (s_21 N) (fnsOk_cons (s_29 N) (fnsOk_cons (s_31 N) (fnsOk_cons (s_33 N) (fnsOk_cons (s_28 N) (fnsOk_cons (s_34 N) (fnsOk_cons (s_25 N) fnsOk_nil))))))).get, by kernel_rfl⟩
noncomputable def nd_8_0 : Code := loopAt 0 0 c_8
noncomputable def cb_8_0 : Code := unloop nd_8_0
theorem ne_8_0 : nd_8_0 = .loop cb_8_0 := by kernel_rfl
noncomputable def sh_8_0 : List ShA := [.one (.d (.int .i64)), .one (.ptr 176 0), .one (.ptr 192 0), .one (.ptr 240 0), .one (.ptr 256 0), .one (.d (.int .i64)), .one (.d (.int .i64)), .one (.d (.bool)), .one (.d (.int .i64)), .agg [.d (.int .i64), .d (.int .i64), .d (.int .i64)], .agg [.d (.int .i64), .d (.int .i64), .d (.sl [.int .i64])], .agg [.d (.int .i64), .d (.int .i64), .d (.int .i64)], .agg [.d (.int .i64), .d (.int .i64), .d (.sl [.int .i64])]]
noncomputable def o_8_0 : OutK 0 (((TAs [.one (.d (.bool))]) ⊕ (TAs [.one (.d (.int .i64)), .one (.d (.int .i64)), .one (.d (.bool))]))) := (outTwo (outOne 0 .ret [6] [] [.one (.d (.bool))]) (outOne 0 (.exit 0) [9, 11, 17] [] [.one (.d (.int .i64)), .one (.d (.int .i64)), .one (.d (.bool))]))
noncomputable def b_8_0 (N : Nat) (ih : TAs sh_8_0 → Option (((TAs [.one (.d (.bool))]) ⊕ (TAs [.one (.d (.int .i64)), .one (.d (.int .i64)), .one (.d (.bool))])))) : TAs sh_8_0 → Option (((TAs [.one (.d (.bool))]) ⊕ (TAs [.one (.d (.int .i64)), .one (.d (.int .i64)), .one (.d (.bool))]))) := fun (y20, _, _, _, _, y21, y22, y23, y24, (y25, y26, y27), (y28, y29, y30), (y31, y32, y33), (y34, y35, y36)) =>
  (bif (decide (y24 < (List.length y30 : Int))) then (bif (y25 != 0) then ((f_25 N y31 y32 y33 y34 y35 y36 y24).bind fun r37 => (bif (!(Option.isNone r37.2.2)) then (some (.inl false)) else (bif y23 then (ih (y20, (), (), (), (), y21, y22, true, (IntKind.i64.wrap (y24 + 1)), (y25, y26, y27), (y28, y29, y30), (y31, y32, y33), (y34, y35, y36))) else (bif (decide (y20 ≥ r37.1)) then (ih (y20, (), (), (), (), y21, y22, (decide (y20 < r37.2.1)), (IntKind.i64.wrap (y24 + 1)), (y25, y26, y27), (y28, y29, y30), (y31, y32, y33), (y34, y35, y36))) else (ih (y20, (), (), (), (), y21, y22, false, (IntKind.i64.wrap (y24 + 1)), (y25, y26, y27), (y28, y29, y30), (y31, y32, y33), (y34, y35, y36))))))) else (some (.inr (y21, y22, y23)))) else (some (.inr (y21, y22, y23))))
noncomputable def l_8_0 (N : Nat) : TAs sh_8_0 → Option (((TAs [.one (.d (.bool))]) ⊕ (TAs [.one (.d (.int .i64)), .one (.d (.int .i64)), .one (.d (.bool))]))) := iter (b_8_0 N) N
noncomputable def lp_8_0 (_ : Nat) : Nat → Option LSum := lookL []
noncomputable def L_8_0 (N : Nat) : LSum := loopSum [2, 3, 4, 7, 8, 9, 11, 17, 18] [176, 192, 240, 256] sh_8_0 o_8_0 (l_8_0 N)
theorem b_ok_8_0 (N : Nat) (ih : TAs sh_8_0 → Option (((TAs [.one (.d (.bool))]) ⊕ (TAs [.one (.d (.int .i64)), .one (.d (.int .i64)), .one (.d (.bool))])))) (p : TAs sh_8_0) : b_8_0 N ih p = exec (X_8 N) Go.Proofs.Tryd.f8.ntmps (lp_8_0 N) cb_8_0 0 (roundK [2, 3, 4, 7, 8, 9, 11, 17, 18] [176, 192, 240, 256] sh_8_0 o_8_0 ih) (stOf [2, 3, 4, 7, 8, 9, 11, 17, 18] [176, 192, 240, 256] sh_8_0 p) := by kernel_rfl
theorem L_ok_8_0 (N : Nat) : SegOk Go.Proofs.Tryd.prog laidL 0 Go.Proofs.Tryd.f8.ntmps nd_8_0 (L_8_0 N) :=
  ne_8_0 ▸ loop_ok (cur := 0) (lp := lp_8_0 N) (x_8 N) (fun n => iter (b_8_0 N) n) (fun _ => rfl) (fun n p => b_ok_8_0 N (iter (b_8_0 N) n) p) (loopsAll (by kernel_rfl) (lookOk_nil)) N
noncomputable def lp_8 (N : Nat) : Nat → Option LSum := lookL [(0, L_8_0 N)]
noncomputable def f_8 (N : Nat) (x1 : Int) (x2 : Int) (x3 : Int) (x4 : Int) (x5 : Int) (x6 : List Int) (x7 : Int) : Option (TAs [.one (.d (.bool))]) :=
  (bif (decide ((List.length x6 : Int) > 40)) then ((f_21 N).bind fun r8 => (some r8)) else ((f_29 N x1 x2 x3 x4 x5 x6).bind fun r9 => (bif (!(Option.isNone r9)) then ((f_21 N).bind fun r10 => (some r10)) else ((f_31 N x1 x2 x3 x4 x5 x6 x7).bind fun r11 => ((f_31 N 0 0 0 x4 x5 x6 x7).bind fun r12 => ((f_33 N x4 x5 x6 x7).bind fun r13 => (bif (!((Option.isNone r11.2) == (Option.isNone r13.2))) then (some false) else (bif (!((Option.isNone r12.2) == (Option.isNone r13.2))) then (some false) else (bif (!(Option.isNone r13.2)) then ((f_28 N r11.2).bind fun r14 => ((f_28 N r13.2).bind fun r15 => (bif (r14 == r15) then ((f_28 N r12.2).bind fun r16 => ((f_28 N r13.2).bind fun r17 => (bif (r16 == r17) then ((f_21 N).bind fun r18 => (some r18)) else (some false)))) else (some false)))) else ((f_34 N x4 x5 x6 r13.1.1).bind fun r19 => (bif (!(Option.isNone r19.2)) then (some false) else (bif (r12.1 != (IntKind.i64.wrap (x7 - (IntKind.i64.wrap (r19.1 * 1000000000))))) then (some false) else ((l_8_0 N (x7, (), (), (), (), r11.1, r12.1, false, 0, (x1, x2, x3), (x4, x5, x6), (x1, x2, x3), (x4, x5, x6))).bind fun q => (match q with | .inl q38 => (some q38) | .inr q39 => (bif q39.2.2 then (bif (decide ((IntKind.i64.wrap (q39.1 - q39.2.1)) ≤ 1000000000)) then (bif (decide ((IntKind.i64.wrap (q39.2.1 - q39.1)) ≤ 1000000000)) then ((f_21 N).bind fun r40 => (some r40)) else (some false)) else (some false)) else (bif (q39.1 == q39.2.1) then (bif (decide ((IntKind.i64.wrap (q39.1 - q39.2.1)) ≤ 1000000000)) then (bif (decide ((IntKind.i64.wrap (q39.2.1 - q39.1)) ≤ 1000000000)) then ((f_21 N).bind fun r41 => (some r41)) else (some false)) else (some false)) else (some false)))))))))))))))))
theorem ok_8 (N : Nat) (x1 : Int) (x2 : Int) (x3 : Int) (x4 : Int) (x5 : Int) (x6 : List Int) (x7 : Int) : f_8 N x1 x2 x3 x4 x5 x6 x7 = exec (X_8 N) Go.Proofs.Tryd.f8.ntmps (lp_8 N) c_8 0 (fnK (X_8 N) Go.Proofs.Tryd.f8.results.toList 0 [.one (.d (.bool))]) (fnSt 3 0 [.agg [.d (.int .i64), .d (.int .i64), .d (.int .i64)], .agg [.d (.int .i64), .d (.int .i64), .d (.sl [.int .i64])], .one (.d (.int .i64))] ((x1, x2, x3), (x4, x5, x6), x7)) := by kernel_rfl
noncomputable def S_8 (N : Nat) : Sum := fnSum 3 0 1 [.agg [.d (.int .i64), .d (.int .i64), .d (.int .i64)], .agg [.d (.int .i64), .d (.int .i64), .d (.sl [.int .i64])], .one (.d (.int .i64))] [.one (.d (.bool))] (fun p => f_8 N p.1.1 p.1.2.1 p.1.2.2 p.2.1.1 p.2.1.2.1 p.2.1.2.2 p.2.2)
theorem s_8 (N : Nat) : SumOk Go.Proofs.Tryd.prog laidL 8 (S_8 N) :=
  fn_ok (lp := lp_8 N) (x_8 N) Go.Proofs.Tryd.func8 (c := c_8) (by kernel_rfl) (by kernel_rfl) rfl (fun p => ok_8 N p.1.1 p.1.2.1 p.1.2.2 p.2.1.1 p.2.1.2.1 p.2.1.2.2 p.2.2) (loopsAll (by kernel_rfl) ((lookOk_cons (L_ok_8_0 N) lookOk_nil)))
end Go.Proofs.YtmdnnlfoljdfpaaDoor.Mir
namespace Go.Proofs.YtmdnnlfoljdfpaaDoor.Mir
open Go Go.RowKit
set_option maxRecDepth 100000
def gI (L : List Int) (i : Nat) : Int := L.getD i 0
def okD (l : Int) (L : List Int) (i : Nat) : Bool := !decide (gI L i < -50000) && (!decide (gI L i ≥ l) && !(decide ((i : Int) > 0) && decide (gI L (i - 1) ≥ gI L i)))
def allD (l : Int) (L : List Int) : Nat → Nat → Bool
  | _, 0 => true
  | i, k + 1 => okD l L i && allD l L (i + 1) k
def tabB (b l : Int) (L : List Int) : Bool := (decide (b ≥ 0) && (decide (b ≤ 100) && (decide (l ≥ -50000) && (decide (l ≤ 50000) && decide ((L.length : Int) ≤ 32))))) && allD l L 0 L.length
theorem lcheck_loop (N : Nat) {b l : Int} {L : List Int} (hL : L.length ≤ 1000000) : ∀ (k M i : Nat), i + k = L.length → k < M → iter (b_55_0 N) M ((), L, (L.length : Int), (i : Int), (b, l, L)) = bif allD l L i k then some (.inr ()) else some (.inl (some 1)) := by
  intro k
  induction k with
  | zero =>
    intro M i hi hM
    obtain ⟨M, rfl⟩ : ∃ m, M = m + 1 := ⟨M - 1, by omega⟩
    show b_55_0 N (iter (b_55_0 N) M) _ = _
    unfold b_55_0
    simp only
    rw [decide_eq_false (show ¬ (i : Int) < (L.length : Int) by omega)]; rfl
  | succ k ih =>
    intro M i hi hM
    obtain ⟨M, rfl⟩ : ∃ m, M = m + 1 := ⟨M - 1, by omega⟩
    have ih' := ih M (i + 1) (by omega) (by omega)
    show b_55_0 N (iter (b_55_0 N) M) _ = _
    generalize iter (b_55_0 N) M = I at ih' ⊢
    unfold b_55_0
    simp only
    rw [decide_eq_true (show (i : Int) < (L.length : Int) by omega), decide_eq_true (show 0 ≤ (i : Int) ∧ (i : Int) < (L.length : Int) by omega), wi64 (n := (i : Int) + 1) (by omega) (by omega), show (i : Int) + 1 = ((i + 1 : Nat) : Int) by omega, ih']
    simp only [cond_true, Int.toNat_natCast]
    show _ = bif (okD l L i && allD l L (i + 1) k) then _ else _
    unfold okD
    show (bif decide (gI L i < -50000) then _ else (bif decide (gI L i ≥ l) then _ else _)) = _
    generalize decide (gI L i < -50000) = t3
    generalize decide (gI L i ≥ l) = t4
    by_cases h0 : (i : Int) > 0
    · rw [decide_eq_true h0, wi64 (n := (i : Int) - 1) (by omega) (by omega), decide_eq_true (show 0 ≤ (i : Int) - 1 ∧ (i : Int) - 1 < (L.length : Int) by omega), show ((i : Int) - 1).toNat = i - 1 by omega]
      show (bif t3 then _ else (bif t4 then _ else (bif decide (gI L (i - 1) ≥ gI L i) then _ else _))) = _
      generalize decide (gI L (i - 1) ≥ gI L i) = t5
      cases t3 <;> cases t4 <;> cases t5 <;> rfl
    · rw [decide_eq_false h0]
      cases t3 <;> cases t4 <;> rfl
theorem not_le_dec (x y : Int) : decide (x < y) = !decide (x ≥ y) := by
  by_cases h : x < y
  · rw [decide_eq_true h, decide_eq_false (by omega)]; rfl
  · rw [decide_eq_false h, decide_eq_true (by omega)]; rfl
theorem not_ge_dec (x y : Int) : decide (x > y) = !decide (x ≤ y) := by
  by_cases h : x > y
  · rw [decide_eq_true h, decide_eq_false (by omega)]; rfl
  · rw [decide_eq_false h, decide_eq_true (by omega)]; rfl
theorem lcheck_at {N : Nat} {b l : Int} {L : List Int} (hL : L.length ≤ 1000000) (hN : L.length < N) : f_55 N b l L = some (bif tabB b l L then none else some 1) := by
  have h := lcheck_loop N (b := b) (l := l) hL L.length N 0 (by omega) hN
  have h' : l_55_0 N ((), L, (L.length : Int), 0, (b, l, L)) = bif allD l L 0 L.length then some (.inr ()) else some (.inl (some 1)) := h
  unfold f_55 tabB
  rw [h', not_le_dec b 0, not_ge_dec b 100, not_le_dec l (-50000), not_ge_dec l 50000, not_ge_dec (L.length : Int) 32]
  cases decide (b ≥ 0) <;> cases decide (b ≤ 100) <;> cases decide (l ≥ -50000) <;> cases decide (l ≤ 50000) <;> cases decide ((L.length : Int) ≤ 32) <;> cases allD l L 0 L.length <;> rfl
theorem lmay_loop (N : Nat) {b l : Int} {L : List Int} (hL : L.length ≤ 1000000) : ∀ (k M i : Nat), i + k = L.length → k < M → iter (b_53_0 N) M ((), (i : Int), (b, l, L)) = bif allD l L i k then some (.inr ((), (b, l, L))) else some (.inl false) := by
  intro k
  induction k with
  | zero =>
    intro M i hi hM
    obtain ⟨M, rfl⟩ : ∃ m, M = m + 1 := ⟨M - 1, by omega⟩
    show b_53_0 N (iter (b_53_0 N) M) _ = _
    unfold b_53_0
    simp only
    rw [decide_eq_false (show ¬ (i : Int) < (L.length : Int) by omega)]; rfl
  | succ k ih =>
    intro M i hi hM
    obtain ⟨M, rfl⟩ : ∃ m, M = m + 1 := ⟨M - 1, by omega⟩
    have ih' := ih M (i + 1) (by omega) (by omega)
    show b_53_0 N (iter (b_53_0 N) M) _ = _
    generalize iter (b_53_0 N) M = I at ih' ⊢
    unfold b_53_0
    simp only
    rw [decide_eq_true (show (i : Int) < (L.length : Int) by omega), decide_eq_true (show 0 ≤ (i : Int) ∧ (i : Int) < (L.length : Int) by omega), wi64 (n := (i : Int) + 1) (by omega) (by omega), show (i : Int) + 1 = ((i + 1 : Nat) : Int) by omega, ih']
    simp only [cond_true, Int.toNat_natCast]
    show _ = bif (okD l L i && allD l L (i + 1) k) then _ else _
    unfold okD
    show (bif decide (gI L i < -50000) then _ else (bif decide (gI L i ≥ l) then _ else _)) = _
    generalize decide (gI L i < -50000) = t3
    generalize decide (gI L i ≥ l) = t4
    by_cases h0 : (i : Int) > 0
    · rw [decide_eq_true h0, wi64 (n := (i : Int) - 1) (by omega) (by omega), decide_eq_true (show 0 ≤ (i : Int) - 1 ∧ (i : Int) - 1 < (L.length : Int) by omega), show ((i : Int) - 1).toNat = i - 1 by omega]
      show (bif t3 then _ else (bif t4 then _ else (bif decide (gI L i ≤ gI L (i - 1)) then _ else _))) = _
      rw [show decide (gI L (i - 1) ≥ gI L i) = decide (gI L i ≤ gI L (i - 1)) from rfl]
      generalize decide (gI L i ≤ gI L (i - 1)) = t5
      cases t3 <;> cases t4 <;> cases t5 <;> rfl
    · rw [decide_eq_false h0]
      cases t3 <;> cases t4 <;> rfl
theorem lmay_at {N : Nat} {b l : Int} {L : List Int} (hL : L.length ≤ 1000000) (hN : L.length < N) : f_53 N b l L = some (tabB b l L) := by
  have h := lmay_loop N (b := b) (l := l) hL L.length N 0 (by omega) hN
  have h' : l_53_0 N ((), 0, (b, l, L)) = bif allD l L 0 L.length then some (.inr ((), (b, l, L))) else some (.inl false) := h
  unfold f_53 tabB
  rw [h']
  cases allD l L 0 L.length with
  | false =>
    show some false = _
    simp
  | true =>
    show (bif decide (b ≥ 0) then (bif decide (b ≤ 100) then (bif decide (l ≥ -50000) then (bif decide (l ≤ 50000) then some (decide ((L.length : Int) ≤ 32)) else some false) else some false) else some false) else some false) = _
    cases decide (b ≥ 0) <;> cases decide (b ≤ 100) <;> cases decide (l ≥ -50000) <;> cases decide (l ≤ 50000) <;> cases decide ((L.length : Int) ≤ 32) <;> rfl
structure Tab (b l : Int) (L : List Int) : Prop where
  b0 : 0 ≤ b
  b1 : b ≤ 100
  l0 : -50000 ≤ l
  l1 : l ≤ 50000
  len : L.length ≤ 32
  lo : ∀ i, i < L.length → -50000 ≤ gI L i
  hi : ∀ i, i < L.length → gI L i < l
  srt : ∀ i j, i < j → j < L.length → gI L i < gI L j
theorem allD_at {l : Int} {L : List Int} : ∀ {k i : Nat}, allD l L i k = true → ∀ j, i ≤ j → j < i + k → okD l L j = true
  | 0, _, _, j, h1, h2 => by omega
  | k + 1, i, h, j, h1, h2 => by
    simp only [allD, Bool.and_eq_true] at h
    by_cases hj : j = i
    · subst hj; exact h.1
    · exact allD_at h.2 j (by omega) (by omega)
theorem okD_step {l : Int} {L : List Int} {i : Nat} (h : okD l L (i + 1) = true) : gI L i < gI L (i + 1) := by
  unfold okD at h
  simp only [Bool.and_eq_true] at h
  have h5 := h.2.2
  rw [decide_eq_true (show ((i + 1 : Nat) : Int) > 0 by omega), Nat.add_sub_cancel] at h5
  simp only [Bool.true_and, Bool.not_eq_true', decide_eq_false_iff_not] at h5
  omega
theorem tab_of {b l : Int} {L : List Int} (h : tabB b l L = true) : Tab b l L := by
  unfold tabB at h
  simp only [Bool.and_eq_true, decide_eq_true_eq] at h
  obtain ⟨⟨h1, h2, h3, h4, h5⟩, h6⟩ := h
  have ok : ∀ i, i < L.length → okD l L i = true := fun i hi => allD_at h6 i (by omega) (by omega)
  refine ⟨by omega, by omega, by omega, by omega, by omega, fun i hi => ?_, fun i hi => ?_, fun i j => ?_⟩
  · have := ok i hi
    unfold okD at this
    simp only [Bool.and_eq_true, Bool.not_eq_true', decide_eq_false_iff_not] at this
    omega
  · have := ok i hi
    unfold okD at this
    simp only [Bool.and_eq_true, Bool.not_eq_true', decide_eq_false_iff_not] at this
    omega
  · induction j with
    | zero => intro h1; omega
    | succ j ih =>
      intro h1 h2
      have a := okD_step (ok (j + 1) h2)
      by_cases hj : i = j
      · subst hj; exact a
      · exact Int.lt_trans (ih (by omega) (by omega)) a
def cntD (d : Int) : List Int → Nat
  | [] => 0
  | x :: r => (if x < d then 1 else 0) + cntD d r
theorem cntD_le (d : Int) : ∀ L, cntD d L ≤ L.length
  | [] => Nat.le_refl _
  | x :: r => by
    have := cntD_le d r
    simp only [cntD, List.length_cons]
    split <;> omega
def secD (b : Int) (L : List Int) (d : Int) : Int := 86400 * d + b + cntD d L
theorem lsec_loop (N : Nat) {b l d : Int} {L : List Int} (hL : L.length ≤ 1000000) : ∀ (k M i : Nat) (a : Int), i + k = L.length → k < M → -1000000000000 ≤ a → a + k ≤ 1000000000000 → iter (b_56_0 N) M (d, (), a, (i : Int), (b, l, L)) = some (a + cntD d (L.drop i)) := by
  intro k
  induction k with
  | zero =>
    intro M i a hi hM h0 h1
    obtain ⟨M, rfl⟩ : ∃ m, M = m + 1 := ⟨M - 1, by omega⟩
    show b_56_0 N (iter (b_56_0 N) M) _ = _
    unfold b_56_0
    simp only
    rw [decide_eq_false (show ¬ (i : Int) < (L.length : Int) by omega), List.drop_eq_nil_of_le (by omega)]
    simp [cntD]
  | succ k ih =>
    intro M i a hi hM h0 h1
    obtain ⟨M, rfl⟩ : ∃ m, M = m + 1 := ⟨M - 1, by omega⟩
    have ih0 := ih M (i + 1) a (by omega) (by omega) h0 (by omega)
    have ih1 := ih M (i + 1) (a + 1) (by omega) (by omega) (by omega) (by omega)
    have hi' : i < L.length := by omega
    have e : gI L i = L[i] := by unfold gI; rw [List.getD_eq_getElem?_getD, List.getElem?_eq_getElem hi']; rfl
    show b_56_0 N (iter (b_56_0 N) M) _ = _
    generalize iter (b_56_0 N) M = I at ih0 ih1 ⊢
    unfold b_56_0
    simp only
    rw [decide_eq_true (show (i : Int) < (L.length : Int) by omega), decide_eq_true (show 0 ≤ (i : Int) ∧ (i : Int) < (L.length : Int) by omega), wi64 (n := (i : Int) + 1) (by omega) (by omega), wi64 (n := a + 1) (by omega) (by omega), show (i : Int) + 1 = ((i + 1 : Nat) : Int) by omega, ih0, ih1, List.drop_eq_getElem_cons hi']
    simp only [cond_true, Int.toNat_natCast, cntD]
    show (bif decide (gI L i < d) then _ else _) = _
    rw [e]
    by_cases h : L[i] < d
    · rw [decide_eq_true h, if_pos h, cond_true]; congr 1; omega
    · rw [decide_eq_false h, if_neg h, cond_false]; congr 1; omega
theorem lsec_at {N : Nat} {b d : Int} {L : List Int} (l : Int) (hL : L.length ≤ 1000000) (hN : L.length < N) (b0 : 0 ≤ b) (b1 : b ≤ 100) (d0 : -1000000 ≤ d) (d1 : d ≤ 1000000) : f_56 N b l L d = some (secD b L d) := by
  have h := lsec_loop N (b := b) (l := l) (d := d) hL L.length N 0 (86400 * d + b) (by omega) hN (by omega) (by omega)
  have h' : l_56_0 N (d, (), 86400 * d + b, 0, (b, l, L)) = some (86400 * d + b + cntD d L) := h
  unfold f_56
  rw [wi64 (n := 86400 * d) (by omega) (by omega), wi64 (by omega) (by omega), h']; rfl
theorem cnt_uniq (d : Int) : ∀ (L : List Int) (m : Nat), m ≤ L.length → (∀ i, i < m → gI L i < d) → (∀ i, m ≤ i → i < L.length → d ≤ gI L i) → cntD d L = m
  | [], m, h, _, _ => by simp at h; simp [cntD, h]
  | x :: r, 0, h, _, h2 => by
    have hx := h2 0 (Nat.le_refl _) (by simp)
    have ih := cnt_uniq d r 0 (Nat.zero_le _) (fun i hi => by omega) (fun i _ hi => h2 (i + 1) (Nat.zero_le _) (by simp; omega))
    have hx' : d ≤ x := hx
    simp only [cntD]
    rw [if_neg (by omega), ih]
  | x :: r, m + 1, h, h1, h2 => by
    have hx := h1 0 (by omega)
    have ih := cnt_uniq d r m (by simp at h; omega) (fun i hi => h1 (i + 1) (by omega)) (fun i h3 hi => h2 (i + 1) (by omega) (by simp; omega))
    have hx' : x < d := hx
    simp only [cntD]
    rw [if_pos hx', ih]; omega
theorem cnt_mono {d e : Int} (h : d ≤ e) : ∀ L, cntD d L ≤ cntD e L
  | [] => Nat.le_refl _
  | x :: r => by
    have := cnt_mono h r
    simp only [cntD]
    split <;> split <;> omega
theorem secD_step (b : Int) (L : List Int) (d : Int) : secD b L d + 86400 ≤ secD b L (d + 1) := by
  have := cnt_mono (show d ≤ d + 1 by omega) L
  unfold secD; omega
theorem secD_mono (b : Int) (L : List Int) {d e : Int} (h : d ≤ e) : secD b L d ≤ secD b L e := by
  have := cnt_mono h L
  unfold secD; omega
theorem secD_lt {b : Int} {L : List Int} {d e : Int} (h : secD b L d < secD b L e) : d < e := by
  rcases Int.lt_or_le d e with h1 | h1
  · exact h1
  · have := secD_mono b L h1; omega
theorem less_at (N : Nat) (a b : Int) : f_126 N a b = some (decide (a < b)) := by
  unfold f_126 f_108
  simp only [bne_self_eq_false, Option.bind_some, cond_false]
theorem mid_eq {i j : Nat} (h : i + j < 4000000) : IntKind.i64.wrap ((IntKind.u64.wrap (IntKind.i64.wrap ((i : Int) + (j : Int)))) / 2 ^ (min (Int.toNat 1) IntKind.u64.bits)) = (((i + j) / 2 : Nat) : Int) := by
  have e : (2 : Int) ^ (min (Int.toNat 1) IntKind.u64.bits) = 2 := by decide
  rw [e, wi64 (n := (i : Int) + (j : Int)) (by omega) (by omega), wu64 (by omega) (by omega), wi64 (by omega) (by omega)]
  omega
theorem bsi_loop (N : Nat) {L : List Int} {t : Int} (hL : L.length ≤ 1000000) (hs : ∀ i j, i < j → j < L.length → gI L i < gI L j) : ∀ (k M i j : Nat), i + k = j → j ≤ L.length → k < M → (∀ q, q < i → gI L q < t) → (∀ q, j ≤ q → q < L.length → t ≤ gI L q) →
    iter (b_96_0 N) M (L, t, (L.length : Int), (i : Int), (j : Int)) = some (L, t, (L.length : Int), (cntD t L : Int)) := by
  intro k
  induction k using Nat.strongRecOn with
  | ind k ih =>
    intro M i j hk hj hM hlo hhi
    obtain ⟨M, rfl⟩ : ∃ m, M = m + 1 := ⟨M - 1, by omega⟩
    by_cases hij : i < j
    rotate_left
    · obtain rfl : i = j := by omega
      rw [cnt_uniq t L i hj hlo hhi]
      show b_96_0 N (iter (b_96_0 N) M) _ = _
      unfold b_96_0
      simp only
      rw [decide_eq_false (show ¬ (i : Int) < (i : Int) by omega)]; rfl
    · have hm1 : i ≤ (i + j) / 2 := by omega
      have hm2 : (i + j) / 2 < j := by omega
      have e0 : ∀ I, b_96_0 N I (L, t, (L.length : Int), (i : Int), (j : Int)) = bif decide (gI L ((i + j) / 2) < t) then I (L, t, (L.length : Int), (((i + j) / 2 + 1 : Nat) : Int), (j : Int)) else I (L, t, (L.length : Int), (i : Int), (((i + j) / 2 : Nat) : Int)) := fun I => by
        unfold b_96_0
        simp only
        rw [mid_eq (by omega), decide_eq_true (show (i : Int) < (j : Int) by omega), decide_eq_true (show 0 ≤ (((i + j) / 2 : Nat) : Int) ∧ (((i + j) / 2 : Nat) : Int) < (L.length : Int) by omega), less_at, wi64 (n := (((i + j) / 2 : Nat) : Int) + 1) (by omega) (by omega), Int.toNat_natCast]
        rfl
      show b_96_0 N (iter (b_96_0 N) M) (L, t, (L.length : Int), (i : Int), (j : Int)) = _
      rw [e0]
      by_cases h : gI L ((i + j) / 2) < t
      · rw [decide_eq_true h]
        exact ih (j - ((i + j) / 2 + 1)) (by omega) M ((i + j) / 2 + 1) j (by omega) hj (by omega) (fun q hq => by
          by_cases hq2 : q = (i + j) / 2
          · subst hq2; exact h
          · exact Int.lt_trans (hs q ((i + j) / 2) (by omega) (by omega)) h) hhi
      · rw [decide_eq_false h]
        exact ih ((i + j) / 2 - i) (by omega) M i ((i + j) / 2) (by omega) (by omega) (by omega) hlo (fun q h1 h2 => by
          by_cases hq2 : q = (i + j) / 2
          · subst hq2; omega
          · have := hs ((i + j) / 2) q (by omega) h2
            omega)
theorem bsi_at {N : Nat} {L : List Int} (t : Int) (hL : L.length ≤ 1000000) (hN : L.length < N) (hs : ∀ i j, i < j → j < L.length → gI L i < gI L j) : ∃ f, f_96 N L t = some ((cntD t L : Int), f) := by
  have h := bsi_loop N (t := t) hL hs L.length N 0 L.length (by omega) (Nat.le_refl _) hN (fun q hq => by omega) (fun q h1 h2 => by omega)
  have h' : l_96_0 N (L, t, (L.length : Int), 0, (L.length : Int)) = some (L, t, (L.length : Int), (cntD t L : Int)) := h
  unfold f_96
  rw [h']
  simp only [Option.bind_some]
  by_cases hm : (cntD t L : Int) < (L.length : Int)
  · rw [decide_eq_true hm, decide_eq_true (show 0 ≤ (cntD t L : Int) ∧ (cntD t L : Int) < (L.length : Int) by omega)]
    simp only [cond_true]
    cases (L.getD (Int.toNat (cntD t L : Int)) 0 == t) with
    | true => exact ⟨true, rfl⟩
    | false =>
      unfold f_127
      simp only [bne_self_eq_false, Option.bind_some, cond_false]
      exact ⟨false, rfl⟩
  · rw [decide_eq_false hm]; exact ⟨false, rfl⟩
theorem ahd_at {N : Nat} {b l : Int} {L : List Int} (T : Tab b l L) (hN : 33 ≤ N) (d : Int) : f_62 N b l L d = some (b + cntD d L) := by
  have h1 := T.len
  have h2 := T.b0
  have h3 := T.b1
  obtain ⟨f, hf⟩ := bsi_at (N := N) d (by omega) (by omega) T.srt
  have h4 := cntD_le d L
  unfold f_62
  rw [hf]
  simp only [Option.bind_some]
  rw [wi64 (by omega) (by omega)]
theorem begin_at {N : Nat} {b l : Int} {L : List Int} (T : Tab b l L) (hN : 33 ≤ N) {d : Int} (d0 : -1000000 ≤ d) (d1 : d ≤ 1000000) : f_60 N b l L d = some (secD b L d) := by
  have h1 := T.len
  have h2 := T.b0
  have h3 := T.b1
  have h4 := cntD_le d L
  unfold f_60
  rw [ahd_at T hN]
  simp only [Option.bind_some]
  have e : d * 86400 + (b + (cntD d L : Int)) = secD b L d := by unfold secD; omega
  rw [wi64 (n := d * 86400) (by omega) (by omega), wi64 (by omega) (by omega), e]
theorem div9_at (N : Nat) {a : Int} (h : -9223372036854775808 ≤ a) (h2 : a < 9223372036854775808) : f_59 N a 1000000000 = some (a / 1000000000, a % 1000000000, none) := by
  unfold f_59
  rcases Int.lt_or_le a 0 with h0 | h0
  · obtain ⟨n, rfl⟩ : ∃ n, a = -n := ⟨-a, by omega⟩
    rw [Int.neg_tdiv, Int.neg_tmod, Int.tdiv_eq_ediv_of_nonneg (by omega), Int.tmod_eq_emod_of_nonneg (by omega)]
    by_cases h3 : n % 1000000000 = 0
    · rw [decide_eq_false (show ¬ -(n % 1000000000) < 0 by omega), wi64 (n := -(n / 1000000000)) (by omega) (by omega)]
      show some (_, _, none) = _
      rw [show -(n / 1000000000) = -n / 1000000000 by omega, show -(n % 1000000000) = -n % 1000000000 by omega]
    · rw [decide_eq_true (show -(n % 1000000000) < 0 by omega), wi64 (n := -(n / 1000000000)) (by omega) (by omega), wi64 (n := -(n / 1000000000) - 1) (by omega) (by omega), wi64 (n := -(n % 1000000000) + 1000000000) (by omega) (by omega)]
      show some (_, _, none) = _
      rw [show -(n / 1000000000) - 1 = -n / 1000000000 by omega, show -(n % 1000000000) + 1000000000 = -n % 1000000000 by omega]
  · rw [Int.tdiv_eq_ediv_of_nonneg h0, Int.tmod_eq_emod_of_nonneg h0, decide_eq_false (show ¬ a % 1000000000 < 0 by omega), wi64 (n := a / 1000000000) (by omega) (by omega)]
    rfl
theorem div864_at (N : Nat) {a : Int} (h : -9223372036854775808 ≤ a) (h2 : a < 9223372036854775808) : f_59 N a 86400 = some (a / 86400, a % 86400, none) := by
  unfold f_59
  rcases Int.lt_or_le a 0 with h0 | h0
  · obtain ⟨n, rfl⟩ : ∃ n, a = -n := ⟨-a, by omega⟩
    rw [Int.neg_tdiv, Int.neg_tmod, Int.tdiv_eq_ediv_of_nonneg (by omega), Int.tmod_eq_emod_of_nonneg (by omega)]
    by_cases h3 : n % 86400 = 0
    · rw [decide_eq_false (show ¬ -(n % 86400) < 0 by omega), wi64 (n := -(n / 86400)) (by omega) (by omega)]
      show some (_, _, none) = _
      rw [show -(n / 86400) = -n / 86400 by omega, show -(n % 86400) = -n % 86400 by omega]
    · rw [decide_eq_true (show -(n % 86400) < 0 by omega), wi64 (n := -(n / 86400)) (by omega) (by omega), wi64 (n := -(n / 86400) - 1) (by omega) (by omega), wi64 (n := -(n % 86400) + 86400) (by omega) (by omega)]
      show some (_, _, none) = _
      rw [show -(n / 86400) - 1 = -n / 86400 by omega, show -(n % 86400) + 86400 = -n % 86400 by omega]
  · rw [Int.tdiv_eq_ediv_of_nonneg h0, Int.tmod_eq_emod_of_nonneg h0, decide_eq_false (show ¬ a % 86400 < 0 by omega), wi64 (n := a / 86400) (by omega) (by omega)]
    rfl
def dayS (b : Int) (L : List Int) (s : Int) : Int := if secD b L (s / 86400) ≤ s then s / 86400 else s / 86400 - 1
theorem dayS_spec {b l : Int} {L : List Int} (T : Tab b l L) (s : Int) : secD b L (dayS b L s) ≤ s ∧ s < secD b L (dayS b L s + 1) := by
  have h1 := T.len
  have h2 := T.b0
  have h3 := T.b1
  have h5 := cntD_le (s / 86400 - 1) L
  unfold dayS
  by_cases h : secD b L (s / 86400) ≤ s
  · rw [if_pos h]
    refine ⟨h, ?_⟩
    unfold secD; omega
  · rw [if_neg h]
    refine ⟨?_, by rw [Int.sub_add_cancel]; omega⟩
    unfold secD; omega
theorem day_uniq {b : Int} {L : List Int} {s d e : Int} (h1 : secD b L d ≤ s) (h2 : s < secD b L (d + 1)) (h3 : secD b L e ≤ s) (h4 : s < secD b L (e + 1)) : d = e := by
  have a := secD_lt (Int.lt_of_le_of_lt h1 h4)
  have c := secD_lt (Int.lt_of_le_of_lt h3 h2)
  omega
theorem utc_loop (N : Nat) (hN : 33 ≤ N) {b l : Int} {L : List Int} (T : Tab b l L) {s : Int} (nano : Int) (z : Int × Int × Int) {e : Int} (e0 : -900000 ≤ e) (e1 : secD b L e ≤ s) (e2 : s < secD b L (e + 1)) : ∀ (k M : Nat) (d : Int), d = e + k → d ≤ 900000 → k < M →
    iter (b_33_0 N) M ((), (), s, nano, d, (b, l, L), z) = some ((), (), s, nano, e, (b, l, L), z) := by
  intro k
  induction k with
  | zero =>
    intro M d hd h2 hM
    obtain ⟨M, rfl⟩ : ∃ m, M = m + 1 := ⟨M - 1, by omega⟩
    obtain rfl : d = e := by omega
    show b_33_0 N (iter (b_33_0 N) M) _ = _
    unfold b_33_0
    simp only
    rw [begin_at T hN (by omega) (by omega)]
    simp only [Option.bind_some]
    rw [decide_eq_false (show ¬ s < secD b L d by omega)]; rfl
  | succ k ih =>
    intro M d hd h2 hM
    obtain ⟨M, rfl⟩ : ∃ m, M = m + 1 := ⟨M - 1, by omega⟩
    have ih' := ih M (d - 1) (by omega) (by omega) (by omega)
    have hs : s < secD b L d := Int.lt_of_lt_of_le e2 (secD_mono b L (by omega))
    show b_33_0 N (iter (b_33_0 N) M) _ = _
    generalize iter (b_33_0 N) M = I at ih' ⊢
    unfold b_33_0
    simp only
    rw [begin_at T hN (by omega) (by omega)]
    simp only [Option.bind_some]
    rw [decide_eq_true hs, wi64 (n := d - 1) (by omega) (by omega), ih']; rfl
def utcE (b l : Int) (L : List Int) (tai : Int) : Int :=
  if tai ≤ -4611686018427387904 ∨ tai ≥ 4611686018427387904 then 2 else if tai / 1000000000 < secD b L (-50000) then 2 else if tai / 1000000000 ≥ secD b L l then 10 else 0
theorem utc_bad {N : Nat} {b l : Int} {L : List Int} (tai : Int) (hL : L.length ≤ 1000000) (hN : L.length < N) (h : tabB b l L = false) : f_33 N b l L tai = some ((0, 0, 0), some 1) := by
  unfold f_33
  rw [lcheck_at hL hN, h]; rfl
theorem utc_at {N : Nat} (hN : 33 ≤ N) {b l : Int} {L : List Int} (h : tabB b l L = true) {tai : Int} (t0 : -9223372036854775808 ≤ tai) (t1 : tai < 9223372036854775808) :
    f_33 N b l L tai = some (if utcE b l L tai = 0 then ((dayS b L (tai / 1000000000), tai / 1000000000 - secD b L (dayS b L (tai / 1000000000)), tai % 1000000000), none) else ((0, 0, 0), some (utcE b l L tai))) := by
  have T := tab_of h
  have h1 := T.len
  have l0 := T.l0
  have l1 := T.l1
  unfold f_33
  rw [lcheck_at (by omega) (by omega), h, div9_at N t0 t1]
  simp only [cond_true, Option.bind_some, Option.isNone_none, Bool.not_true, cond_false]
  by_cases g1 : tai ≤ -4611686018427387904
  · have hE : utcE b l L tai = 2 := by unfold utcE; rw [if_pos (.inl g1)]
    rw [decide_eq_true g1, hE]; rfl
  rw [decide_eq_false g1, cond_false]
  by_cases g2 : tai ≥ 4611686018427387904
  · have hE : utcE b l L tai = 2 := by unfold utcE; rw [if_pos (.inr g2)]
    rw [decide_eq_true g2, hE]; rfl
  rw [decide_eq_false g2, cond_false, begin_at T hN (by omega) (by omega)]
  simp only [Option.bind_some]
  by_cases g3 : tai / 1000000000 < secD b L (-50000)
  · have hE : utcE b l L tai = 2 := by unfold utcE; rw [if_neg (by omega), if_pos g3]
    rw [decide_eq_true g3, hE]; rfl
  rw [decide_eq_false g3, cond_false, begin_at T hN (by omega) (by omega)]
  simp only [Option.bind_some]
  by_cases g4 : tai / 1000000000 ≥ secD b L l
  · have hE : utcE b l L tai = 10 := by unfold utcE; rw [if_neg (by omega), if_neg g3, if_pos g4]
    rw [decide_eq_true g4, hE]; rfl
  have hE : utcE b l L tai = 0 := by unfold utcE; rw [if_neg (by omega), if_neg g3, if_neg g4]
  rw [hE, decide_eq_false g4, cond_false, div864_at N (by omega) (by omega)]
  simp only [Option.bind_some, Option.isNone_none, Bool.not_true, cond_false]
  obtain ⟨s1, s2⟩ := dayS_spec T (tai / 1000000000)
  have hd : dayS b L (tai / 1000000000) = tai / 1000000000 / 86400 ∨ dayS b L (tai / 1000000000) = tai / 1000000000 / 86400 - 1 := by unfold dayS; split <;> omega
  have hb : -900000 ≤ tai / 1000000000 / 86400 ∧ tai / 1000000000 / 86400 ≤ 800000 := by omega
  have hlp := utc_loop N hN T (tai % 1000000000) (0, 0, 0) (by omega) s1 s2 (tai / 1000000000 / 86400 - dayS b L (tai / 1000000000)).toNat N (tai / 1000000000 / 86400) (by omega) (by omega) (by omega)
  have hlp' : l_33_0 N ((), (), tai / 1000000000, tai % 1000000000, tai / 1000000000 / 86400, (b, l, L), (0, 0, 0)) = some ((), (), tai / 1000000000, tai % 1000000000, dayS b L (tai / 1000000000), (b, l, L), (0, 0, 0)) := hlp
  rw [hlp']
  simp only [Option.bind_some]
  rw [begin_at T hN (by omega) (by omega)]
  simp only [Option.bind_some]
  have hw := secD_step b L (dayS b L (tai / 1000000000))
  have c1 := cntD_le (dayS b L (tai / 1000000000)) L
  have c2 := T.b0
  have c3 := T.b1
  rw [wi64 (n := tai / 1000000000 - _) (by unfold secD; omega) (by unfold secD; omega), if_pos trivial]
def hwZ : Nat → Int
  | 0 => 1
  | n + 1 => 2 * hwZ n
theorem tdiv2 (x : Int) : Int.tdiv x 2 = if 0 ≤ x then x / 2 else -(-x / 2) := by
  by_cases h : 0 ≤ x
  · rw [if_pos h, Int.tdiv_eq_ediv_of_nonneg h]
  · rw [if_neg h]
    have e : x = -(-x) := by omega
    conv => lhs; rw [e, Int.neg_tdiv, Int.tdiv_eq_ediv_of_nonneg (by omega)]
theorem rutc_loop (N : Nat) (hN : 33 ≤ N) {b l : Int} {L : List Int} (T : Tab b l L) (tai : Int) {s : Int} (z : Int × Int × Int) {e : Int} (e1 : secD b L e ≤ s) (e2 : s < secD b L (e + 1)) : ∀ (f M : Nat) (lo hi : Int), hi - lo ≤ hwZ f → lo < hi → -50000 ≤ lo → hi ≤ 50000 → secD b L lo ≤ s → s < secD b L hi → f < M →
    iter (b_58_0 N) M (tai, (), (), s, lo, hi, (b, l, L), z) = some (tai, (), (), s, e, (b, l, L), z) := by
  have hl := T.len
  have b0 := T.b0
  have b1 := T.b1
  have stop : ∀ (M : Nat) (lo hi : Int), ¬ hi - lo > 1 → lo < hi → -50000 ≤ lo → hi ≤ 50000 → secD b L lo ≤ s → s < secD b L hi → iter (b_58_0 N) (M + 1) (tai, (), (), s, lo, hi, (b, l, L), z) = some (tai, (), (), s, e, (b, l, L), z) := by
    intro M lo hi h h1 h2 h3 h4 h5
    obtain rfl : hi = lo + 1 := by omega
    obtain rfl := day_uniq h4 h5 e1 e2
    show b_58_0 N (iter (b_58_0 N) M) _ = _
    unfold b_58_0
    simp only
    rw [wi64 (n := lo + 1 - lo) (by omega) (by omega), decide_eq_false h]; rfl
  intro f
  induction f with
  | zero =>
    intro M lo hi h h1 h2 h3 h4 h5 hM
    obtain ⟨M, rfl⟩ : ∃ m, M = m + 1 := ⟨M - 1, by omega⟩
    have : hwZ 0 = 1 := rfl
    exact stop M lo hi (by omega) h1 h2 h3 h4 h5
  | succ f ih =>
    intro M lo hi h h1 h2 h3 h4 h5 hM
    obtain ⟨M, rfl⟩ : ∃ m, M = m + 1 := ⟨M - 1, by omega⟩
    by_cases hg : hi - lo > 1
    rotate_left
    · exact stop M lo hi hg h1 h2 h3 h4 h5
    have hw : hwZ (f + 1) = 2 * hwZ f := rfl
    have em : Int.tdiv (lo + hi) 2 = if 0 ≤ lo + hi then (lo + hi) / 2 else -(-(lo + hi) / 2) := tdiv2 _
    generalize hm : Int.tdiv (lo + hi) 2 = m at em
    have m1 : lo < m ∧ m < hi ∧ m - lo ≤ hwZ f ∧ hi - m ≤ hwZ f := by
      rw [em]; split <;> omega
    have ihl := ih M m hi (by omega) (by omega) (by omega) h3
    have ihr := ih M lo m (by omega) (by omega) h2 (by omega)
    show b_58_0 N (iter (b_58_0 N) M) _ = _
    generalize iter (b_58_0 N) M = I at ihl ihr ⊢
    unfold b_58_0
    simp only
    rw [wi64 (n := hi - lo) (by omega) (by omega), decide_eq_true hg, wi64 (n := lo + hi) (by omega) (by omega), hm, wi64 (n := m) (by omega) (by omega), lsec_at l (by omega) (by omega) b0 b1 (by omega) (by omega)]
    simp only [cond_true, Option.bind_some]
    by_cases hs : secD b L m ≤ s
    · rw [decide_eq_true hs, cond_true]
      exact ihl hs h5 (by omega)
    · rw [decide_eq_false hs, cond_false]
      exact ihr h4 (by omega) (by omega)
noncomputable def rtail (N : Nat) (b l : Int) (L : List Int) (tai s : Int) : Option ((Int × Int × Int) × Int) :=
  ((f_56 N b l L (-50000)).bind fun r21 => (bif (decide (s < r21)) then (some ((0, 0, 0), 2)) else ((f_56 N b l L l).bind fun r22 => (bif (decide (s ≥ r22)) then (some ((0, 0, 0), 10)) else ((l_58_0 N (tai, (), (), s, (-50000), l, (b, l, L), (0, 0, 0))).bind fun q23 => ((f_56 N q23.2.2.2.2.2.1.1 q23.2.2.2.2.2.1.2.1 q23.2.2.2.2.2.1.2.2 q23.2.2.2.2.1).bind fun r24 => (some ((q23.2.2.2.2.1, (IntKind.i64.wrap (q23.2.2.2.1 - r24)), (IntKind.i64.wrap (q23.1 - (IntKind.i64.wrap (q23.2.2.2.1 * 1000000000))))), 0))))))))
theorem rtail_at {N : Nat} (hN : 33 ≤ N) {b l : Int} {L : List Int} (T : Tab b l L) {tai : Int} (t0 : -4611686018427387904 < tai) (t1 : tai < 4611686018427387904) :
    rtail N b l L tai (tai / 1000000000) = some (if utcE b l L tai = 0 then ((dayS b L (tai / 1000000000), tai / 1000000000 - secD b L (dayS b L (tai / 1000000000)), tai % 1000000000), 0) else ((0, 0, 0), utcE b l L tai)) := by
  have h1 := T.len
  have l0 := T.l0
  have l1 := T.l1
  have b0 := T.b0
  have b1 := T.b1
  unfold rtail
  rw [lsec_at l (by omega) (by omega) b0 b1 (by omega) (by omega)]
  simp only [Option.bind_some]
  by_cases g3 : tai / 1000000000 < secD b L (-50000)
  · have hE : utcE b l L tai = 2 := by unfold utcE; rw [if_neg (by omega), if_pos g3]
    rw [decide_eq_true g3, hE]; rfl
  rw [decide_eq_false g3, cond_false, lsec_at l (by omega) (by omega) b0 b1 (by omega) (by omega)]
  simp only [Option.bind_some]
  by_cases g4 : tai / 1000000000 ≥ secD b L l
  · have hE : utcE b l L tai = 10 := by unfold utcE; rw [if_neg (by omega), if_neg g3, if_pos g4]
    rw [decide_eq_true g4, hE]; rfl
  have hE : utcE b l L tai = 0 := by unfold utcE; rw [if_neg (by omega), if_neg g3, if_neg g4]
  rw [hE, decide_eq_false g4, cond_false]
  obtain ⟨s1, s2⟩ := dayS_spec T (tai / 1000000000)
  have hlt := secD_lt (show secD b L (-50000) < secD b L l by omega)
  have h17 : hwZ 17 = 131072 := rfl
  have hlp := rutc_loop N hN T tai (0, 0, 0) s1 s2 17 N (-50000) l (by omega) hlt (by omega) l1 (by omega) (by omega) (by omega)
  have hlp' : l_58_0 N (tai, (), (), tai / 1000000000, -50000, l, (b, l, L), (0, 0, 0)) = some (tai, (), (), tai / 1000000000, dayS b L (tai / 1000000000), (b, l, L), (0, 0, 0)) := hlp
  rw [hlp']
  simp only [Option.bind_some]
  have hd : dayS b L (tai / 1000000000) = tai / 1000000000 / 86400 ∨ dayS b L (tai / 1000000000) = tai / 1000000000 / 86400 - 1 := by unfold dayS; split <;> omega
  rw [lsec_at l (by omega) (by omega) b0 b1 (by omega) (by omega)]
  simp only [Option.bind_some]
  have c1 := cntD_le (dayS b L (tai / 1000000000)) L
  rw [wi64 (n := tai / 1000000000 - _) (by unfold secD; omega) (by unfold secD; omega), wi64 (n := tai / 1000000000 * 1000000000) (by omega) (by omega), wi64 (n := tai - _) (by omega) (by omega), if_pos trivial, show tai - tai / 1000000000 * 1000000000 = tai % 1000000000 by omega]
theorem rutc_bad {N : Nat} {b l : Int} {L : List Int} (tai : Int) (hL : L.length ≤ 1000000) (hN : L.length < N) (h : tabB b l L = false) : f_58 N b l L tai = some ((0, 0, 0), 1) := by
  unfold f_58
  rw [lmay_at hL hN, h]; rfl
theorem rutc_at {N : Nat} (hN : 33 ≤ N) {b l : Int} {L : List Int} (h : tabB b l L = true) {tai : Int} (t0 : -9223372036854775808 ≤ tai) (t1 : tai < 9223372036854775808) :
    f_58 N b l L tai = some (if utcE b l L tai = 0 then ((dayS b L (tai / 1000000000), tai / 1000000000 - secD b L (dayS b L (tai / 1000000000)), tai % 1000000000), 0) else ((0, 0, 0), utcE b l L tai)) := by
  have T := tab_of h
  have h1 := T.len
  unfold f_58
  rw [lmay_at (by omega) (by omega), h]
  simp only [Option.bind_some, Bool.not_true, cond_false]
  by_cases g1 : tai ≤ -4611686018427387904
  · have hE : utcE b l L tai = 2 := by unfold utcE; rw [if_pos (.inl g1)]
    rw [decide_eq_true g1, hE]; rfl
  rw [decide_eq_false g1, cond_false]
  by_cases g2 : tai ≥ 4611686018427387904
  · have hE : utcE b l L tai = 2 := by unfold utcE; rw [if_pos (.inr g2)]
    rw [decide_eq_true g2, hE]; rfl
  rw [decide_eq_false g2, cond_false]
  have ht := rtail_at (N := N) hN T (show -4611686018427387904 < tai by omega) (by omega)
  rw [← ht]
  by_cases g3 : tai < 0
  · rw [decide_eq_true g3, cond_true]
    obtain ⟨n, rfl⟩ : ∃ n, tai = -n := ⟨-tai, by omega⟩
    rw [Int.neg_tdiv, Int.tdiv_eq_ediv_of_nonneg (by omega), wi64 (n := -(n / 1000000000)) (by omega) (by omega), wi64 (n := -(n / 1000000000) * 1000000000) (by omega) (by omega), wi64 (n := -(n / 1000000000) - 1) (by omega) (by omega)]
    by_cases g4 : -(n / 1000000000) * 1000000000 = -n
    · rw [g4, bne_self_eq_false, cond_false, show -n / 1000000000 = -(n / 1000000000) by omega]; rfl
    · rw [bne_iff_ne.2 g4, cond_true, show -n / 1000000000 = -(n / 1000000000) - 1 by omega]; rfl
  · rw [decide_eq_false g3, cond_false, Int.tdiv_eq_ediv_of_nonneg (by omega), wi64 (n := tai / 1000000000) (by omega) (by omega)]; rfl
theorem known_at {N : Nat} {b l : Int} {L : List Int} (hN : 33 ≤ N) (h : tabB b l L = true) (d : Int) : f_61 N b l L d = some (if d < -50000 then some 2 else if d ≥ l then some 10 else none) := by
  have T := tab_of h
  have h1 := T.len
  unfold f_61
  rw [lcheck_at (by omega) (by omega), h]
  simp only [cond_true, Option.bind_some, Option.isNone_none, Bool.not_true, cond_false]
  by_cases g1 : d < -50000
  · rw [decide_eq_true g1, if_pos g1]; rfl
  rw [decide_eq_false g1, if_neg g1]
  by_cases g2 : d ≥ l
  · rw [decide_eq_true g2, if_pos g2]; rfl
  rw [decide_eq_false g2, if_neg g2]; rfl
theorem ahead_at {N : Nat} {b l : Int} {L : List Int} (hN : 33 ≤ N) (h : tabB b l L = true) {d : Int} (d0 : -50000 ≤ d) (d1 : d < l) : f_34 N b l L d = some (b + cntD d L, none) := by
  unfold f_34
  rw [known_at hN h, if_neg (by omega), if_neg (by omega), ahd_at (tab_of h) hN]; rfl
end Go.Proofs.YtmdnnlfoljdfpaaDoor.Mir
namespace Go.Proofs.YtmdnnlfoljdfpaaDoor.Mir
open Go Go.RowKit
set_option maxRecDepth 100000
def SmOk (k bf af : Int) : Prop := (0 ≤ bf ∧ bf ≤ 43200 ∧ 0 ≤ af ∧ af ≤ 43200) ∧ ((k = 0 ∧ bf + af = 0) ∨ (k = 1 ∧ bf + af ≥ 1) ∨ (k = 2 ∧ bf + af ≥ 3600))
instance (k bf af : Int) : Decidable (SmOk k bf af) := by unfold SmOk; infer_instance
theorem scheck_at (N : Nat) (k bf af : Int) : f_26 N k bf af = some (if SmOk k bf af then none else some 1) := by
  unfold f_26
  by_cases g1 : bf < 0
  · rw [decide_eq_true g1, if_neg (by unfold SmOk; omega)]; rfl
  rw [decide_eq_false g1, cond_false]
  by_cases g2 : bf > 43200
  · rw [decide_eq_true g2, if_neg (by unfold SmOk; omega)]; rfl
  rw [decide_eq_false g2, cond_false]
  by_cases g3 : af < 0
  · rw [decide_eq_true g3, if_neg (by unfold SmOk; omega)]; rfl
  rw [decide_eq_false g3, cond_false]
  by_cases g4 : af > 43200
  · rw [decide_eq_true g4, if_neg (by unfold SmOk; omega)]; rfl
  rw [decide_eq_false g4, cond_false, wi64 (n := bf + af) (by omega) (by omega)]
  by_cases k0 : k = 0
  · subst k0
    rw [beq_self_eq_true, cond_true]
    by_cases h : bf + af = 0
    · rw [h, beq_self_eq_true, if_pos (by unfold SmOk; omega)]; rfl
    · rw [beq_false_of_ne h, if_neg (by unfold SmOk; omega)]; rfl
  rw [beq_false_of_ne k0, cond_false]
  by_cases k1 : k = 1
  · subst k1
    rw [beq_self_eq_true, cond_true]
    by_cases h : bf + af > 0
    · rw [decide_eq_true h, if_pos (by unfold SmOk; omega)]; rfl
    · rw [decide_eq_false h, if_neg (by unfold SmOk; omega)]; rfl
  rw [beq_false_of_ne k1, cond_false]
  by_cases k2 : k = 2
  · subst k2
    rw [beq_self_eq_true, cond_true]
    by_cases h : bf + af ≥ 3600
    · rw [decide_eq_true h, if_pos (by unfold SmOk; omega)]; rfl
    · rw [decide_eq_false h, if_neg (by unfold SmOk; omega)]; rfl
  rw [beq_false_of_ne k2, if_neg (by unfold SmOk; omega)]; rfl
theorem smay_at (N : Nat) (k bf af : Int) : f_27 N k bf af = some (decide (SmOk k bf af)) := by
  unfold f_27
  by_cases g1 : bf < 0
  · rw [decide_eq_true g1, decide_eq_false (show ¬ SmOk k bf af by unfold SmOk; omega)]; rfl
  rw [decide_eq_false g1, cond_false]
  by_cases g2 : bf > 43200
  · rw [decide_eq_true g2, decide_eq_false (show ¬ SmOk k bf af by unfold SmOk; omega)]; rfl
  rw [decide_eq_false g2, cond_false]
  by_cases g3 : af < 0
  · rw [decide_eq_true g3, decide_eq_false (show ¬ SmOk k bf af by unfold SmOk; omega)]; rfl
  rw [decide_eq_false g3, cond_false]
  by_cases g4 : af > 43200
  · rw [decide_eq_true g4, decide_eq_false (show ¬ SmOk k bf af by unfold SmOk; omega)]; rfl
  rw [decide_eq_false g4, cond_false, wi64 (n := bf + af) (by omega) (by omega)]
  by_cases k0 : k = 0
  · subst k0
    rw [beq_self_eq_true, cond_true]
    by_cases h : bf + af = 0
    · rw [decide_eq_true (show SmOk 0 bf af by unfold SmOk; omega), h]; rfl
    · rw [beq_false_of_ne h, decide_eq_false (show ¬ SmOk 0 bf af by unfold SmOk; omega)]; rfl
  rw [beq_false_of_ne k0, cond_false]
  by_cases k1 : k = 1
  · subst k1
    rw [beq_self_eq_true, cond_true]
    by_cases h : bf + af ≥ 1
    · rw [decide_eq_true h, decide_eq_true (show SmOk 1 bf af by unfold SmOk; omega)]; rfl
    · rw [decide_eq_false h, decide_eq_false (show ¬ SmOk 1 bf af by unfold SmOk; omega)]; rfl
  rw [beq_false_of_ne k1, cond_false]
  by_cases k2 : k = 2
  · subst k2
    rw [beq_self_eq_true, cond_true]
    by_cases h : bf + af ≥ 3600
    · rw [decide_eq_true h, decide_eq_true (show SmOk 2 bf af by unfold SmOk; omega)]
    · rw [decide_eq_false h, decide_eq_false (show ¬ SmOk 2 bf af by unfold SmOk; omega)]
  rw [beq_false_of_ne k2, decide_eq_false (show ¬ SmOk k bf af by unfold SmOk; omega)]; rfl
def endW (b : Int) (L : List Int) (i : Nat) : Int := (gI L i + 1) * 86400 + b + i + 1
theorem endW_lim {b l : Int} {L : List Int} (T : Tab b l L) {i : Nat} (hi : i < L.length) : -4321000000 ≤ endW b L i ∧ endW b L i ≤ 4321000000 := by
  have a := T.lo i hi
  have c := T.hi i hi
  have := T.l1
  have := T.len
  have := T.b0
  have := T.b1
  unfold endW; omega
theorem swind_at (N : Nat) {b l : Int} {L : List Int} (T : Tab b l L) (k : Int) {bf af : Int} (f0 : 0 ≤ bf) (f1 : bf ≤ 43200) (a0 : 0 ≤ af) (a1 : af ≤ 43200) {i : Nat} (hi : i < L.length) : f_54 N k bf af b l L (i : Int) = some (endW b L i - 1 - bf, endW b L i + af) := by
  have a := T.lo i hi
  have c := T.hi i hi
  have d1 := T.l1
  have d2 := T.len
  have d3 := T.b0
  have d4 := T.b1
  unfold f_54
  rw [decide_eq_true (show 0 ≤ (i : Int) ∧ (i : Int) < (L.length : Int) by omega), cond_true, Int.toNat_natCast]
  show some (IntKind.i64.wrap (IntKind.i64.wrap (IntKind.i64.wrap (IntKind.i64.wrap (IntKind.i64.wrap (IntKind.i64.wrap (IntKind.i64.wrap (gI L i + 1) * 86400) + b) + (i : Int)) + 1) - 1) - bf), IntKind.i64.wrap (IntKind.i64.wrap (IntKind.i64.wrap (IntKind.i64.wrap (IntKind.i64.wrap (IntKind.i64.wrap (gI L i + 1) * 86400) + b) + (i : Int)) + 1) + af)) = _
  have e : IntKind.i64.wrap (IntKind.i64.wrap (IntKind.i64.wrap (IntKind.i64.wrap (IntKind.i64.wrap (gI L i + 1) * 86400) + b) + (i : Int)) + 1) = endW b L i := by
    rw [wi64 (n := gI L i + 1) (by omega) (by omega), wi64 (n := (gI L i + 1) * 86400) (by omega) (by omega), wi64 (n := (gI L i + 1) * 86400 + b) (by omega) (by omega), wi64 (n := (gI L i + 1) * 86400 + b + (i : Int)) (by omega) (by omega), wi64 (by omega) (by omega)]
    rfl
  have hl := endW_lim T hi
  rw [e, wi64 (n := endW b L i - 1) (by omega) (by omega), wi64 (n := endW b L i - 1 - bf) (by omega) (by omega), wi64 (n := endW b L i + af) (by omega) (by omega)]
theorem cnt_next {b l : Int} {L : List Int} (T : Tab b l L) {i : Nat} (hi : i < L.length) : cntD (gI L i + 1) L = i + 1 := by
  refine cnt_uniq _ L (i + 1) (by omega) (fun q hq => ?_) (fun q h1 h2 => ?_)
  · by_cases h : q = i
    · subst h; omega
    · have := T.srt q i (by omega) hi; omega
  · have := T.srt i q (by omega) h2; omega
theorem cnt_here {b l : Int} {L : List Int} (T : Tab b l L) {i : Nat} (hi : i < L.length) : cntD (gI L i) L = i := by
  refine cnt_uniq _ L i (by omega) (fun q hq => T.srt q i hq hi) (fun q h1 h2 => ?_)
  by_cases h : q = i
  · subst h; omega
  · have := T.srt i q (by omega) h2; omega
theorem rswin_at {N : Nat} (hN : 33 ≤ N) {b l : Int} {L : List Int} (T : Tab b l L) (k : Int) {bf af : Int} (f0 : 0 ≤ bf) (f1 : bf ≤ 43200) (a0 : 0 ≤ af) (a1 : af ≤ 43200) {i : Nat} (hi : i < L.length) : f_30 N k bf af b l L (i : Int) = some ((endW b L i - 1 - bf) * 1000000000, (endW b L i + af) * 1000000000) := by
  have a := T.lo i hi
  have c := T.hi i hi
  have d1 := T.l1
  have d2 := T.len
  have hl := endW_lim T hi
  have e : secD b L (gI L i + 1) = endW b L i := by
    unfold secD endW
    rw [cnt_next T hi]; omega
  unfold f_30
  rw [decide_eq_true (show 0 ≤ (i : Int) ∧ (i : Int) < (L.length : Int) by omega), cond_true, Int.toNat_natCast]
  show Option.bind (f_56 N b l L (IntKind.i64.wrap (gI L i + 1))) _ = _
  rw [wi64 (n := gI L i + 1) (by omega) (by omega), lsec_at l (by omega) (by omega) T.b0 T.b1 (by omega) (by omega), e]
  simp only [Option.bind_some]
  rw [wi64 (n := endW b L i - 1) (by omega) (by omega), wi64 (n := endW b L i - 1 - bf) (by omega) (by omega), wi64 (n := endW b L i + af) (by omega) (by omega), wi64 (n := (endW b L i - 1 - bf) * 1000000000) (by omega) (by omega), wi64 (n := (endW b L i + af) * 1000000000) (by omega) (by omega)]
def badW (k bf af b : Int) (L : List Int) (i : Nat) : Bool := decide (k ≠ 0) && decide (endW b L i - 1 - bf < endW b L (i - 1) + af)
def fitW_ (k bf af b : Int) (L : List Int) : Nat → Nat → Bool
  | _, 0 => true
  | i, n + 1 => !badW k bf af b L i && fitW_ k bf af b L (i + 1) n
theorem sfits_loop (N : Nat) {b l : Int} {L : List Int} (T : Tab b l L) {k bf af : Int} (f0 : 0 ≤ bf) (f1 : bf ≤ 43200) (a0 : 0 ≤ af) (a1 : af ≤ 43200) : ∀ (n M i : Nat), 1 ≤ i → i + n = L.length → n < M →
    iter (b_29_0 N) M ((), (), endW b L (i - 1) + af, (L.length : Int), (i : Int), (k, bf, af), (b, l, L)) = bif fitW_ k bf af b L i n then some (.inr ()) else some (.inl (some 9)) := by
  intro n
  have hlen := T.len
  induction n with
  | zero =>
    intro M i h1 hi hM
    obtain ⟨M, rfl⟩ : ∃ m, M = m + 1 := ⟨M - 1, by omega⟩
    show b_29_0 N (iter (b_29_0 N) M) _ = _
    unfold b_29_0
    simp only
    rw [decide_eq_false (show ¬ (i : Int) < (L.length : Int) by omega)]; rfl
  | succ n ih =>
    intro M i h1 hi hM
    obtain ⟨M, rfl⟩ : ∃ m, M = m + 1 := ⟨M - 1, by omega⟩
    have ih' := ih M (i + 1) (by omega) (by omega) (by omega)
    rw [Nat.add_sub_cancel] at ih'
    show b_29_0 N (iter (b_29_0 N) M) _ = _
    generalize iter (b_29_0 N) M = I at ih' ⊢
    unfold b_29_0
    simp only
    rw [decide_eq_true (show (i : Int) < (L.length : Int) by omega), swind_at N T k f0 f1 a0 a1 (by omega), wi64 (n := (i : Int) + 1) (by omega) (by omega), show (i : Int) + 1 = ((i + 1 : Nat) : Int) by omega]
    simp only [cond_true, Option.bind_some]
    rw [ih']
    show _ = bif (!(decide (k ≠ 0) && decide (endW b L i - 1 - bf < endW b L (i - 1) + af)) && fitW_ k bf af b L (i + 1) n) then _ else _
    by_cases hk : k = 0
    · subst hk
      rw [bne_self_eq_false, decide_eq_false (show ¬ ((0 : Int) ≠ 0) by simp)]; rfl
    · rw [bne_iff_ne.2 hk, decide_eq_true hk]
      cases decide (endW b L i - 1 - bf < endW b L (i - 1) + af) <;> rfl
def fitsE (k bf af b l : Int) (L : List Int) : Int := if SmOk k bf af ∧ tabB b l L = true then (bif fitW_ k bf af b L 1 (L.length - 1) then 0 else 9) else 1
theorem sfits_at {N : Nat} (hN : 100 ≤ N) {b l : Int} {L : List Int} (hL : L.length ≤ 40) (k bf af : Int) : f_29 N k bf af b l L = some (if fitsE k bf af b l L = 0 then none else some (fitsE k bf af b l L)) := by
  unfold f_29
  rw [scheck_at]
  by_cases hs : SmOk k bf af
  rotate_left
  · have hE : fitsE k bf af b l L = 1 := by unfold fitsE; rw [if_neg (fun h => hs h.1)]
    rw [if_neg hs, hE]; rfl
  rw [if_pos hs]
  simp only [Option.bind_some, Option.isNone_none, Bool.not_true, cond_false]
  rw [lcheck_at (by omega) (by omega)]
  cases ht : tabB b l L with
  | false =>
    have hE : fitsE k bf af b l L = 1 := by unfold fitsE; rw [if_neg (fun h => by rw [ht] at h; cases h.2)]
    rw [hE]; rfl
  | true =>
    have T := tab_of ht
    have hlen := T.len
    have hE : fitsE k bf af b l L = bif fitW_ k bf af b L 1 (L.length - 1) then 0 else 9 := by unfold fitsE; rw [if_pos ⟨hs, ht⟩]
    rw [hE]
    simp only [cond_true, Option.bind_some, Option.isNone_none, Bool.not_true, cond_false]
    have hs' := hs
    unfold SmOk at hs'
    obtain ⟨⟨f0, f1, a0, a1⟩, _⟩ := hs'
    have hlp : l_29_0 N ((), (), -9223372036854775808, (L.length : Int), 0, (k, bf, af), (b, l, L)) = bif fitW_ k bf af b L 1 (L.length - 1) then some (.inr ()) else some (.inl (some 9)) := by
      obtain ⟨M, rfl⟩ : ∃ m, N = m + 1 := ⟨N - 1, by omega⟩
      show b_29_0 (M + 1) (iter (b_29_0 (M + 1)) M) ((), (), -9223372036854775808, (L.length : Int), ((0 : Nat) : Int), (k, bf, af), (b, l, L)) = _
      by_cases h0 : L.length = 0
      · unfold b_29_0
        simp only
        rw [decide_eq_false (show ¬ ((0 : Nat) : Int) < (L.length : Int) by omega), h0]; rfl
      · have hlim := endW_lim T (show 0 < L.length by omega)
        have hl := sfits_loop (M + 1) T (k := k) f0 f1 a0 a1 (L.length - 1) M 1 (Nat.le_refl _) (by omega) (by omega)
        rw [Nat.sub_self] at hl
        rw [← hl]
        generalize iter (b_29_0 (M + 1)) M = I
        unfold b_29_0
        simp only
        rw [decide_eq_true (show ((0 : Nat) : Int) < (L.length : Int) by omega), swind_at (M + 1) T k f0 f1 a0 a1 (show 0 < L.length by omega)]
        simp only [cond_true, Option.bind_some]
        rw [decide_eq_false (show ¬ endW b L 0 - 1 - bf < -9223372036854775808 by omega)]
        cases (k != 0) <;> rfl
    rw [hlp]
    cases fitW_ k bf af b L 1 (L.length - 1) <;> rfl
theorem rsfits_loop (N : Nat) (hN : 33 ≤ N) {b l : Int} {L : List Int} (T : Tab b l L) {k bf af : Int} (hk0 : 0 ≤ k) (f0 : 0 ≤ bf) (f1 : bf ≤ 43200) (a0 : 0 ≤ af) (a1 : af ≤ 43200) : ∀ (n M i : Nat), 1 ≤ i → i + n = L.length → n < M →
    iter (b_24_0 N) M ((), (), (i : Int), (k, bf, af), (b, l, L)) = bif fitW_ k bf af b L i n then some (.inr ()) else some (.inl 9) := by
  intro n
  have hlen := T.len
  induction n with
  | zero =>
    intro M i h1 hi hM
    obtain ⟨M, rfl⟩ : ∃ m, M = m + 1 := ⟨M - 1, by omega⟩
    show b_24_0 N (iter (b_24_0 N) M) _ = _
    unfold b_24_0
    simp only
    rw [decide_eq_false (show ¬ (i : Int) < (L.length : Int) by omega)]; rfl
  | succ n ih =>
    intro M i h1 hi hM
    obtain ⟨M, rfl⟩ : ∃ m, M = m + 1 := ⟨M - 1, by omega⟩
    have ih' := ih M (i + 1) (by omega) (by omega) (by omega)
    have hl1 := endW_lim T (show i < L.length by omega)
    have hl2 := endW_lim T (show i - 1 < L.length by omega)
    show b_24_0 N (iter (b_24_0 N) M) _ = _
    generalize iter (b_24_0 N) M = I at ih' ⊢
    unfold b_24_0
    simp only
    rw [decide_eq_true (show (i : Int) < (L.length : Int) by omega), wi64 (n := (i : Int) - 1) (by omega) (by omega), show (i : Int) - 1 = ((i - 1 : Nat) : Int) by omega, rswin_at hN T k f0 f1 a0 a1 (show i - 1 < L.length by omega), rswin_at hN T k f0 f1 a0 a1 (show i < L.length by omega), wi64 (n := (i : Int) + 1) (by omega) (by omega), show (i : Int) + 1 = ((i + 1 : Nat) : Int) by omega]
    simp only [cond_true, Option.bind_some]
    rw [ih']
    show _ = bif (!(decide (k ≠ 0) && decide (endW b L i - 1 - bf < endW b L (i - 1) + af)) && fitW_ k bf af b L (i + 1) n) then _ else _
    have e : decide ((endW b L i - 1 - bf) * 1000000000 < (endW b L (i - 1) + af) * 1000000000) = decide (endW b L i - 1 - bf < endW b L (i - 1) + af) := decide_eq_decide.2 (by omega)
    rw [e]
    by_cases hk : k = 0
    · subst hk
      rw [decide_eq_false (show ¬ (0 : Int) > 0 by omega), decide_eq_false (show ¬ ((0 : Int) ≠ 0) by simp)]; rfl
    · rw [decide_eq_true (show k > 0 by omega), decide_eq_true hk]
      cases decide (endW b L i - 1 - bf < endW b L (i - 1) + af) <;> rfl
theorem rsfits_at {N : Nat} (hN : 100 ≤ N) {b l : Int} {L : List Int} (hL : L.length ≤ 40) (k bf af : Int) : f_24 N k bf af b l L = some (fitsE k bf af b l L) := by
  unfold f_24
  rw [smay_at]
  by_cases hs : SmOk k bf af
  rotate_left
  · have hE : fitsE k bf af b l L = 1 := by unfold fitsE; rw [if_neg (fun h => hs h.1)]
    rw [decide_eq_false hs, hE]; rfl
  rw [decide_eq_true hs]
  simp only [Option.bind_some, Bool.not_true, cond_false]
  rw [lmay_at (by omega) (by omega)]
  cases ht : tabB b l L with
  | false =>
    have hE : fitsE k bf af b l L = 1 := by unfold fitsE; rw [if_neg (fun h => by rw [ht] at h; cases h.2)]
    rw [hE]; rfl
  | true =>
    have T := tab_of ht
    have hlen := T.len
    have hE : fitsE k bf af b l L = bif fitW_ k bf af b L 1 (L.length - 1) then 0 else 9 := by unfold fitsE; rw [if_pos ⟨hs, ht⟩]
    rw [hE]
    simp only [Option.bind_some, Bool.not_true, cond_false]
    have hs' := hs
    unfold SmOk at hs'
    obtain ⟨⟨f0, f1, a0, a1⟩, hk⟩ := hs'
    have hlp : l_24_0 N ((), (), 1, (k, bf, af), (b, l, L)) = bif fitW_ k bf af b L 1 (L.length - 1) then some (.inr ()) else some (.inl 9) := by
      by_cases h0 : L.length = 0
      · obtain ⟨M, rfl⟩ : ∃ m, N = m + 1 := ⟨N - 1, by omega⟩
        show b_24_0 (M + 1) (iter (b_24_0 (M + 1)) M) ((), (), 1, (k, bf, af), (b, l, L)) = _
        unfold b_24_0
        simp only
        rw [decide_eq_false (show ¬ (1 : Int) < (L.length : Int) by omega), h0]; rfl
      · exact rsfits_loop N (by omega) T (by omega) f0 f1 a0 a1 (L.length - 1) N 1 (Nat.le_refl _) (by omega) (by omega)
    rw [hlp]
    cases fitW_ k bf af b L 1 (L.length - 1) <;> rfl
def lenS (bf af : Int) : Int := (bf + 1 + af) * 1000000000
def softQ (Ln g : Int) : Int := g * (2000000000 * g / Ln)
def lagV (k Ln g : Int) : Int :=
  if k = 1 then 1000000000 - (Ln - g) * 1000000000 / Ln
  else if g ≥ Ln / 2 then 1000000000 - softQ Ln (Ln - g) / Ln
  else if softQ Ln g % Ln > 0 then softQ Ln g / Ln + 1 else softQ Ln g / Ln
def LagOk (k bf af g : Int) : Prop := SmOk k bf af ∧ k ≠ 0 ∧ 0 ≤ g ∧ g ≤ lenS bf af
instance (k bf af g : Int) : Decidable (LagOk k bf af g) := by unfold LagOk; infer_instance
theorem i64B_t {x : Int} (h0 : -9223372036854775808 ≤ x) (h1 : x < 9223372036854775808) : i64B x = true := decide_eq_true ⟨h0, h1⟩
theorem part_le {a g Ln : Int} (a0 : 0 ≤ a) (g0 : 0 ≤ g) (h : g ≤ Ln) (hL : 0 < Ln) : 0 ≤ a * g / Ln ∧ a * g / Ln ≤ a := by
  refine ⟨Int.ediv_nonneg (Int.mul_nonneg a0 g0) (by omega), ?_⟩
  have h1 := Int.ediv_le_ediv hL (Int.mul_le_mul_of_nonneg_left h a0)
  rwa [Int.mul_ediv_cancel _ (by omega)] at h1
theorem softQ_lim {Ln g : Int} (g0 : 0 ≤ g) (h : g ≤ Ln) (hL : 0 < Ln) (hL2 : Ln ≤ 86401000000000) : 0 ≤ 2000000000 * g / Ln ∧ 2000000000 * g / Ln ≤ 2000000000 ∧ 0 ≤ softQ Ln g ∧ softQ Ln g ≤ 172802000000000000000000 ∧ 0 ≤ softQ Ln g / Ln ∧ softQ Ln g / Ln ≤ 2000000000 := by
  obtain ⟨r0, r1⟩ := part_le (a := 2000000000) (by decide) g0 h hL
  have q0 : 0 ≤ softQ Ln g := Int.mul_nonneg g0 r0
  have q1 : softQ Ln g ≤ 86401000000000 * 2000000000 := Int.mul_le_mul (by omega) r1 r0 (by decide)
  have q2 := part_le (a := 2000000000 * g / Ln) r0 g0 h hL
  have e : softQ Ln g = 2000000000 * g / Ln * g := Int.mul_comm _ _
  rw [e]
  rw [e] at q0 q1
  exact ⟨r0, r1, q0, by omega, q2.1, Int.le_trans q2.2 r1⟩
theorem soft_at (N : Nat) {Ln g : Int} (g0 : 0 ≤ g) (h : g ≤ Ln) (hL : 0 < Ln) (hL2 : Ln ≤ 86401000000000) : f_50 N g Ln = some (softQ Ln g / Ln, softQ Ln g % Ln, none) := by
  obtain ⟨r0, r1, q0, q1, s0, s1⟩ := softQ_lim g0 h hL hL2
  have e1 : mdF 2000000000 g Ln = some (2000000000 * g / Ln, none) := by
    unfold mdF fitP
    rw [i64B_t (x := 2000000000) (by decide) (by decide), i64B_t (x := g) (by omega) (by omega), i64B_t (x := Ln) (by omega) (by omega), decide_eq_false (by omega), i64B_t (x := 2000000000 * g / Ln) (by omega) (by omega)]; rfl
  have e2 : wmulF g (2000000000 * g / Ln) = some (hlD (softQ Ln g)) := by
    unfold wmulF
    rw [i64B_t (x := g) (by omega) (by omega), i64B_t (x := 2000000000 * g / Ln) (by omega) (by omega)]; rfl
  have e3 : wdivF (((hlD (softQ Ln g)).1, (hlD (softQ Ln g)).2), Ln) = some (hlD (softQ Ln g / Ln), softQ Ln g % Ln, none) := by
    unfold wdivF
    have hv : hlV ((hlD (softQ Ln g)).1, (hlD (softQ Ln g)).2) = softQ Ln g := hlD_hlV _
    have u : u64B (hlD (softQ Ln g)).2 = true := u64B_iff.2 (by unfold hlD; simp only; omega)
    have w : i64B (hlD (softQ Ln g)).1 = true := i64B_t (by unfold hlD; simp only; omega) (by unfold hlD; simp only; omega)
    show (bif i64B (hlD (softQ Ln g)).1 && (u64B (hlD (softQ Ln g)).2 && i64B Ln) then some (bif decide (Ln < 1) then ((0, 0), 0, some 1) else (hlD (hlV ((hlD (softQ Ln g)).1, (hlD (softQ Ln g)).2) / Ln), hlV ((hlD (softQ Ln g)).1, (hlD (softQ Ln g)).2) % Ln, none)) else none) = _
    rw [hv, u, w, i64B_t (x := Ln) (by omega) (by omega), decide_eq_false (show ¬ Ln < 1 by omega)]; rfl
  have e4 : wintF ((hlD (softQ Ln g / Ln)).1, (hlD (softQ Ln g / Ln)).2) = some (softQ Ln g / Ln, none) := by
    unfold wintF fitP
    have hv : hlV ((hlD (softQ Ln g / Ln)).1, (hlD (softQ Ln g / Ln)).2) = softQ Ln g / Ln := hlD_hlV _
    have u : u64B (hlD (softQ Ln g / Ln)).2 = true := u64B_iff.2 (by unfold hlD; simp only; omega)
    have w : i64B (hlD (softQ Ln g / Ln)).1 = true := i64B_t (by unfold hlD; simp only; omega) (by unfold hlD; simp only; omega)
    simp only [hv]
    rw [u, w, i64B_t (x := softQ Ln g / Ln) (by omega) (by omega)]; rfl
  unfold f_50
  rw [e1]
  simp only [Option.bind_some, Option.isNone_none, Bool.not_true, cond_false]
  rw [e2]
  simp only [Option.bind_some]
  rw [e3]
  simp only [Option.bind_some, Option.isNone_none, Bool.not_true, cond_false]
  rw [e4]; rfl
theorem smOk_lim {k bf af : Int} (h : SmOk k bf af) : 0 ≤ bf ∧ bf ≤ 43200 ∧ 0 ≤ af ∧ af ≤ 43200 ∧ 1000000000 ≤ lenS bf af ∧ lenS bf af ≤ 86401000000000 ∧ 0 ≤ k ∧ k ≤ 2 := by
  unfold SmOk at h
  unfold lenS; omega
theorem slag_at (N : Nat) (k bf af g : Int) : f_22 N k bf af g = some (if LagOk k bf af g then (lagV k (lenS bf af) g, none) else (0, some 1)) := by
  unfold f_22 f_48
  simp only [Option.bind_some]
  rw [scheck_at]
  by_cases hs : SmOk k bf af
  rotate_left
  · rw [if_neg hs, if_neg (fun h => hs h.1)]; rfl
  obtain ⟨f0, f1, a0, a1, l0, l1, k0, k1⟩ := smOk_lim hs
  rw [if_pos hs, wi64 (n := bf + 1) (by omega) (by omega), wi64 (n := bf + 1 + af) (by omega) (by omega), wi64 (n := (bf + 1 + af) * 1000000000) (by omega) (by omega)]
  change Option.bind (some none) _ = _
  simp only [Option.bind_some, Option.isNone_none, Bool.not_true, cond_false]
  rw [show (bf + 1 + af) * 1000000000 = lenS bf af from rfl]
  generalize hLn : lenS bf af = Ln at l0 l1
  by_cases hk : k = 0
  · rw [hk, beq_self_eq_true, if_neg (fun h => h.2.1 rfl)]; rfl
  rw [beq_false_of_ne hk, cond_false]
  by_cases g0 : g < 0
  · rw [decide_eq_true g0, if_neg (by unfold LagOk; omega)]; rfl
  rw [decide_eq_false g0, cond_false]
  by_cases g1 : g > Ln
  · rw [decide_eq_true g1, if_neg (by unfold LagOk; omega)]; rfl
  rw [decide_eq_false g1, cond_false, if_pos ⟨hs, hk, by omega, by omega⟩]
  unfold lagV
  by_cases hk1 : k = 1
  · obtain ⟨p0, p1⟩ := part_le (a := 1000000000) (g := Ln - g) (Ln := Ln) (by decide) (by omega) (by omega) (by omega)
    rw [Int.mul_comm] at p0 p1
    have e1 : mdF (Ln - g) 1000000000 Ln = some ((Ln - g) * 1000000000 / Ln, none) := by
      unfold mdF fitP
      rw [i64B_t (x := 1000000000) (by decide) (by decide), i64B_t (x := Ln - g) (by omega) (by omega), i64B_t (x := Ln) (by omega) (by omega), decide_eq_false (by omega), i64B_t (x := (Ln - g) * 1000000000 / Ln) (by omega) (by omega)]; rfl
    rw [hk1, beq_self_eq_true, cond_true, if_pos rfl, wi64 (n := Ln - g) (by omega) (by omega), e1]
    simp only [Option.bind_some]
    rw [wi64 (by omega) (by omega)]
  rw [beq_false_of_ne hk1, cond_false, if_neg hk1, Int.tdiv_eq_ediv_of_nonneg (by omega), wi64 (n := Ln / 2) (by omega) (by omega)]
  by_cases hg : g ≥ Ln / 2
  · obtain ⟨r0, r1, q0, q1, s0, s1⟩ := softQ_lim (g := Ln - g) (Ln := Ln) (by omega) (by omega) (by omega) l1
    rw [decide_eq_true hg, cond_true, if_pos hg, wi64 (n := Ln - g) (by omega) (by omega), soft_at N (by omega) (by omega) (by omega) l1]
    simp only [Option.bind_some]
    rw [wi64 (by omega) (by omega)]
  · obtain ⟨r0, r1, q0, q1, s0, s1⟩ := softQ_lim (g := g) (Ln := Ln) (by omega) (by omega) (by omega) l1
    rw [decide_eq_false hg, cond_false, if_neg hg, soft_at N (by omega) (by omega) (by omega) l1]
    simp only [Option.bind_some]
    by_cases hr : softQ Ln g % Ln > 0
    · rw [decide_eq_true hr, if_pos hr, cond_true, wi64 (by omega) (by omega)]
    · rw [decide_eq_false hr, if_neg hr, cond_false]
theorem cdiv {n L : Int} (hL : 0 < L) : -(-n / L) = if n % L > 0 then n / L + 1 else n / L := by
  have e := Int.emod_add_mul_ediv n L
  have r0 := Int.emod_nonneg n (show L ≠ 0 by omega)
  have r1 := Int.emod_lt_of_pos n hL
  generalize hq : n / L = q at e
  generalize hr : n % L = r at e r0 r1
  by_cases h : r > 0
  · rw [if_pos h]
    have e2 : -n = (L - r) + L * (-q - 1) := by rw [Int.mul_sub, Int.mul_neg]; omega
    rw [e2, Int.add_mul_ediv_left _ _ (by omega), Int.ediv_eq_zero_of_lt (by omega) (by omega)]; omega
  · rw [if_neg h]
    have e2 : -n = 0 + L * (-q) := by rw [Int.mul_neg]; omega
    rw [e2, Int.add_mul_ediv_left _ _ (by omega)]; simp
theorem rmd_at {a c d : Int} (ha : -9223372036854775808 ≤ a ∧ a < 9223372036854775808) (hc : -9223372036854775808 ≤ c ∧ c < 9223372036854775808) (hd : 0 < d ∧ d < 9223372036854775808) (h0 : -9223372036854775808 ≤ a * c / d) (h1 : a * c / d < 9223372036854775808) : rmdF a c d = some (a * c / d, 0) := by
  unfold rmdF
  rw [i64B_t ha.1 ha.2, i64B_t hc.1 hc.2, i64B_t (x := d) (by omega) hd.2, decide_eq_false (by omega), i64B_t h0 h1]; rfl
theorem up_at (N : Nat) {g c d : Int} (g0 : 0 ≤ g) (c0 : 0 ≤ c) (c1 : c ≤ 2000000000) (d0 : 0 < d) (d1 : d ≤ 86401000000000) (h : g ≤ d) : f_51 N g c d = some (if (g * c) % d > 0 then (g * c) / d + 1 else (g * c) / d) := by
  have hp := part_le (a := c) (g := g) (Ln := d) c0 g0 h d0
  rw [Int.mul_comm] at hp
  have hc := cdiv (n := g * c) d0
  have hb : -2000000001 ≤ -(g * c) / d ∧ -(g * c) / d ≤ 0 := by
    split at hc <;> omega
  have e1 : rmdF (-g) c d = some (-(g * c) / d, 0) := by
    have := rmd_at (a := -g) (c := c) (d := d) (by omega) (by omega) (by omega) (by rw [Int.neg_mul]; omega) (by rw [Int.neg_mul]; omega)
    rwa [Int.neg_mul] at this
  unfold f_51
  rw [Int.zero_sub, wi64 (n := -g) (by omega) (by omega), e1]
  simp only [Option.bind_some]
  rw [Int.zero_sub, wi64 (by omega) (by omega), hc]
theorem rslag_at (N : Nat) (k bf af g : Int) : f_23 N k bf af g = some (if LagOk k bf af g then (lagV k (lenS bf af) g, 0) else (0, 1)) := by
  unfold f_23
  rw [smay_at]
  by_cases hs : SmOk k bf af
  rotate_left
  · rw [decide_eq_false hs, if_neg (fun h => hs h.1)]; rfl
  obtain ⟨f0, f1, a0, a1, l0, l1, k0, k1⟩ := smOk_lim hs
  have eL : IntKind.i64.wrap (IntKind.i64.wrap (IntKind.i64.wrap (bf + af) + 1) * 1000000000) = lenS bf af := by
    rw [wi64 (n := bf + af) (by omega) (by omega), wi64 (n := bf + af + 1) (by omega) (by omega), wi64 (by omega) (by omega)]
    unfold lenS; omega
  rw [decide_eq_true hs, eL]
  simp only [Option.bind_some, Bool.not_true, cond_false]
  generalize hLn : lenS bf af = Ln at l0 l1
  by_cases hk : k = 0
  · rw [hk, beq_self_eq_true, if_neg (fun h => h.2.1 rfl)]; rfl
  rw [beq_false_of_ne hk, cond_false]
  by_cases g0 : g < 0
  · rw [decide_eq_true g0, if_neg (by unfold LagOk; omega)]; rfl
  rw [decide_eq_false g0, cond_false]
  by_cases g1 : g > Ln
  · rw [decide_eq_true g1, if_neg (by unfold LagOk; omega)]; rfl
  rw [decide_eq_false g1, cond_false, if_pos ⟨hs, hk, by omega, by omega⟩]
  unfold lagV
  by_cases hk1 : k = 1
  · rw [hk1, beq_self_eq_true, cond_true, if_pos rfl, up_at N (by omega) (by decide) (by decide) (by omega) l1 (by omega)]
    simp only [Option.bind_some]
    have e : (Ln - g) * 1000000000 = -(g * 1000000000) + Ln * 1000000000 := by omega
    have hv : (if g * 1000000000 % Ln > 0 then g * 1000000000 / Ln + 1 else g * 1000000000 / Ln) = 1000000000 - (Ln - g) * 1000000000 / Ln := by
      rw [e, Int.add_mul_ediv_left _ _ (by omega), ← cdiv (by omega)]; omega
    rw [hv]
  rw [beq_false_of_ne hk1, cond_false, if_neg hk1, Int.tdiv_eq_ediv_of_nonneg (by omega), wi64 (n := Ln / 2) (by omega) (by omega)]
  by_cases hg : g ≥ Ln / 2
  · obtain ⟨r0, r1, q0, q1, s0, s1⟩ := softQ_lim (g := Ln - g) (Ln := Ln) (by omega) (by omega) (by omega) l1
    have e1 : rmdF (Ln - g) 2000000000 Ln = some (2000000000 * (Ln - g) / Ln, 0) := by
      have := rmd_at (a := Ln - g) (c := 2000000000) (d := Ln) (by omega) (by omega) (by omega) (by rw [Int.mul_comm]; omega) (by rw [Int.mul_comm]; omega)
      rwa [Int.mul_comm (Ln - g) 2000000000] at this
    have e2 : rmdF (Ln - g) (2000000000 * (Ln - g) / Ln) Ln = some (softQ Ln (Ln - g) / Ln, 0) := rmd_at (by omega) (by omega) (by omega) (by change _ ≤ softQ Ln (Ln - g) / Ln; omega) (by change softQ Ln (Ln - g) / Ln < _; omega)
    rw [decide_eq_false (show ¬ g < Ln / 2 by omega), cond_false, if_pos hg, wi64 (n := Ln - g) (by omega) (by omega), e1]
    simp only [Option.bind_some]
    rw [e2]
    simp only [Option.bind_some]
    rw [wi64 (by omega) (by omega)]
  · obtain ⟨r0, r1, q0, q1, s0, s1⟩ := softQ_lim (g := g) (Ln := Ln) (by omega) (by omega) (by omega) l1
    have e1 : rmdF g 2000000000 Ln = some (2000000000 * g / Ln, 0) := by
      have := rmd_at (a := g) (c := 2000000000) (d := Ln) (by omega) (by omega) (by omega) (by rw [Int.mul_comm]; omega) (by rw [Int.mul_comm]; omega)
      rwa [Int.mul_comm g 2000000000] at this
    rw [decide_eq_true (show g < Ln / 2 by omega), cond_true, if_neg hg, e1]
    simp only [Option.bind_some]
    rw [up_at N (by omega) r0 r1 (by omega) l1 (by omega)]
    rfl
theorem ssure_at : f_21 3000 = some true := by kernel_rfl
theorem snum_none (N : Nat) : f_28 N none = some 0 := rfl
theorem snum_some (N : Nat) (e : Int) : f_28 N (some e) = some e := rfl
theorem fitsE_zero {k bf af b l : Int} {L : List Int} (h : fitsE k bf af b l L = 0) : SmOk k bf af ∧ tabB b l L = true := by
  unfold fitsE at h
  by_cases hc : SmOk k bf af ∧ tabB b l L = true
  · exact hc
  · rw [if_neg hc] at h; cases h
theorem swin_at {N : Nat} (hN : 100 ≤ N) {b l : Int} {L : List Int} (hL : L.length ≤ 40) (k bf af i : Int) : f_25 N k bf af b l L i = some (if fitsE k bf af b l L = 0 then (if k = 0 ∨ i < 0 ∨ i ≥ (L.length : Int) then (0, 0, some 1) else ((endW b L i.toNat - 1 - bf) * 1000000000, (endW b L i.toNat + af) * 1000000000, none)) else (0, 0, some (fitsE k bf af b l L))) := by
  unfold f_25
  rw [sfits_at hN hL]
  by_cases hE : fitsE k bf af b l L = 0
  rotate_left
  · rw [if_neg hE, if_neg hE]; rfl
  obtain ⟨hs, ht⟩ := fitsE_zero hE
  obtain ⟨f0, f1, a0, a1, _⟩ := smOk_lim hs
  have T := tab_of ht
  rw [if_pos hE, if_pos hE]
  simp only [Option.bind_some, Option.isNone_none, Bool.not_true, cond_false]
  by_cases hk : k = 0
  · rw [if_pos (.inl hk), hk]; rfl
  rw [beq_false_of_ne hk, cond_false]
  by_cases h0 : i < 0
  · rw [if_pos (.inr (.inl h0)), decide_eq_true h0]; rfl
  rw [decide_eq_false h0, cond_false]
  by_cases h1 : i ≥ (L.length : Int)
  · rw [if_pos (.inr (.inr h1)), decide_eq_true h1]; rfl
  rw [decide_eq_false h1, cond_false, if_neg (by omega)]
  obtain ⟨n, rfl⟩ := Int.eq_ofNat_of_zero_le (show 0 ≤ i by omega)
  have hl := endW_lim T (show n < L.length by omega)
  rw [swind_at N T k f0 f1 a0 a1 (show n < L.length by omega)]
  simp only [Option.bind_some, Int.toNat_natCast]
  rw [wi64 (n := (endW b L n - 1 - bf) * 1000000000) (by omega) (by omega), wi64 (n := (endW b L n + af) * 1000000000) (by omega) (by omega)]
theorem steps_holds (k bf af b l : Int) (L of : List Int) : f_5 3000 k bf af b l L of = some true := by
  unfold f_5
  rw [ssure_at]
  by_cases hL : (L.length : Int) > 40
  · rw [decide_eq_true hL]; rfl
  have hL' : L.length ≤ 40 := by omega
  rw [decide_eq_false hL, cond_false]
  generalize List.getD of (Int.toNat 0) 0 = g
  generalize List.getD of (Int.toNat 1) 0 = i
  rw [slag_at, rslag_at, rsfits_at (by decide) hL', swin_at (by decide) hL', scheck_at, smay_at, sfits_at (by decide) hL']
  simp only [Option.bind_some]
  have e1 : (Option.isNone (if SmOk k bf af then (none : Option Int) else some 1) == decide (SmOk k bf af)) = true := by
    by_cases hs : SmOk k bf af
    · rw [if_pos hs, decide_eq_true hs]; rfl
    · rw [if_neg hs, decide_eq_false hs]; rfl
  have e2 : f_28 3000 (if fitsE k bf af b l L = 0 then none else some (fitsE k bf af b l L)) = some (fitsE k bf af b l L) := by
    by_cases hE : fitsE k bf af b l L = 0
    · rw [if_pos hE, hE]; rfl
    · rw [if_neg hE]; rfl
  rw [e1, e2]
  simp only [Bool.not_true, cond_false, Option.bind_some, bne_self_eq_false]
  have e3 : (((if LagOk k bf af g then (lagV k (lenS bf af) g, (none : Option Int)) else (0, some 1)).1 != (if LagOk k bf af g then (lagV k (lenS bf af) g, (0 : Int)) else (0, 1)).1)) = false := by
    by_cases h : LagOk k bf af g
    · rw [if_pos h, if_pos h]; exact bne_self_eq_false _
    · rw [if_neg h, if_neg h]; rfl
  have e4 : f_28 3000 (if LagOk k bf af g then (lagV k (lenS bf af) g, (none : Option Int)) else (0, some 1)).2 = some (if LagOk k bf af g then (lagV k (lenS bf af) g, (0 : Int)) else (0, 1)).2 := by
    by_cases h : LagOk k bf af g
    · rw [if_pos h, if_pos h]; rfl
    · rw [if_neg h, if_neg h]; rfl
  rw [e3, e4]
  simp only [cond_false, Option.bind_some, bne_self_eq_false]
  by_cases hE : fitsE k bf af b l L = 0
  rotate_left
  · rw [bne_iff_ne.2 hE, if_neg hE]
    simp only [cond_true, snum_some, Option.bind_some, beq_self_eq_true]
  rw [hE, bne_self_eq_false, cond_false, if_pos rfl]
  obtain ⟨hs, ht⟩ := fitsE_zero hE
  obtain ⟨f0, f1, a0, a1, _⟩ := smOk_lim hs
  have T := tab_of ht
  by_cases hk : k = 0
  · rw [if_pos (.inl hk), hk]; rfl
  rw [beq_false_of_ne hk, cond_false]
  by_cases h0 : i < 0
  · rw [if_pos (.inr (.inl h0)), decide_eq_true h0]; rfl
  rw [decide_eq_false h0, cond_false]
  by_cases h1 : i ≥ (L.length : Int)
  · rw [if_pos (.inr (.inr h1)), decide_eq_true h1]; rfl
  rw [decide_eq_false h1, cond_false, if_neg (by omega)]
  obtain ⟨n, rfl⟩ := Int.eq_ofNat_of_zero_le (show 0 ≤ i by omega)
  rw [rswin_at (by decide) T k f0 f1 a0 a1 (show n < L.length by omega)]
  simp only [Option.bind_some, Option.isNone_none, cond_true, Int.toNat_natCast, beq_self_eq_true]
end Go.Proofs.YtmdnnlfoljdfpaaDoor.Mir
namespace Go.Proofs.YtmdnnlfoljdfpaaDoor.Mir
open Go Go.RowKit
set_option maxRecDepth 100000
theorem utcE_zero {b l : Int} {L : List Int} {tai : Int} (h : utcE b l L tai = 0) : (-4611686018427387904 < tai ∧ tai < 4611686018427387904) ∧ secD b L (-50000) ≤ tai / 1000000000 ∧ tai / 1000000000 < secD b L l := by
  unfold utcE at h
  by_cases g1 : tai ≤ -4611686018427387904 ∨ tai ≥ 4611686018427387904
  · rw [if_pos g1] at h; cases h
  rw [if_neg g1] at h
  by_cases g2 : tai / 1000000000 < secD b L (-50000)
  · rw [if_pos g2] at h; cases h
  rw [if_neg g2] at h
  by_cases g3 : tai / 1000000000 ≥ secD b L l
  · rw [if_pos g3] at h; cases h
  exact ⟨by omega, by omega, by omega⟩
theorem day_lim {b l : Int} {L : List Int} (T : Tab b l L) {tai : Int} (h : utcE b l L tai = 0) : -50000 ≤ dayS b L (tai / 1000000000) ∧ dayS b L (tai / 1000000000) < l := by
  obtain ⟨_, h1, h2⟩ := utcE_zero h
  obtain ⟨s1, s2⟩ := dayS_spec T (tai / 1000000000)
  have a := secD_lt (Int.lt_of_le_of_lt h1 s2)
  have c := secD_lt (Int.lt_of_le_of_lt s1 h2)
  omega
def outV (b : Int) (L : List Int) (tai : Int) : Int := tai - (b + cntD (dayS b L (tai / 1000000000)) L) * 1000000000
theorem plain_at {N : Nat} (hN : 33 ≤ N) {b l : Int} {L : List Int} (h : tabB b l L = true) {tai : Int} (t0 : -9223372036854775808 ≤ tai) (t1 : tai < 9223372036854775808) : f_57 N b l L tai = some (if utcE b l L tai = 0 then (outV b L tai, none) else (0, some (utcE b l L tai))) := by
  have T := tab_of h
  unfold f_57
  rw [utc_at hN h t0 t1]
  by_cases hE : utcE b l L tai = 0
  rotate_left
  · rw [if_neg hE, if_neg hE]; rfl
  rw [if_pos hE, if_pos hE]
  obtain ⟨d0, d1⟩ := day_lim T hE
  obtain ⟨⟨u0, u1⟩, _⟩ := utcE_zero hE
  simp only [Option.bind_some, Option.isNone_none, Bool.not_true, cond_false]
  rw [ahead_at hN h d0 d1]
  simp only [Option.bind_some, Option.isNone_none, Bool.not_true, cond_false]
  have c1 := cntD_le (dayS b L (tai / 1000000000)) L
  have c2 := T.len
  have c3 := T.b0
  have c4 := T.b1
  rw [wi64 (n := (b + (cntD (dayS b L (tai / 1000000000)) L : Int)) * 1000000000) (by omega) (by omega), wi64 (n := tai - _) (by omega) (by omega)]
  rfl
def fromN (bf b : Int) (L : List Int) (i : Nat) : Int := (endW b L i - 1 - bf) * 1000000000
def untilN (af b : Int) (L : List Int) (i : Nat) : Int := (endW b L i + af) * 1000000000
def winF (bf af b : Int) (L : List Int) (tai : Int) : Nat → Nat → Option Nat
  | _, 0 => none
  | i, n + 1 => if fromN bf b L i ≤ tai ∧ tai < untilN af b L i then some i else winF bf af b L tai (i + 1) n
theorem winF_succ (bf af b : Int) (L : List Int) (tai : Int) (i n : Nat) : winF bf af b L tai i (n + 1) = if fromN bf b L i ≤ tai ∧ tai < untilN af b L i then some i else winF bf af b L tai (i + 1) n := rfl
def atI (k bf af b : Int) (L : List Int) (tai : Int) (i : Nat) : Int := tai - (b + i) * 1000000000 - lagV k (lenS bf af) (tai - fromN bf b L i)
theorem lagV_lim {k Ln g : Int} (l0 : 1000000000 ≤ Ln) (l1 : Ln ≤ 86401000000000) (g0 : 0 ≤ g) (g1 : g ≤ Ln) : -1000000000 ≤ lagV k Ln g ∧ lagV k Ln g ≤ 2000000001 := by
  obtain ⟨_, _, _, _, s0, s1⟩ := softQ_lim (g := g) (Ln := Ln) g0 g1 (by omega) l1
  obtain ⟨_, _, _, _, s2, s3⟩ := softQ_lim (g := Ln - g) (Ln := Ln) (by omega) (by omega) (by omega) l1
  obtain ⟨p0, p1⟩ := part_le (a := 1000000000) (g := Ln - g) (Ln := Ln) (by decide) (by omega) (by omega) (by omega)
  rw [Int.mul_comm] at p0 p1
  unfold lagV
  split
  · omega
  · split
    · omega
    · split <;> omega
theorem lagOk_in {k bf af b : Int} {L : List Int} {tai : Int} {i : Nat} (hs : SmOk k bf af) (hk : k ≠ 0) (h : fromN bf b L i ≤ tai ∧ tai < untilN af b L i) : LagOk k bf af (tai - fromN bf b L i) := by
  unfold fromN untilN at h
  refine ⟨hs, hk, by unfold fromN; omega, ?_⟩
  unfold lenS fromN; omega
theorem sat_loop (N : Nat) {b l : Int} {L : List Int} (T : Tab b l L) {k bf af : Int} (hs : SmOk k bf af) (hk : k ≠ 0) {tai : Int} (t0 : -4611686018427387904 < tai) (t1 : tai < 4611686018427387904) (o : Int) : ∀ (n M i : Nat), i + n = L.length → n < M →
    iter (b_31_0 N) M (tai, (), (), o, (L.length : Int), (i : Int), (k, bf, af), (b, l, L)) = some (match winF bf af b L tai i n with | some j => .inl (atI k bf af b L tai j, none) | none => .inr o) := by
  obtain ⟨f0, f1, a0, a1, l0, l1, _⟩ := smOk_lim hs
  have hlen := T.len
  have b0 := T.b0
  have b1 := T.b1
  intro n
  induction n with
  | zero =>
    intro M i hi hM
    obtain ⟨M, rfl⟩ : ∃ m, M = m + 1 := ⟨M - 1, by omega⟩
    show b_31_0 N (iter (b_31_0 N) M) _ = _
    unfold b_31_0
    simp only
    rw [decide_eq_false (show ¬ (i : Int) < (L.length : Int) by omega)]; rfl
  | succ n ih =>
    intro M i hi hM
    obtain ⟨M, rfl⟩ : ∃ m, M = m + 1 := ⟨M - 1, by omega⟩
    have ih' := ih M (i + 1) (by omega) (by omega)
    have hl := endW_lim T (show i < L.length by omega)
    have eF : IntKind.i64.wrap ((endW b L i - 1 - bf) * 1000000000) = fromN bf b L i := wi64 (by omega) (by omega)
    have eU : IntKind.i64.wrap ((endW b L i + af) * 1000000000) = untilN af b L i := wi64 (by omega) (by omega)
    have hF : fromN bf b L i = (endW b L i - 1 - bf) * 1000000000 := rfl
    have hU : untilN af b L i = (endW b L i + af) * 1000000000 := rfl
    show b_31_0 N (iter (b_31_0 N) M) _ = _
    generalize iter (b_31_0 N) M = I at ih' ⊢
    unfold b_31_0
    simp only
    rw [decide_eq_true (show (i : Int) < (L.length : Int) by omega), swind_at N T k f0 f1 a0 a1 (by omega), wi64 (n := (i : Int) + 1) (by omega) (by omega), show (i : Int) + 1 = ((i + 1 : Nat) : Int) by omega]
    simp only [cond_true, Option.bind_some]
    rw [eF, eU, ih', winF_succ]
    by_cases h1 : tai < fromN bf b L i
    · rw [decide_eq_true h1, cond_true, if_neg (by omega)]
    rw [decide_eq_false h1, cond_false]
    by_cases h2 : tai ≥ untilN af b L i
    · rw [decide_eq_true h2, cond_true, if_neg (by omega)]
    have hin : fromN bf b L i ≤ tai ∧ tai < untilN af b L i := by omega
    have hok := lagOk_in hs hk hin
    have hlg := lagV_lim (k := k) (g := tai - fromN bf b L i) l0 l1 hok.2.2.1 hok.2.2.2
    rw [decide_eq_false h2, cond_false, if_pos hin, wi64 (n := tai - fromN bf b L i) (by omega) (by omega), slag_at, if_pos hok]
    simp only [Option.bind_some, Option.isNone_none, Bool.not_true, cond_false]
    rw [wi64 (n := b + (i : Int)) (by omega) (by omega), wi64 (n := (b + (i : Int)) * 1000000000) (by omega) (by omega), wi64 (n := tai - (b + (i : Int)) * 1000000000) (by omega) (by omega), wi64 (by omega) (by omega)]
    rfl
def atV (k bf af b : Int) (L : List Int) (tai : Int) : Int := if k = 0 then outV b L tai else match winF bf af b L tai 0 L.length with | some j => atI k bf af b L tai j | none => outV b L tai
theorem sat_at {N : Nat} (hN : 100 ≤ N) {b l : Int} {L : List Int} (hL : L.length ≤ 40) (k bf af : Int) {tai : Int} (t0 : -9223372036854775808 ≤ tai) (t1 : tai < 9223372036854775808) :
    f_31 N k bf af b l L tai = some (if fitsE k bf af b l L = 0 then (if utcE b l L tai = 0 then (atV k bf af b L tai, none) else (0, some (utcE b l L tai))) else (0, some (fitsE k bf af b l L))) := by
  unfold f_31
  rw [sfits_at hN hL]
  by_cases hE : fitsE k bf af b l L = 0
  rotate_left
  · rw [if_neg hE, if_neg hE]; rfl
  obtain ⟨hs, ht⟩ := fitsE_zero hE
  rw [if_pos hE, if_pos hE]
  simp only [Option.bind_some, Option.isNone_none, Bool.not_true, cond_false]
  rw [plain_at (by omega) ht t0 t1]
  by_cases hU : utcE b l L tai = 0
  rotate_left
  · rw [if_neg hU, if_neg hU]; rfl
  rw [if_pos hU, if_pos hU]
  simp only [Option.bind_some, Option.isNone_none, Bool.not_true, cond_false]
  unfold atV
  by_cases hk : k = 0
  · rw [if_pos hk, hk]; rfl
  obtain ⟨⟨u0, u1⟩, _⟩ := utcE_zero hU
  have hlp := sat_loop N (tab_of ht) hs hk u0 u1 (outV b L tai) L.length N 0 (by omega) (by omega)
  have hlp' : l_31_0 N (tai, (), (), outV b L tai, (L.length : Int), 0, (k, bf, af), (b, l, L)) = some (match winF bf af b L tai 0 L.length with | some j => .inl (atI k bf af b L tai j, none) | none => .inr (outV b L tai)) := hlp
  rw [beq_false_of_ne hk, cond_false, hlp', if_neg hk]
  cases winF bf af b L tai 0 L.length <;> rfl
theorem rsat_loop (N : Nat) (hN : 33 ≤ N) {b l : Int} {L : List Int} (T : Tab b l L) {k bf af : Int} (hs : SmOk k bf af) (hk : k ≠ 0) {tai : Int} (t0 : -4611686018427387904 < tai) (t1 : tai < 4611686018427387904) (o : Int × Int × Int) : ∀ (n M i : Nat), i + n = L.length → n < M →
    iter (b_32_0 N) M (tai, (), (), (), (i : Int), (k, bf, af), (b, l, L), o) = some (match winF bf af b L tai i n with | some j => .inl (atI k bf af b L tai j, 0) | none => .inr (tai, (), (), (b, l, L), o)) := by
  obtain ⟨f0, f1, a0, a1, l0, l1, k0, _⟩ := smOk_lim hs
  have hlen := T.len
  have b0 := T.b0
  have b1 := T.b1
  have d1 := T.l1
  intro n
  induction n with
  | zero =>
    intro M i hi hM
    obtain ⟨M, rfl⟩ : ∃ m, M = m + 1 := ⟨M - 1, by omega⟩
    show b_32_0 N (iter (b_32_0 N) M) _ = _
    unfold b_32_0
    simp only
    rw [decide_eq_false (show ¬ (i : Int) < (L.length : Int) by omega)]; rfl
  | succ n ih =>
    intro M i hi hM
    obtain ⟨M, rfl⟩ : ∃ m, M = m + 1 := ⟨M - 1, by omega⟩
    have ih' := ih M (i + 1) (by omega) (by omega)
    have hl := endW_lim T (show i < L.length by omega)
    have hg0 := T.lo i (by omega)
    have hg1 := T.hi i (by omega)
    have hF : fromN bf b L i = (endW b L i - 1 - bf) * 1000000000 := rfl
    have hU : untilN af b L i = (endW b L i + af) * 1000000000 := rfl
    have eS : secD b L (gI L i) = 86400 * gI L i + b + i := by unfold secD; rw [cnt_here T (show i < L.length by omega)]
    show b_32_0 N (iter (b_32_0 N) M) _ = _
    generalize iter (b_32_0 N) M = I at ih' ⊢
    unfold b_32_0
    simp only
    rw [decide_eq_true (show (i : Int) < (L.length : Int) by omega), decide_eq_true (show k > 0 by omega), rswin_at hN T k f0 f1 a0 a1 (show i < L.length by omega), wi64 (n := (i : Int) + 1) (by omega) (by omega), show (i : Int) + 1 = ((i + 1 : Nat) : Int) by omega]
    simp only [cond_true, Option.bind_some]
    rw [ih', winF_succ, decide_eq_true (show 0 ≤ (i : Int) ∧ (i : Int) < (L.length : Int) by omega)]
    show (bif decide (tai ≥ fromN bf b L i) then (bif decide (tai < untilN af b L i) then Option.bind (f_23 N k bf af (IntKind.i64.wrap (tai - fromN bf b L i))) _ else _) else _) = _
    by_cases h1 : tai ≥ fromN bf b L i
    rotate_left
    · rw [decide_eq_false h1, cond_false, if_neg (by omega)]
    rw [decide_eq_true h1, cond_true]
    by_cases h2 : tai < untilN af b L i
    rotate_left
    · rw [decide_eq_false h2, cond_false, if_neg (by omega)]
    have hin : fromN bf b L i ≤ tai ∧ tai < untilN af b L i := by omega
    have hok := lagOk_in hs hk hin
    have hlg := lagV_lim (k := k) (g := tai - fromN bf b L i) l0 l1 hok.2.2.1 hok.2.2.2
    rw [decide_eq_true h2, cond_true, if_pos hin, wi64 (n := tai - fromN bf b L i) (by omega) (by omega), rslag_at, if_pos hok]
    simp only [Option.bind_some, cond_true, Int.toNat_natCast]
    rw [show List.getD L i 0 = gI L i from rfl]
    rw [lsec_at l (by omega) (by omega) b0 b1 (by omega) (by omega), eS]
    simp only [Option.bind_some]
    rw [wi64 (n := 86400 * gI L i) (by omega) (by omega), show 86400 * gI L i + b + (i : Int) - 86400 * gI L i = b + i by omega, wi64 (n := b + (i : Int)) (by omega) (by omega), wi64 (n := (b + (i : Int)) * 1000000000) (by omega) (by omega), wi64 (n := tai - (b + (i : Int)) * 1000000000) (by omega) (by omega), wi64 (by omega) (by omega)]
    rfl
theorem rsat_at {N : Nat} (hN : 100 ≤ N) {b l : Int} {L : List Int} (hL : L.length ≤ 40) (k bf af : Int) {tai : Int} (t0 : -9223372036854775808 ≤ tai) (t1 : tai < 9223372036854775808) :
    f_32 N k bf af b l L tai = some (if fitsE k bf af b l L = 0 then (if utcE b l L tai = 0 then (atV k bf af b L tai, 0) else (0, utcE b l L tai)) else (0, fitsE k bf af b l L)) := by
  unfold f_32
  rw [rsfits_at hN hL]
  by_cases hE : fitsE k bf af b l L = 0
  rotate_left
  · rw [if_neg hE, Option.bind_some, bne_iff_ne.2 hE]; rfl
  obtain ⟨hs, ht⟩ := fitsE_zero hE
  have T := tab_of ht
  rw [if_pos hE, hE]
  simp only [Option.bind_some, bne_self_eq_false, cond_false]
  rw [rutc_at (by omega) ht t0 t1]
  by_cases hU : utcE b l L tai = 0
  rotate_left
  · rw [if_neg hU, if_neg hU, Option.bind_some, bne_iff_ne.2 hU]; rfl
  rw [if_pos hU, if_pos hU]
  simp only [Option.bind_some, bne_self_eq_false, cond_false]
  obtain ⟨⟨u0, u1⟩, _⟩ := utcE_zero hU
  obtain ⟨d0, d1⟩ := day_lim T hU
  have hlen := T.len
  have b0 := T.b0
  have b1 := T.b1
  have l1 := T.l1
  generalize ho : (dayS b L (tai / 1000000000), tai / 1000000000 - secD b L (dayS b L (tai / 1000000000)), tai % 1000000000) = o
  have hlp : l_32_0 N (tai, (), (), (), 0, (k, bf, af), (b, l, L), o) = some (match (if k = 0 then none else winF bf af b L tai 0 L.length) with | some j => .inl (atI k bf af b L tai j, 0) | none => .inr (tai, (), (), (b, l, L), o)) := by
    by_cases hk : k = 0
    · subst hk
      obtain ⟨M, rfl⟩ : ∃ m, N = m + 1 := ⟨N - 1, by omega⟩
      show b_32_0 (M + 1) (iter (b_32_0 (M + 1)) M) (tai, (), (), (), 0, (0, bf, af), (b, l, L), o) = _
      unfold b_32_0
      simp only
      cases decide ((0 : Int) < (L.length : Int)) <;> rfl
    · rw [if_neg hk]
      exact rsat_loop N (by omega) T hs hk u0 u1 o L.length N 0 (by omega) (by omega)
  have c1 := cntD_le (dayS b L (tai / 1000000000)) L
  have eo : o.1 = dayS b L (tai / 1000000000) := by rw [← ho]
  have eS : secD b L (dayS b L (tai / 1000000000)) = 86400 * dayS b L (tai / 1000000000) + b + cntD (dayS b L (tai / 1000000000)) L := rfl
  rw [hlp]
  unfold atV
  by_cases hk : k = 0
  · rw [if_pos hk, if_pos hk]
    simp only [Option.bind_some]
    rw [eo, lsec_at l (by omega) (by omega) b0 b1 (by omega) (by omega), eS]
    simp only [Option.bind_some]
    unfold outV
    generalize dayS b L (tai / 1000000000) = d at *
    rw [wi64 (n := 86400 * d) (by omega) (by omega), show 86400 * d + b + (cntD d L : Int) - 86400 * d = b + cntD d L by omega, wi64 (n := b + (cntD d L : Int)) (by omega) (by omega), wi64 (n := (b + (cntD d L : Int)) * 1000000000) (by omega) (by omega), wi64 (n := tai - _) (by omega) (by omega)]
  · rw [if_neg hk, if_neg hk]
    cases winF bf af b L tai 0 L.length with
    | some j => rfl
    | none =>
      simp only [Option.bind_some]
      rw [eo, lsec_at l (by omega) (by omega) b0 b1 (by omega) (by omega), eS]
      simp only [Option.bind_some]
      unfold outV
      generalize dayS b L (tai / 1000000000) = d at *
      rw [wi64 (n := 86400 * d) (by omega) (by omega), show 86400 * d + b + (cntD d L : Int) - 86400 * d = b + cntD d L by omega, wi64 (n := b + (cntD d L : Int)) (by omega) (by omega), wi64 (n := (b + (cntD d L : Int)) * 1000000000) (by omega) (by omega), wi64 (n := tai - _) (by omega) (by omega)]
theorem stells_holds (k bf af b l : Int) (L : List Int) {tai : Int} (t0 : -9223372036854775808 ≤ tai) (t1 : tai < 9223372036854775808) : f_6 3000 k bf af b l L tai = some true := by
  unfold f_6
  rw [ssure_at]
  by_cases hL : (L.length : Int) > 40
  · rw [decide_eq_true hL]; rfl
  rw [decide_eq_false hL, cond_false, sat_at (by decide) (by omega) k bf af t0 t1, rsat_at (by decide) (by omega) k bf af t0 t1]
  simp only [Option.bind_some]
  by_cases hE : fitsE k bf af b l L = 0
  · rw [if_pos hE, if_pos hE]
    by_cases hU : utcE b l L tai = 0
    · rw [if_pos hU, if_pos hU]
      simp only [beq_self_eq_true, cond_true, snum_none, Option.bind_some]
    · rw [if_neg hU, if_neg hU]
      simp only [beq_self_eq_true, cond_true, snum_some, Option.bind_some]
  · rw [if_neg hE, if_neg hE]
    simp only [beq_self_eq_true, cond_true, snum_some, Option.bind_some]
end Go.Proofs.YtmdnnlfoljdfpaaDoor.Mir
namespace Go.Proofs.YtmdnnlfoljdfpaaDoor.Mir
open Go Go.RowKit
set_option maxRecDepth 100000
theorem softQ_half {Ln h : Int} (h0 : 0 ≤ h) (h1 : 2 * h ≤ Ln) (hL : 0 < Ln) : 0 ≤ softQ Ln h / Ln ∧ softQ Ln h / Ln ≤ 500000000 := by
  obtain ⟨r0, _⟩ := part_le (a := 2000000000) (g := h) (Ln := Ln) (by decide) h0 (by omega) hL
  have r1 : 2000000000 * h / Ln ≤ 1000000000 := by
    have e := Int.ediv_le_ediv hL (show 2000000000 * h ≤ 1000000000 * Ln by omega)
    rwa [Int.mul_ediv_cancel _ (by omega)] at e
  have q0 : 0 ≤ softQ Ln h := Int.mul_nonneg h0 r0
  have q1 : softQ Ln h ≤ h * 1000000000 := Int.mul_le_mul_of_nonneg_left r1 h0
  refine ⟨Int.ediv_nonneg q0 (by omega), ?_⟩
  have e := Int.ediv_le_ediv hL (show softQ Ln h ≤ 500000000 * Ln by omega)
  rwa [Int.mul_ediv_cancel _ (by omega)] at e
theorem lagV_01 {k Ln g : Int} (l0 : 1000000000 ≤ Ln) (l2 : Ln % 2 = 0) (g0 : 0 ≤ g) (g1 : g ≤ Ln) : 0 ≤ lagV k Ln g ∧ lagV k Ln g ≤ 1000000000 := by
  obtain ⟨p0, p1⟩ := part_le (a := 1000000000) (g := Ln - g) (Ln := Ln) (by decide) (by omega) (by omega) (by omega)
  rw [Int.mul_comm] at p0 p1
  unfold lagV
  split
  · omega
  · split
    · obtain ⟨s0, s1⟩ := softQ_half (Ln := Ln) (h := Ln - g) (by omega) (by omega) (by omega)
      omega
    · obtain ⟨s0, s1⟩ := softQ_half (Ln := Ln) (h := g) (by omega) (by omega) (by omega)
      split <;> omega
theorem lenS_even (bf af : Int) : lenS bf af % 2 = 0 := by unfold lenS; omega
theorem cnt_in {b l : Int} {L : List Int} (T : Tab b l L) {bf af tai : Int} (f0 : 0 ≤ bf) (f1 : bf ≤ 43200) (a0 : 0 ≤ af) (a1 : af ≤ 43200) {i : Nat} (hi : i < L.length) (h : fromN bf b L i ≤ tai ∧ tai < untilN af b L i) : cntD (dayS b L (tai / 1000000000)) L = i ∨ cntD (dayS b L (tai / 1000000000)) L = i + 1 := by
  unfold fromN untilN at h
  obtain ⟨s1, s2⟩ := dayS_spec T (tai / 1000000000)
  have hs : endW b L i - 1 - bf ≤ tai / 1000000000 ∧ tai / 1000000000 < endW b L i + af := by omega
  have e0 : secD b L (gI L i) = endW b L i - 86401 := by unfold secD endW; rw [cnt_here T hi]; omega
  have e1 : secD b L (gI L i + 1) = endW b L i := by unfold secD endW; rw [cnt_next T hi]; omega
  have e2 := secD_step b L (gI L i + 1)
  have d0 := secD_lt (show secD b L (gI L i) < secD b L (dayS b L (tai / 1000000000) + 1) by omega)
  have d1 := secD_lt (show secD b L (dayS b L (tai / 1000000000)) < secD b L (gI L i + 1 + 1) by omega)
  by_cases hd : dayS b L (tai / 1000000000) = gI L i
  · rw [hd]; exact .inl (cnt_here T hi)
  · rw [show dayS b L (tai / 1000000000) = gI L i + 1 by omega]; exact .inr (cnt_next T hi)
theorem off_in {b l : Int} {L : List Int} (T : Tab b l L) {k bf af tai : Int} (hs : SmOk k bf af) (hk : k ≠ 0) {i : Nat} (hi : i < L.length) (h : fromN bf b L i ≤ tai ∧ tai < untilN af b L i) : -1000000000 ≤ atI k bf af b L tai i - outV b L tai ∧ atI k bf af b L tai i - outV b L tai ≤ 1000000000 := by
  obtain ⟨f0, f1, a0, a1, l0, l1, _⟩ := smOk_lim hs
  have hok := lagOk_in hs hk h
  obtain ⟨g0, g1⟩ := lagV_01 (k := k) l0 (lenS_even bf af) hok.2.2.1 hok.2.2.2
  unfold atI outV
  rcases cnt_in T f0 f1 a0 a1 hi h with e | e <;> rw [e] <;> omega
theorem winF_some {bf af b : Int} {L : List Int} {tai : Int} : ∀ {n i j : Nat}, winF bf af b L tai i n = some j → i ≤ j ∧ j < i + n ∧ fromN bf b L j ≤ tai ∧ tai < untilN af b L j
  | 0, _, _, h => by cases h
  | n + 1, i, j, h => by
    rw [winF_succ] at h
    by_cases hc : fromN bf b L i ≤ tai ∧ tai < untilN af b L i
    · rw [if_pos hc] at h
      obtain rfl := Option.some.inj h
      exact ⟨by omega, by omega, hc.1, hc.2⟩
    · rw [if_neg hc] at h
      obtain ⟨h1, h2, h3⟩ := winF_some h
      exact ⟨by omega, by omega, h3⟩
theorem sout_loop (N : Nat) (hN : 100 ≤ N) {b l : Int} {L : List Int} (hL : L.length ≤ 40) {k bf af : Int} (hE : fitsE k bf af b l L = 0) (hk : k ≠ 0) (tai A B : Int) : ∀ (n M i : Nat) (fl : Bool), i + n = L.length → n < M →
    iter (b_8_0 N) M (tai, (), (), (), (), A, B, fl, (i : Int), (k, bf, af), (b, l, L), (k, bf, af), (b, l, L)) = some (.inr (A, B, fl || (winF bf af b L tai i n).isSome)) := by
  intro n
  induction n with
  | zero =>
    intro M i fl hi hM
    obtain ⟨M, rfl⟩ : ∃ m, M = m + 1 := ⟨M - 1, by omega⟩
    show b_8_0 N (iter (b_8_0 N) M) _ = _
    unfold b_8_0
    simp only
    rw [decide_eq_false (show ¬ (i : Int) < (L.length : Int) by omega)]
    cases fl <;> rfl
  | succ n ih =>
    intro M i fl hi hM
    obtain ⟨M, rfl⟩ : ∃ m, M = m + 1 := ⟨M - 1, by omega⟩
    have ih' := fun fl => ih M (i + 1) fl (by omega) (by omega)
    show b_8_0 N (iter (b_8_0 N) M) _ = _
    generalize iter (b_8_0 N) M = I at ih' ⊢
    unfold b_8_0
    simp only
    rw [decide_eq_true (show (i : Int) < (L.length : Int) by omega), bne_iff_ne.2 hk, swin_at hN hL, if_pos hE, if_neg (show ¬ (k = 0 ∨ (i : Int) < 0 ∨ (i : Int) ≥ (L.length : Int)) by omega), wi64 (n := (i : Int) + 1) (by omega) (by omega), show (i : Int) + 1 = ((i + 1 : Nat) : Int) by omega]
    simp only [cond_true, Option.bind_some, Option.isNone_none, Bool.not_true, cond_false, Int.toNat_natCast]
    rw [ih', ih', ih', winF_succ]
    change (bif fl then _ else (bif decide (tai ≥ fromN bf b L i) then some (Sum.inr (A, B, decide (tai < untilN af b L i) || _)) else _)) = _
    cases fl with
    | true => rfl
    | false =>
      by_cases h1 : tai ≥ fromN bf b L i
      · by_cases h2 : tai < untilN af b L i
        · rw [decide_eq_true h1, decide_eq_true h2, if_pos ⟨h1, h2⟩]; rfl
        · rw [decide_eq_true h1, decide_eq_false h2, if_neg (by omega)]; rfl
      · rw [decide_eq_false h1, if_neg (by omega)]; rfl
theorem fitW_zero (bf af b : Int) (L : List Int) : ∀ n i, fitW_ 0 bf af b L i n = true
  | 0, _ => rfl
  | n + 1, i => by
    show (!(decide ((0 : Int) ≠ 0) && _) && fitW_ 0 bf af b L (i + 1) n) = true
    rw [fitW_zero bf af b L n (i + 1), decide_eq_false (show ¬ (0 : Int) ≠ 0 by simp)]; rfl
theorem fitsE_step {b l : Int} {L : List Int} (h : tabB b l L = true) : fitsE 0 0 0 b l L = 0 := by
  unfold fitsE
  rw [if_pos ⟨by unfold SmOk; omega, h⟩, fitW_zero]; rfl
theorem atV_step (bf af b : Int) (L : List Int) (tai : Int) : atV 0 bf af b L tai = outV b L tai := if_pos rfl
theorem sout_holds (k bf af b l : Int) (L : List Int) {tai : Int} (t0 : -9223372036854775808 ≤ tai) (t1 : tai < 9223372036854775808) : f_8 3000 k bf af b l L tai = some true := by
  unfold f_8
  rw [ssure_at]
  by_cases hL : (L.length : Int) > 40
  · rw [decide_eq_true hL]; rfl
  have hL' : L.length ≤ 40 := by omega
  rw [decide_eq_false hL, cond_false, sfits_at (by decide) hL']
  by_cases hE : fitsE k bf af b l L = 0
  rotate_left
  · rw [if_neg hE]; rfl
  obtain ⟨hs, ht⟩ := fitsE_zero hE
  have T := tab_of ht
  rw [if_pos hE]
  simp only [Option.bind_some, Option.isNone_none, Bool.not_true, cond_false]
  rw [sat_at (by decide) hL' k bf af t0 t1, sat_at (by decide) hL' 0 0 0 t0 t1, utc_at (by decide) ht t0 t1, if_pos hE, if_pos (fitsE_step ht)]
  by_cases hU : utcE b l L tai = 0
  rotate_left
  · rw [if_neg hU, if_neg hU, if_neg hU]
    simp only [Option.bind_some, Option.isNone_some, beq_self_eq_true, Bool.not_true, Bool.not_false, cond_false, cond_true, snum_some]
  rw [if_pos hU, if_pos hU, if_pos hU, atV_step]
  simp only [Option.bind_some, Option.isNone_none, beq_self_eq_true, Bool.not_true, cond_false]
  obtain ⟨d0, d1⟩ := day_lim T hU
  obtain ⟨⟨u0, u1⟩, _⟩ := utcE_zero hU
  rw [ahead_at (by decide) ht d0 d1]
  simp only [Option.bind_some, Option.isNone_none, Bool.not_true, cond_false]
  have c1 := cntD_le (dayS b L (tai / 1000000000)) L
  have c2 := T.len
  have c3 := T.b0
  have c4 := T.b1
  rw [wi64 (n := (b + (cntD (dayS b L (tai / 1000000000)) L : Int)) * 1000000000) (by omega) (by omega), wi64 (n := tai - _) (by omega) (by omega), show tai - (b + (cntD (dayS b L (tai / 1000000000)) L : Int)) * 1000000000 = outV b L tai from rfl, bne_self_eq_false, cond_false]
  have hlp : l_8_0 3000 (tai, (), (), (), (), atV k bf af b L tai, outV b L tai, false, 0, (k, bf, af), (b, l, L), (k, bf, af), (b, l, L)) = some (.inr (atV k bf af b L tai, outV b L tai, if k = 0 then false else (winF bf af b L tai 0 L.length).isSome)) := by
    by_cases hk : k = 0
    · subst hk
      show b_8_0 3000 (iter (b_8_0 3000) 2999) (tai, (), (), (), (), atV 0 bf af b L tai, outV b L tai, false, 0, (0, bf, af), (b, l, L), (0, bf, af), (b, l, L)) = _
      unfold b_8_0
      simp only
      cases decide ((0 : Int) < (L.length : Int)) <;> rfl
    · rw [if_neg hk]
      exact (sout_loop 3000 (by decide) hL' hE hk tai (atV k bf af b L tai) (outV b L tai) L.length 3000 0 false (by omega) (by omega)).trans (by rw [Bool.false_or])
  have hd : -1000000000 ≤ atV k bf af b L tai - outV b L tai ∧ atV k bf af b L tai - outV b L tai ≤ 1000000000 ∧ ((if k = 0 then false else (winF bf af b L tai 0 L.length).isSome) = false → atV k bf af b L tai = outV b L tai) := by
    unfold atV
    by_cases hk : k = 0
    · rw [if_pos hk]; exact ⟨by omega, by omega, fun _ => rfl⟩
    · rw [if_neg hk, if_neg hk]
      cases hw : winF bf af b L tai 0 L.length with
      | none => exact ⟨by simp, by simp, fun _ => rfl⟩
      | some j =>
        obtain ⟨_, h2, h3⟩ := winF_some hw
        obtain ⟨o1, o2⟩ := off_in T hs hk (show j < L.length by omega) h3
        exact ⟨o1, o2, fun h => by cases h⟩
  rw [hlp]
  simp only [Option.bind_some]
  generalize atV k bf af b L tai = A at *
  generalize outV b L tai = B at *
  generalize (if k = 0 then false else (winF bf af b L tai 0 L.length).isSome) = fl at *
  obtain ⟨h1, h2, h3⟩ := hd
  rw [wi64 (n := A - B) (by omega) (by omega), wi64 (n := B - A) (by omega) (by omega), decide_eq_true h2, decide_eq_true (show B - A ≤ 1000000000 by omega)]
  cases fl with
  | true => rfl
  | false => rw [h3 rfl, beq_self_eq_true]; rfl
end Go.Proofs.YtmdnnlfoljdfpaaDoor.Mir
namespace Go.Proofs.YtmdnnlfoljdfpaaDoor.Mir
open Go Go.RowKit
set_option maxRecDepth 100000
theorem ediv_le_add {a c d L : Int} (hL : 0 < L) (h : c ≤ a + d * L) : c / L ≤ a / L + d := by
  have e := Int.ediv_le_ediv hL h
  rwa [Int.add_mul_ediv_right _ _ (by omega)] at e
theorem cdiv_eq {n L : Int} (hL : 0 < L) : (if n % L > 0 then n / L + 1 else n / L) = -(-n / L) := (cdiv hL).symm
theorem cdiv_mono {a c L : Int} (hL : 0 < L) (h : a ≤ c) : -(-a / L) ≤ -(-c / L) := by
  have := Int.ediv_le_ediv hL (show -c ≤ -a by omega)
  omega
theorem cdiv_add {a c d L : Int} (hL : 0 < L) (h : c ≤ a + d * L) : -(-c / L) ≤ -(-a / L) + d := by
  have := ediv_le_add (a := -c) (c := -a) (d := d) hL (by omega)
  omega
theorem softQ_mono {Ln g h : Int} (hL : 0 < Ln) (g0 : 0 ≤ g) (gh : g ≤ h) : softQ Ln g ≤ softQ Ln h := by
  unfold softQ
  have e := Int.ediv_le_ediv hL (show 2000000000 * g ≤ 2000000000 * h by omega)
  have z : 0 ≤ 2000000000 * g / Ln := Int.ediv_nonneg (by omega) (by omega)
  exact Int.mul_le_mul gh e z (by omega)
theorem softQ_lip {Ln g h : Int} (hL : 2000000000 ≤ Ln) (g0 : 0 ≤ g) (gh : g ≤ h) (hh : 2 * h ≤ Ln) : softQ Ln h ≤ softQ Ln g + (h - g) * Ln := by
  unfold softQ
  have hp : 0 < Ln := by omega
  have r2 : 2000000000 * h / Ln ≤ 1000000000 := by
    have e := Int.ediv_le_ediv hp (show 2000000000 * h ≤ 1000000000 * Ln by omega)
    rwa [Int.mul_ediv_cancel _ (by omega)] at e
  have st : 2000000000 * h / Ln ≤ 2000000000 * g / Ln + (h - g) := by
    refine ediv_le_add hp ?_
    have := Int.mul_le_mul_of_nonneg_left hL (show 0 ≤ h - g by omega)
    omega
  generalize 2000000000 * h / Ln = r at *
  generalize 2000000000 * g / Ln = q at *
  obtain ⟨d, hd⟩ : ∃ d, h = g + d := ⟨h - g, by omega⟩
  subst hd
  have d0 : 0 ≤ d := by omega
  have e1 : (g + d) * r = g * r + d * r := Int.add_mul ..
  have e2 : g * r ≤ g * (q + d) := Int.mul_le_mul_of_nonneg_left (by omega) g0
  have e3 : g * (q + d) = g * q + d * g := by rw [Int.mul_add, Int.mul_comm g d]
  have e4 : d * r + d * g ≤ d * Ln := by
    rw [← Int.mul_add]
    exact Int.mul_le_mul_of_nonneg_left (by omega) d0
  rw [show g + d - g = d by omega]
  omega
theorem softQ_zero (Ln : Int) : softQ Ln 0 = 0 := by unfold softQ; exact Int.zero_mul _
theorem softQ_mid {m : Int} (h : 0 < m) : softQ (2 * m) m = 500000000 * (2 * m) := by
  unfold softQ
  rw [show 2000000000 * m = 1000000000 * (2 * m) by omega, Int.mul_ediv_cancel _ (by omega)]
  omega
def softF (Ln g : Int) : Int := -(-(softQ Ln g) / Ln)
def softS (Ln g : Int) : Int := 1000000000 - softQ Ln (Ln - g) / Ln
theorem lagV_soft {k Ln g : Int} (hL : 0 < Ln) (hk : k ≠ 1) : lagV k Ln g = if g ≥ Ln / 2 then softS Ln g else softF Ln g := by
  unfold lagV softF softS
  rw [if_neg hk, cdiv_eq hL]
theorem soft_mid {m : Int} (h : 0 < m) : softF (2 * m) m = 500000000 ∧ softS (2 * m) m = 500000000 := by
  unfold softF softS
  rw [show 2 * m - m = m by omega, softQ_mid h]
  constructor
  · rw [← Int.neg_mul, Int.mul_ediv_cancel _ (by omega)]; omega
  · rw [Int.mul_ediv_cancel _ (by omega)]; omega
theorem lagV_grows {k Ln g h : Int} (hk : k = 1 ∨ 2000000000 ≤ Ln) (hL : 1000000000 ≤ Ln) (h2 : Ln % 2 = 0) (g0 : 0 ≤ g) (gh : g ≤ h) (hh : h ≤ Ln) : lagV k Ln g ≤ lagV k Ln h ∧ lagV k Ln h ≤ lagV k Ln g + (h - g) := by
  have hp : 0 < Ln := by omega
  by_cases hk1 : k = 1
  · unfold lagV
    rw [if_pos hk1, if_pos hk1]
    have e1 := Int.ediv_le_ediv hp (show (Ln - h) * 1000000000 ≤ (Ln - g) * 1000000000 by omega)
    have e2 : (Ln - g) * 1000000000 / Ln ≤ (Ln - h) * 1000000000 / Ln + (h - g) := by
      refine ediv_le_add hp ?_
      have := Int.mul_le_mul_of_nonneg_left hL (show 0 ≤ h - g by omega)
      omega
    constructor <;> omega
  have hL2 : 2000000000 ≤ Ln := by omega
  obtain ⟨m, rfl⟩ : ∃ m, Ln = 2 * m := ⟨Ln / 2, by omega⟩
  obtain ⟨m1, m2⟩ := soft_mid (m := m) (by omega)
  rw [lagV_soft hp hk1, lagV_soft hp hk1, show 2 * m / 2 = m by omega]
  have F : ∀ {a c : Int}, 0 ≤ a → a ≤ c → c ≤ m → softF (2 * m) a ≤ softF (2 * m) c ∧ softF (2 * m) c ≤ softF (2 * m) a + (c - a) := fun h0 h1 h2 =>
    ⟨cdiv_mono hp (softQ_mono hp h0 h1), cdiv_add hp (softQ_lip hL2 h0 h1 (by omega))⟩
  have S : ∀ {a c : Int}, m ≤ a → a ≤ c → c ≤ 2 * m → softS (2 * m) a ≤ softS (2 * m) c ∧ softS (2 * m) c ≤ softS (2 * m) a + (c - a) := by
    intro a c h0 h1 h2
    have e1 := Int.ediv_le_ediv hp (softQ_mono (Ln := 2 * m) (g := 2 * m - c) (h := 2 * m - a) hp (by omega) (by omega))
    have e2 := ediv_le_add hp (softQ_lip (Ln := 2 * m) (g := 2 * m - c) (h := 2 * m - a) hL2 (by omega) (by omega) (by omega))
    unfold softS
    constructor <;> omega
  by_cases hg : g ≥ m
  · rw [if_pos hg, if_pos (show h ≥ m by omega)]
    exact S (by omega) gh hh
  rw [if_neg hg]
  by_cases hh' : h ≥ m
  · rw [if_pos hh']
    have a := F g0 (show g ≤ m by omega) (Int.le_refl m)
    have c := S (Int.le_refl m) (show m ≤ h by omega) hh
    constructor <;> omega
  · rw [if_neg hh']
    exact F g0 gh (by omega)
theorem lagV_zero {k Ln : Int} (hL : 1000000000 ≤ Ln) : lagV k Ln 0 = 0 := by
  unfold lagV
  split
  · rw [show Ln - 0 = Ln by omega, Int.mul_comm, Int.mul_ediv_cancel _ (by omega)]; omega
  · rw [if_neg (by omega), softQ_zero]
    simp
theorem lagV_full {k Ln : Int} (hL : 1000000000 ≤ Ln) : lagV k Ln Ln = 1000000000 := by
  unfold lagV
  split
  · rw [show Ln - Ln = 0 by omega]; simp
  · rw [if_pos (by omega), show Ln - Ln = 0 by omega, softQ_zero]; simp
theorem lenS_soft {k bf af : Int} (hs : SmOk k bf af) (hk : k ≠ 0) : k = 1 ∨ 2000000000 ≤ lenS bf af := by
  unfold SmOk at hs
  unfold lenS
  omega
theorem fitW_at {k bf af b : Int} {L : List Int} : ∀ {n i : Nat}, fitW_ k bf af b L i n = true → ∀ j, i ≤ j → j < i + n → badW k bf af b L j = false
  | 0, _, _, _, h1, h2 => by omega
  | n + 1, i, h, j, h1, h2 => by
    have h' : (!badW k bf af b L i && fitW_ k bf af b L (i + 1) n) = true := h
    rw [Bool.and_eq_true, Bool.not_eq_true'] at h'
    by_cases e : j = i
    · rw [e]; exact h'.1
    · exact fitW_at h'.2 j (by omega) (by omega)
theorem fit_next {k bf af b l : Int} {L : List Int} (hE : fitsE k bf af b l L = 0) (hk : k ≠ 0) {i : Nat} (hi : i + 1 < L.length) : untilN af b L i ≤ fromN bf b L (i + 1) := by
  obtain ⟨hs, ht⟩ := fitsE_zero hE
  unfold fitsE at hE
  rw [if_pos ⟨hs, ht⟩] at hE
  cases hw : fitW_ k bf af b L 1 (L.length - 1) with
  | false => rw [hw] at hE; cases hE
  | true =>
    have := fitW_at hw (i + 1) (by omega) (by omega)
    unfold badW at this
    rw [decide_eq_true hk, Bool.true_and] at this
    have h := of_decide_eq_false this
    rw [Nat.add_sub_cancel] at h
    unfold untilN fromN
    omega
theorem from_until {bf af b : Int} {L : List Int} (i : Nat) : untilN af b L i = fromN bf b L i + lenS bf af := by
  unfold untilN fromN lenS; omega
structure Over (bf af b : Int) (L : List Int) (t : Int) (j : Nat) : Prop where
  le : j ≤ L.length
  lo : ∀ i, i < j → untilN af b L i ≤ t
  hi : ∀ i, j ≤ i → i < L.length → t < untilN af b L i
theorem until_mono {k bf af b l : Int} {L : List Int} (hE : fitsE k bf af b l L = 0) (hk : k ≠ 0) : ∀ {i j : Nat}, i ≤ j → j < L.length → untilN af b L i ≤ untilN af b L j ∧ (i < j → untilN af b L i ≤ fromN bf b L j) := by
  intro i j
  obtain ⟨hs, ht⟩ := fitsE_zero hE
  obtain ⟨_, _, _, _, l0, _⟩ := smOk_lim hs
  induction j with
  | zero =>
    intro h1 _
    obtain rfl : i = 0 := by omega
    exact ⟨Int.le_refl _, fun h => by omega⟩
  | succ j ih =>
    intro h1 h2
    by_cases e : i = j + 1
    · subst e; exact ⟨Int.le_refl _, fun h => by omega⟩
    · obtain ⟨a, _⟩ := ih (by omega) (by omega)
      have c := fit_next hE hk h2
      have d := from_until (bf := bf) (af := af) (b := b) (L := L) (j + 1)
      exact ⟨by omega, fun _ => by omega⟩
theorem over_ex {k bf af b l : Int} {L : List Int} (hE : fitsE k bf af b l L = 0) (hk : k ≠ 0) (t : Int) : ∃ j, Over bf af b L t j := by
  have H : ∀ n, n ≤ L.length → (∃ j, j ≤ n ∧ (∀ i, i < j → untilN af b L i ≤ t) ∧ ∀ i, j ≤ i → i < n → t < untilN af b L i) := by
    intro n
    induction n with
    | zero => exact fun _ => ⟨0, Nat.le_refl _, fun i h => by omega, fun i h h' => by omega⟩
    | succ n ih =>
      intro hn
      obtain ⟨j, h1, h2, h3⟩ := ih (by omega)
      by_cases hu : untilN af b L n ≤ t
      · refine ⟨n + 1, Nat.le_refl _, fun i hi => ?_, fun i h h' => by omega⟩
        have := (until_mono hE hk (show i ≤ n by omega) (by omega)).1
        omega
      · refine ⟨j, by omega, h2, fun i h h' => ?_⟩
        by_cases e : i = n
        · subst e; omega
        · exact h3 i h (by omega)
  obtain ⟨j, h1, h2, h3⟩ := H L.length (Nat.le_refl _)
  exact ⟨j, h1, h2, h3⟩
theorem over_mono {bf af b : Int} {L : List Int} {s t : Int} {i j : Nat} (h : Over bf af b L s i) (h' : Over bf af b L t j) (hst : s ≤ t) : i ≤ j := by
  by_cases e : i ≤ j
  · exact e
  · have a := h.lo j (by omega)
    have c := h'.hi j (Nat.le_refl _) (by have := h.le; omega)
    omega
theorem cnt_over {k bf af b l : Int} {L : List Int} (hE : fitsE k bf af b l L = 0) {t : Int} {j : Nat} (h : Over bf af b L t j) (hf : ∀ i, j ≤ i → i < L.length → t < endW b L i * 1000000000) : cntD (dayS b L (t / 1000000000)) L = j := by
  obtain ⟨hs, ht⟩ := fitsE_zero hE
  obtain ⟨_, _, a0, _⟩ := smOk_lim hs
  have T := tab_of ht
  obtain ⟨s1, s2⟩ := dayS_spec T (t / 1000000000)
  have e1 : ∀ i, i < L.length → secD b L (gI L i + 1) = endW b L i := fun i hi => by unfold secD endW; rw [cnt_next T hi]; omega
  refine cnt_uniq _ L j h.le (fun i hi => ?_) (fun i h1 h2 => ?_)
  · have u := h.lo i hi
    unfold untilN at u
    have hl := h.le
    have hq : secD b L (gI L i + 1) < secD b L (dayS b L (t / 1000000000) + 1) := by rw [e1 i (by omega)]; omega
    have := secD_lt hq
    omega
  · have u := hf i h1 h2
    have hq : secD b L (dayS b L (t / 1000000000)) < secD b L (gI L i + 1) := by rw [e1 i h2]; omega
    have := secD_lt hq
    omega
def jV (k bf af b : Int) (L : List Int) (t : Int) (j : Nat) : Int := t - (b + j) * 1000000000 - (if j < L.length ∧ fromN bf b L j ≤ t then lagV k (lenS bf af) (t - fromN bf b L j) else 0)
theorem winF_none {bf af b : Int} {L : List Int} {tai : Int} : ∀ {n i : Nat}, (∀ j, i ≤ j → j < i + n → ¬ (fromN bf b L j ≤ tai ∧ tai < untilN af b L j)) → winF bf af b L tai i n = none
  | 0, _, _ => rfl
  | n + 1, i, h => by
    rw [winF_succ, if_neg (h i (Nat.le_refl _) (by omega))]
    exact winF_none fun j h1 h2 => h j (by omega) (by omega)
theorem winF_is {bf af b : Int} {L : List Int} {tai : Int} {q : Nat} (hq : fromN bf b L q ≤ tai ∧ tai < untilN af b L q) : ∀ {n i : Nat}, i ≤ q → q < i + n → (∀ j, i ≤ j → j < q → ¬ (fromN bf b L j ≤ tai ∧ tai < untilN af b L j)) → winF bf af b L tai i n = some q
  | 0, _, h1, h2, _ => by omega
  | n + 1, i, h1, h2, h => by
    rw [winF_succ]
    by_cases e : i = q
    · subst e; rw [if_pos hq]
    · rw [if_neg (h i (Nat.le_refl _) (by omega))]
      exact winF_is hq (by omega) (by omega) fun j a c => h j (by omega) c
theorem atV_over {k bf af b l : Int} {L : List Int} (hE : fitsE k bf af b l L = 0) (hk : k ≠ 0) {t : Int} {j : Nat} (h : Over bf af b L t j) : atV k bf af b L t = jV k bf af b L t j := by
  obtain ⟨hs, ht⟩ := fitsE_zero hE
  obtain ⟨f0, _, a0, _, l0, _⟩ := smOk_lim hs
  unfold atV jV
  rw [if_neg hk]
  by_cases hin : j < L.length ∧ fromN bf b L j ≤ t
  · have hu := h.hi j (Nat.le_refl _) hin.1
    rw [if_pos hin, winF_is ⟨hin.2, hu⟩ (Nat.zero_le _) (by omega) (fun i _ hi => by have := h.lo i hi; omega)]
    rfl
  · rw [if_neg hin, winF_none (fun i _ hi => ?_)]
    · unfold outV
      rw [cnt_over hE h (fun i h1 h2 => ?_)]
      · simp
      · have hF : t < fromN bf b L j := by omega
        have hm : fromN bf b L j ≤ fromN bf b L i := by
          have := (until_mono hE hk h1 h2).1
          have e1 := from_until (bf := bf) (af := af) (b := b) (L := L) i
          have e2 := from_until (bf := bf) (af := af) (b := b) (L := L) j
          omega
        have : fromN bf b L i = (endW b L i - 1 - bf) * 1000000000 := rfl
        omega
    · by_cases hij : i < j
      · have := h.lo i hij; omega
      · intro hw
        have hF : t < fromN bf b L j := by omega
        have := (until_mono hE hk (show j ≤ i by omega) (by omega)).1
        have e1 := from_until (bf := bf) (af := af) (b := b) (L := L) i
        have e2 := from_until (bf := bf) (af := af) (b := b) (L := L) j
        omega
theorem jV_same {k bf af b l : Int} {L : List Int} (hE : fitsE k bf af b l L = 0) (hk : k ≠ 0) {s t : Int} {j : Nat} (hst : s ≤ t) (hu : j < L.length → t ≤ untilN af b L j) : jV k bf af b L s j ≤ jV k bf af b L t j ∧ jV k bf af b L t j ≤ jV k bf af b L s j + (t - s) := by
  obtain ⟨hs, ht⟩ := fitsE_zero hE
  obtain ⟨f0, _, a0, _, l0, _⟩ := smOk_lim hs
  have hso := lenS_soft hs hk
  have he := lenS_even bf af
  unfold jV
  by_cases hj : j < L.length
  rotate_left
  · rw [if_neg (by omega), if_neg (by omega)]; constructor <;> omega
  have hu' := hu hj
  have e := from_until (bf := bf) (af := af) (b := b) (L := L) j
  by_cases h1 : fromN bf b L j ≤ s
  · rw [if_pos ⟨hj, h1⟩, if_pos ⟨hj, by omega⟩]
    obtain ⟨a, c⟩ := lagV_grows (k := k) (g := s - fromN bf b L j) (h := t - fromN bf b L j) hso l0 he (by omega) (by omega) (by omega)
    constructor <;> omega
  · rw [if_neg (by omega)]
    by_cases h2 : fromN bf b L j ≤ t
    · rw [if_pos ⟨hj, h2⟩]
      obtain ⟨a, c⟩ := lagV_grows (k := k) (g := 0) (h := t - fromN bf b L j) hso l0 he (by omega) (by omega) (by omega)
      rw [lagV_zero l0] at a c
      constructor <;> omega
    · rw [if_neg (by omega)]; constructor <;> omega
theorem jV_next {k bf af b l : Int} {L : List Int} (hE : fitsE k bf af b l L = 0) (hk : k ≠ 0) {j : Nat} (hj : j < L.length) : jV k bf af b L (untilN af b L j) j = jV k bf af b L (untilN af b L j) (j + 1) := by
  obtain ⟨hs, ht⟩ := fitsE_zero hE
  obtain ⟨f0, _, a0, _, l0, _⟩ := smOk_lim hs
  have e := from_until (bf := bf) (af := af) (b := b) (L := L) j
  unfold jV
  rw [if_pos ⟨hj, by omega⟩, show untilN af b L j - fromN bf b L j = lenS bf af by omega, lagV_full l0]
  by_cases h : j + 1 < L.length ∧ fromN bf b L (j + 1) ≤ untilN af b L j
  · have := fit_next hE hk h.1
    rw [if_pos h, show untilN af b L j - fromN bf b L (j + 1) = 0 by omega, lagV_zero l0]; omega
  · rw [if_neg h]; omega
theorem jV_on {k bf af b l : Int} {L : List Int} (hE : fitsE k bf af b l L = 0) (hk : k ≠ 0) {t : Int} : ∀ (d : Nat) {s : Int} {i : Nat}, s ≤ t → (∀ q, i ≤ q → q < i + d → untilN af b L q ≤ t) → (i < L.length → s ≤ untilN af b L i) → i + d ≤ L.length → (i + d < L.length → t ≤ untilN af b L (i + d)) →
    jV k bf af b L s i ≤ jV k bf af b L t (i + d) ∧ jV k bf af b L t (i + d) ≤ jV k bf af b L s i + (t - s)
  | 0, s, i, hst, _, _, _, hu => jV_same hE hk hst hu
  | d + 1, s, i, hst, ho, hsu, hl, hu => by
    have hi : i < L.length := by omega
    have hui := ho i (Nat.le_refl _) (by omega)
    obtain ⟨a, c⟩ := jV_same hE hk (s := s) (t := untilN af b L i) (j := i) (hsu hi) (fun _ => Int.le_refl _)
    have e := jV_next hE hk hi
    have hr := jV_on hE hk d (s := untilN af b L i) (i := i + 1) hui (fun q h1 h2 => ho q (by omega) (by omega)) (fun h => by
      have := (until_mono hE hk (show i ≤ i + 1 by omega) h).1
      exact this) (by omega) (by rw [show i + 1 + d = i + (d + 1) by omega]; exact hu)
    rw [show i + 1 + d = i + (d + 1) by omega] at hr
    constructor <;> omega
theorem atV_on {k bf af b l : Int} {L : List Int} (hE : fitsE k bf af b l L = 0) (hk : k ≠ 0) {s t : Int} (hst : s ≤ t) : atV k bf af b L s ≤ atV k bf af b L t ∧ atV k bf af b L t - atV k bf af b L s ≤ t - s := by
  obtain ⟨i, hi⟩ := over_ex hE hk s
  obtain ⟨j, hj⟩ := over_ex hE hk t
  have hij := over_mono hi hj hst
  rw [atV_over hE hk hi, atV_over hE hk hj]
  obtain ⟨d, rfl⟩ : ∃ d, j = i + d := ⟨j - i, by omega⟩
  obtain ⟨a, c⟩ := jV_on hE hk d (s := s) (t := t) (i := i) hst (fun q h1 h2 => hj.lo q h2) (fun h => Int.le_of_lt (hi.hi i (Nat.le_refl _) h)) hj.le (fun h => Int.le_of_lt (hj.hi _ (Nat.le_refl _) h))
  exact ⟨a, by omega⟩
theorem over_from {k bf af b l : Int} {L : List Int} (hE : fitsE k bf af b l L = 0) (hk : k ≠ 0) {i : Nat} (hi : i < L.length) : Over bf af b L (fromN bf b L i) i := by
  obtain ⟨hs, ht⟩ := fitsE_zero hE
  obtain ⟨f0, _, a0, _, l0, _⟩ := smOk_lim hs
  have e := from_until (bf := bf) (af := af) (b := b) (L := L) i
  exact ⟨by omega, fun q hq => (until_mono hE hk (show q ≤ i by omega) hi).2 hq, fun q h1 h2 => by have := (until_mono hE hk h1 h2).1; omega⟩
theorem over_until {k bf af b l : Int} {L : List Int} (hE : fitsE k bf af b l L = 0) (hk : k ≠ 0) {i : Nat} (hi : i < L.length) : Over bf af b L (untilN af b L i) (i + 1) := by
  obtain ⟨hs, ht⟩ := fitsE_zero hE
  obtain ⟨f0, _, a0, _, l0, _⟩ := smOk_lim hs
  refine ⟨by omega, fun q hq => (until_mono hE hk (show q ≤ i by omega) hi).1, fun q h1 h2 => ?_⟩
  have := (until_mono hE hk (show i ≤ q by omega) h2).2 (by omega)
  have e := from_until (bf := bf) (af := af) (b := b) (L := L) q
  omega
theorem at_from {k bf af b l : Int} {L : List Int} (hE : fitsE k bf af b l L = 0) (hk : k ≠ 0) {i : Nat} (hi : i < L.length) : atV k bf af b L (fromN bf b L i) = outV b L (fromN bf b L i) := by
  obtain ⟨hs, ht⟩ := fitsE_zero hE
  obtain ⟨f0, _, a0, _, l0, _⟩ := smOk_lim hs
  have h := over_from hE hk hi
  rw [atV_over hE hk h]
  unfold jV outV
  rw [if_pos ⟨hi, Int.le_refl _⟩, Int.sub_self, lagV_zero l0, cnt_over hE h (fun q h1 h2 => ?_)]
  · omega
  · have := (until_mono hE hk h1 h2).1
    unfold untilN at this
    unfold fromN
    omega
theorem at_until {k bf af b l : Int} {L : List Int} (hE : fitsE k bf af b l L = 0) (hk : k ≠ 0) {i : Nat} (hi : i < L.length) : atV k bf af b L (untilN af b L i) = outV b L (untilN af b L i) := by
  obtain ⟨hs, ht⟩ := fitsE_zero hE
  obtain ⟨f0, _, a0, _, l0, _⟩ := smOk_lim hs
  have h := over_until hE hk hi
  rw [atV_over hE hk h]
  unfold jV outV
  rw [cnt_over hE h (fun q h1 h2 => ?_)]
  · by_cases hc : i + 1 < L.length ∧ fromN bf b L (i + 1) ≤ untilN af b L i
    · have := fit_next hE hk hc.1
      rw [if_pos hc, show untilN af b L i - fromN bf b L (i + 1) = 0 by omega, lagV_zero l0]; omega
    · rw [if_neg hc]; omega
  · have := (until_mono hE hk (show i ≤ q by omega) h2).2 (by omega)
    unfold fromN at this
    omega
theorem onw_pair {N : Nat} (hN : 100 ≤ N) {k bf af b l : Int} {L : List Int} (hL : L.length ≤ 40) (hE : fitsE k bf af b l L = 0) {t : Int} (t0 : -9223372036854775808 ≤ t) (t1 : t < 9223372036854775808) (he : atV k bf af b L t = outV b L t) :
    ∃ v e, f_31 N k bf af b l L t = some (v, e) ∧ f_31 N 0 0 0 b l L t = some (v, e) := by
  obtain ⟨hs, ht⟩ := fitsE_zero hE
  rw [sat_at hN hL k bf af t0 t1, sat_at hN hL 0 0 0 t0 t1, if_pos hE, if_pos (fitsE_step ht), atV_step, he]
  exact ⟨_, _, rfl, rfl⟩
theorem sonw_loop (N : Nat) (hN : 100 ≤ N) {k bf af b l : Int} {L : List Int} (hL : L.length ≤ 40) (hE : fitsE k bf af b l L = 0) (hk : k ≠ 0) : ∀ (n M i : Nat), i + n = L.length → n < M →
    iter (b_7_0 N) M ((), (), (), (i : Int), (b, l, L), (k, bf, af), (b, l, L)) = some (.inr ()) := by
  obtain ⟨hs, ht⟩ := fitsE_zero hE
  obtain ⟨f0, f1, a0, a1, l0, l1, _⟩ := smOk_lim hs
  intro n
  induction n with
  | zero =>
    intro M i hi hM
    obtain ⟨M, rfl⟩ : ∃ m, M = m + 1 := ⟨M - 1, by omega⟩
    show b_7_0 N (iter (b_7_0 N) M) _ = _
    unfold b_7_0
    simp only
    rw [decide_eq_false (show ¬ (i : Int) < (L.length : Int) by omega)]; rfl
  | succ n ih =>
    intro M i hi hM
    obtain ⟨M, rfl⟩ : ∃ m, M = m + 1 := ⟨M - 1, by omega⟩
    have ih' := ih M (i + 1) (by omega) (by omega)
    have hil : i < L.length := by omega
    have hl := endW_lim (tab_of ht) hil
    have eF : (endW b L i - 1 - bf) * 1000000000 = fromN bf b L i := rfl
    have eU : (endW b L i + af) * 1000000000 = untilN af b L i := rfl
    have eL := from_until (bf := bf) (af := af) (b := b) (L := L) i
    have bF : -9223372036854775808 ≤ fromN bf b L i ∧ fromN bf b L i < 9223372036854775808 := by rw [← eF]; omega
    have bU : -9223372036854775808 ≤ untilN af b L i ∧ untilN af b L i < 9223372036854775808 := by rw [← eU]; omega
    obtain ⟨v, e, p1, p2⟩ := onw_pair hN hL hE bF.1 bF.2 (at_from hE hk hil)
    obtain ⟨v', e', q1, q2⟩ := onw_pair hN hL hE bU.1 bU.2 (at_until hE hk hil)
    show b_7_0 N (iter (b_7_0 N) M) _ = _
    generalize iter (b_7_0 N) M = I at ih' ⊢
    unfold b_7_0
    simp only
    rw [decide_eq_true (show (i : Int) < (L.length : Int) by omega), swin_at hN hL, if_pos hE, if_neg (show ¬ (k = 0 ∨ (i : Int) < 0 ∨ (i : Int) ≥ (L.length : Int)) by omega), wi64 (n := (i : Int) + 1) (by omega) (by omega), show (i : Int) + 1 = ((i + 1 : Nat) : Int) by omega]
    simp only [cond_true, Option.bind_some, Int.toNat_natCast, eF, eU]
    rw [wi64 (n := untilN af b L i - fromN bf b L i) (by omega) (by omega), show untilN af b L i - fromN bf b L i = lenS bf af by omega, slag_at, slag_at, if_pos (show LagOk k bf af 0 from ⟨hs, hk, Int.le_refl _, by omega⟩), if_pos (show LagOk k bf af (lenS bf af) from ⟨hs, hk, by omega, Int.le_refl _⟩), lagV_zero l0, lagV_full l0]
    simp only [Option.bind_some, p1, p2, q1, q2, ih', Option.isNone_none, Bool.not_true, cond_false, bne_self_eq_false, beq_self_eq_true]
theorem sonw_holds (k bf af b l : Int) (L of : List Int) (o0 : -9223372036854775808 ≤ List.getD of (Int.toNat 0) 0 ∧ List.getD of (Int.toNat 0) 0 < 9223372036854775808) (o1 : -9223372036854775808 ≤ List.getD of (Int.toNat 1) 0 ∧ List.getD of (Int.toNat 1) 0 < 9223372036854775808) : f_7 3000 k bf af b l L of = some true := by
  unfold f_7
  rw [ssure_at]
  by_cases hL : (L.length : Int) > 40
  · rw [decide_eq_true hL]; rfl
  have hL' : L.length ≤ 40 := by omega
  rw [decide_eq_false hL, cond_false, sfits_at (by decide) hL']
  by_cases hE : fitsE k bf af b l L = 0
  rotate_left
  · rw [if_neg hE]; rfl
  rw [if_pos hE]
  simp only [Option.bind_some, Option.isNone_none, Bool.not_true, cond_false]
  by_cases hk : k = 0
  · rw [hk, beq_self_eq_true]; rfl
  rw [beq_false_of_ne hk, cond_false]
  have hlp : l_7_0 3000 ((), (), (), 0, (b, l, L), (k, bf, af), (b, l, L)) = some (.inr ()) := sonw_loop 3000 (by decide) hL' hE hk L.length 3000 0 (by omega) (by omega)
  generalize hx : List.getD of (Int.toNat 0) 0 = x at o0 ⊢
  generalize hy : List.getD of (Int.toNat 1) 0 = y at o1 ⊢
  generalize hp : (if y < x then y else x) = p
  generalize hq : (if y > x then y else x) = q
  have hpq : p ≤ q ∧ -9223372036854775808 ≤ p ∧ q < 9223372036854775808 := by
    by_cases h : y < x
    · rw [if_pos h] at hp
      rw [if_neg (by omega)] at hq
      omega
    · rw [if_neg h] at hp
      by_cases h2 : y > x
      · rw [if_pos h2] at hq; omega
      · rw [if_neg h2] at hq; omega
  rw [hlp, sat_at (by decide) hL' k bf af hpq.2.1 (by omega), sat_at (by decide) hL' k bf af (by omega) hpq.2.2, if_pos hE, if_pos hE]
  simp only [Option.bind_some]
  by_cases hP : utcE b l L p = 0
  rotate_left
  · rw [if_neg hP]; rfl
  rw [if_pos hP]
  by_cases hQ : utcE b l L q = 0
  rotate_left
  · rw [if_neg hQ]; rfl
  rw [if_pos hQ]
  obtain ⟨⟨u0, u1⟩, _⟩ := utcE_zero hP
  obtain ⟨⟨u2, u3⟩, _⟩ := utcE_zero hQ
  obtain ⟨m1, m2⟩ := atV_on hE hk hpq.1
  simp only [Option.isNone_none, cond_true]
  rw [decide_eq_false (show ¬ atV k bf af b L q < atV k bf af b L p by omega), wi64 (n := atV k bf af b L q - atV k bf af b L p) (by omega) (by omega), wi64 (n := q - p) (by omega) (by omega), decide_eq_false (show ¬ atV k bf af b L q - atV k bf af b L p > q - p by omega)]
  rfl
end Go.Proofs.YtmdnnlfoljdfpaaDoor.Mir
namespace Go.Proofs.YtmdnnlfoljdfpaaDoor
open Go Go.RowKit Mir
theorem laid_Q {w : World} (hL : LaidW w) : ∀ q ∈ Mir.laidL, w.cell? ⟨q.1, q.2.1, none⟩ = some q.2.2 := fun q hq => by
  obtain rfl := List.mem_singleton.1 hq
  exact hL
abbrev smSh : List Sh := [.int .i64, .int .i64, .int .i64]
abbrev tbSh : List Sh := [.int .i64, .int .i64, .sl [.int .i64]]
set_option maxRecDepth 100000 in
theorem law_SmearSteps_row (w : World) (hL : LaidW w) {v0 v1 v2 : Value} {y0 : TL smSh} (_ : OkL _ y0) (e0 : RepA (gW w) (.agg (encL _ y0)) v0) {y1 : TL tbSh} (_ : OkL _ y1) (e1 : RepA (gW w) (.agg (encL _ y1)) v1)
    {y2 : TL [.arr .i64 2]} (_ : OkL _ y2) (e2 : RepA (gW w) (.agg (encL [.arr .i64 2] y2)) v2) :
    Calls Tryd.prog 5 #[v0, v1, v2] w fun e w' => e = .returned (.bool true) ∧ Below w.heap.size w w' := by
  obtain ⟨k, bf, af⟩ := y0
  obtain ⟨b, l, L⟩ := y1
  have hr : (S_5 3000).run [.agg (encL smSh (k, bf, af)), .agg (encL tbSh (b, l, L)), .agg (encL [.arr .i64 2] y2)] [] = f_5 3000 k bf af b l L y2 := by kernel_rfl
  have ho : ((S_5 3000).out [.agg (encL smSh (k, bf, af)), .agg (encL tbSh (b, l, L)), .agg (encL [.arr .i64 2] y2)] [] true).1 = .a (.one (Mir.boolC true)) := by kernel_rfl
  exact calls_open (vs := [v0, v1, v2]) (s_5 3000) (by kernel_rfl) Tryd.func5 (by kernel_rfl) (by kernel_rfl) (hr.trans (steps_holds k bf af b l L y2))
    ⟨v0, _, rfl, e0, v1, _, rfl, e1, v2, _, rfl, e2, rfl⟩ (laid_Q hL) (fun g x h => by rw [ho] at h; exact h)
end Go.Proofs.YtmdnnlfoljdfpaaDoor
namespace Go.Proofs.YtmdnnlfoljdfpaaDoor
open Go Go.RowKit Mir
theorem okArr_getD {n : Nat} {xs : List Int} (h : OkS (.arr .i64 n) xs) (i : Nat) : -9223372036854775808 ≤ xs.getD i 0 ∧ xs.getD i 0 < 9223372036854775808 := by
  rw [List.getD_eq_getElem?_getD]
  cases hg : xs[i]? with
  | none => exact ⟨by decide, by decide⟩
  | some x => exact wf_i64 (h x (List.mem_of_getElem? hg))
set_option maxRecDepth 100000 in
theorem law_SmearOnward_row (w : World) (hL : LaidW w) {v0 v1 v2 : Value} {y0 : TL smSh} (_ : OkL _ y0) (e0 : RepA (gW w) (.agg (encL _ y0)) v0) {y1 : TL tbSh} (_ : OkL _ y1) (e1 : RepA (gW w) (.agg (encL _ y1)) v1)
    {y2 : TL [.arr .i64 2]} (k2 : OkL [.arr .i64 2] y2) (e2 : RepA (gW w) (.agg (encL [.arr .i64 2] y2)) v2) :
    Calls Tryd.prog 7 #[v0, v1, v2] w fun e w' => e = .returned (.bool true) ∧ Below w.heap.size w w' := by
  obtain ⟨k, bf, af⟩ := y0
  obtain ⟨b, l, L⟩ := y1
  have hr : (S_7 3000).run [.agg (encL smSh (k, bf, af)), .agg (encL tbSh (b, l, L)), .agg (encL [.arr .i64 2] y2)] [] = f_7 3000 k bf af b l L y2 := by kernel_rfl
  have ho : ((S_7 3000).out [.agg (encL smSh (k, bf, af)), .agg (encL tbSh (b, l, L)), .agg (encL [.arr .i64 2] y2)] [] true).1 = .a (.one (Mir.boolC true)) := by kernel_rfl
  have k2' : OkS (.arr .i64 2) y2 := by simpa only [OkL] using k2
  exact calls_open (vs := [v0, v1, v2]) (s_7 3000) (by kernel_rfl) Tryd.func7 (by kernel_rfl) (by kernel_rfl) (hr.trans (sonw_holds k bf af b l L y2 (okArr_getD k2' _) (okArr_getD k2' _)))
    ⟨v0, _, rfl, e0, v1, _, rfl, e1, v2, _, rfl, e2, rfl⟩ (laid_Q hL) (fun g x h => by rw [ho] at h; exact h)
end Go.Proofs.YtmdnnlfoljdfpaaDoor
namespace Go.Proofs.YtmdnnlfoljdfpaaDoor
open Go.ChangeShapes Go.WideShapes Go.ChangeAt Go.RowKit
open Go.ChangeMaps (open_string shut_string)
set_option maxRecDepth 100000 in
theorem smearOnward_lifted (os : Os) (started : os.Started) (H : Type) (enc : TypeId × Value → H) :
    ReturnsInHanded {} Tryd.checked os 7 .any (fun w args => (Rows.smearOnwardSpec.pre enc Tryd.prog Tryd.f7 [] false w args ∧ laidMetH Tryd.prog laidL w) ∧ sizedMet enc Tryd.prog Tryd.f7 (OpenSpec.ofChange Rows.smearOnwardSpec) false w args)
      (Rows.smearOnwardSpec.post enc Tryd.prog Tryd.f7 false true false false) := by
  refine returnsInHanded_of_change_and (C := Tryd.checked) (X := fun w _ => laidMetH Tryd.prog laidL w) (fun _ _ _ hh h => h.of_heap hh) Tryd.own started (by kernel_rfl) Tryd.func7
    (ChangeSpec.witness_at (enc := enc) (C := Tryd.checked) (os := os) (X := fun w _ => laidMetH Tryd.prog laidL w) false (laidWorld os) #[.agg #[.int .i64 0, .int .i64 0, .int .i64 0], .agg #[.int .i64 0, .int .i64 0, .slice none 0 0], .agg #[.int .i64 0, .int .i64 0]] 8 rfl (by kernel_rfl) (by kernel_rfl) (by kernel_rfl) (by kernel_rfl) (by kernel_rfl) (laidWorld_met os _)) ?_
  intro W base args ds gs before hval0 hW _ hsz0 hL _
  have hval : ∀ (j : Nat) t v, Tryd.f7.params[j]? = some t → args[j]? = some v → Value.okWide Tryd.prog W .any base t v := hval0
  have hW' := hW
  have hsz : (DataW.weightsEach Tryd.prog (Tryd.f7.params.toList ++ (Rows.smearOnwardSpec).plain.varTypes Tryd.prog) (ds ++ gs)).all (· ≤ reachBytes) = true := hsz0
  obtain ⟨p, q, hA0, hV, rfl, hfz, hnd⟩ := hW
  have hA : DataW.TrodAll enc Tryd.prog W 0 (fun _ => true) true Tryd.f7.params.toList args.toList ds p := hA0
  have hA1 := hA
  rw [Tryd.params7] at hA hval hsz
  obtain ⟨v0, vs0, d0, ds0, p0, q0, hargs, rfl, rfl, h0, r0⟩ := trodAll_cons hA
  obtain ⟨v1, vs1, d1, ds1, p1, q1, rfl, rfl, rfl, h1, r1⟩ := trodAll_cons r0
  obtain ⟨v2, vs2, d2, ds2, p2, q2, rfl, rfl, rfl, h2, r2⟩ := trodAll_cons r1
  obtain ⟨rfl, rfl, rfl⟩ := trodAll_nil r2
  obtain rfl : args = #[v0, v1, v2] := by cases args; simp_all
  obtain ⟨rfl, rfl⟩ := trodVars_none hV
  have hstay := fun (W' : World) (bel : Below W.heap.size W W') => trodAll_stays Tryd.laidOut bel (by rw [Tryd.params7]; simp only [List.mem_cons, List.not_mem_nil, or_false]; rintro t (rfl | rfl | rfl) <;> exact ⟨by kernel_rfl, of_decide_eq_true (by kernel_rfl)⟩) hA1
  obtain ⟨y0, k0, e0⟩ := Mir.open_agg (l := [.int .i64, .int .i64, .int .i64]) (by kernel_rfl) (by kernel_rfl) (hval 0 50 v0 rfl rfl) h0 (Mir.wok_each hsz 0 _ _ rfl rfl)
  obtain ⟨y1, k1, e1⟩ := Mir.open_agg (l := [.int .i64, .int .i64, .sl [.int .i64]]) (by kernel_rfl) (by kernel_rfl) (hval 1 53 v1 rfl rfl) h1 (Mir.wok_each hsz 1 _ _ rfl rfl)
  obtain ⟨y2, k2, e2⟩ := Mir.open_agg (l := [.arr .i64 2]) (by kernel_rfl) (by kernel_rfl) (hval 2 54 v2 rfl rfl) h2 (Mir.wok_each hsz 2 _ _ rfl rfl)
  refine (law_SmearOnward_row W (laid_of hL) k0 e0 k1 e1 k2 e2).mono fun e W' ⟨he, bel⟩ => ?_
  subst he
  exact ⟨_, rfl, _, _, _, [], _, [], hW', trodAll_mk1 (shut_bool Tryd.underlying4 _), hstay W' bel, rfl, bel.frame _, fun h => by cases h⟩
theorem smearOnward_over : Rows.SmearOnwardSaid :=
  OpenClaim.holds_of_wide 7 Tryd.f7 rfl rfl rfl rfl rfl rfl rfl ⟨rfl, rfl, rfl, rfl, rfl⟩ rfl rfl rfl rfl rfl (by kernel_rfl) Tryd.func7 (by kernel_rfl)
    (of_decide_eq_true (by kernel_rfl)) (by unfold Func.isWrapper; first | (rw [if_pos (by decide +kernel)]; kernel_rfl) | (rw [if_neg (by decide +kernel)]; exact ⟨rfl, rfl⟩))
    (fun os started H enc _ => smearOnward_lifted os started H enc)
theorem smearOnward_holds : Rows.SmearOnwardCardSaid :=
  Claim7.holds_tied_plain_at .later [] [.handle] true Rows.smearOnwardCard.stood.harness true
    smearOnward_over (fun _ h => by cases h) (by kernel_rfl) (fun _ h => by cases h) smearOnward_row_tie rfl ⟨rfl, rfl⟩ (by kernel_rfl) rfl
    (fun f fn hf hfn => by
      obtain rfl : f = 7 := Option.some.inj ((show Tryd.prog.funcNamed Rows.smearOnwardRow.func = some 7 by kernel_rfl).symm.trans hf) |>.symm
      obtain rfl : fn = Tryd.f7 := (Option.some.inj (Tryd.func7.symm.trans hfn)).symm
      exact ⟨by kernel_rfl, fun j t ht => by
        rw [Tryd.params7] at ht
        rcases j with _ | j
        · obtain rfl := Option.some.inj ht; kernel_rfl
        rcases j with _ | j
        · obtain rfl := Option.some.inj ht; kernel_rfl
        rcases j with _ | j
        · obtain rfl := Option.some.inj ht; kernel_rfl
        · simp at ht⟩)
    (by kernel_rfl)
#print axioms smearOnward_holds
end Go.Proofs.YtmdnnlfoljdfpaaDoor
