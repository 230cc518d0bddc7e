/- The mirror's types. -/
import Derived.Test.YtkdjfakjnkemiaaDoorGiv02
import Derived.Test.YtkdjfakjnkemiaaDoorProg
namespace Go.Proofs.YtkdjfakjnkemiaaDoor.Mir
open Go Go.RowKit
def ti_2 : TI := ⟨.int .i64, 1, 8, [int .i64 0], [.int .i64]⟩
theorem tk_2 : TyOk1 Go.Proofs.Tryd.prog 2 ti_2 := ⟨by kernel_rfl, fieldsNone (fun fs h => by cases h), ⟨Go.Proofs.Tryd.t2, (Go.Proofs.Tryd.t2.zero).getD .nilIface, by kernel_rfl, by kernel_rfl, by kernel_rfl, by kernel_rfl, by kernel_rfl⟩⟩
def ti_4 : TI := ⟨.bool, 1, 1, [boolC false], [.bool]⟩
theorem tk_4 : TyOk1 Go.Proofs.Tryd.prog 4 ti_4 := ⟨by kernel_rfl, fieldsNone (fun fs h => by cases h), ⟨Go.Proofs.Tryd.t4, (Go.Proofs.Tryd.t4.zero).getD .nilIface, by kernel_rfl, by kernel_rfl, by kernel_rfl, by kernel_rfl, by kernel_rfl⟩⟩
def ti_38 : TI := ⟨.interface #[("Error", 132)], 1, 16, [.lit .nilIface], [.err 122]⟩
theorem tk_38 : TyOk1 Go.Proofs.Tryd.prog 38 ti_38 := ⟨by kernel_rfl, fieldsNone (fun fs h => by cases h), ⟨Go.Proofs.Tryd.t38, (Go.Proofs.Tryd.t38.zero).getD .nilIface, by kernel_rfl, by kernel_rfl, by kernel_rfl, by kernel_rfl, by kernel_rfl⟩⟩
def ti_63 : TI := ⟨.struct #[{ name := "Hi", type := 2, offset := 0, embedded := false, tag := "", pkgPath := "", byteOffset := 0 }, { name := "Lo", type := 61, offset := 1, embedded := false, tag := "", pkgPath := "", byteOffset := 8 }], 2, 16, [int .i64 0, int .u64 0], [.int .i64, .int .u64]⟩
theorem tk_63 : TyOk1 Go.Proofs.Tryd.prog 63 ti_63 := ⟨by kernel_rfl, fieldsSome rfl (by kernel_rfl), ⟨Go.Proofs.Tryd.t63, (Go.Proofs.Tryd.t63.zero).getD .nilIface, by kernel_rfl, by kernel_rfl, by kernel_rfl, by kernel_rfl, by kernel_rfl⟩⟩
def ti_64 : TI := ⟨.struct #[{ name := "Hi", type := 2, offset := 0, embedded := false, tag := "", pkgPath := "", byteOffset := 0 }, { name := "Lo", type := 61, offset := 1, embedded := false, tag := "", pkgPath := "", byteOffset := 8 }], 2, 16, [int .i64 0, int .u64 0], [.int .i64, .int .u64]⟩
theorem tk_64 : TyOk1 Go.Proofs.Tryd.prog 64 ti_64 := ⟨by kernel_rfl, fieldsSome rfl (by kernel_rfl), ⟨Go.Proofs.Tryd.t64, (Go.Proofs.Tryd.t64.zero).getD .nilIface, by kernel_rfl, by kernel_rfl, by kernel_rfl, by kernel_rfl, by kernel_rfl⟩⟩
def ti_65 : TI := ⟨.array 8 61, 8, 64, [.arr .u64 8 (List.replicate 8 0)], [.arr .u64 8]⟩
theorem tk_65 : TyOk1 Go.Proofs.Tryd.prog 65 ti_65 := ⟨by kernel_rfl, fieldsNone (fun fs h => by cases h), ⟨Go.Proofs.Tryd.t65, (Go.Proofs.Tryd.t65.zero).getD .nilIface, by kernel_rfl, by kernel_rfl, by kernel_rfl, by kernel_rfl, by kernel_rfl⟩⟩
def ti_67 : TI := ⟨.struct #[{ name := "Neg", type := 4, offset := 0, embedded := false, tag := "", pkgPath := "", byteOffset := 0 }, { name := "B", type := 65, offset := 1, embedded := false, tag := "", pkgPath := "", byteOffset := 8 }], 9, 72, [boolC false, .arr .u64 8 (List.replicate 8 0)], [.bool, .arr .u64 8]⟩
theorem tk_67 : TyOk1 Go.Proofs.Tryd.prog 67 ti_67 := ⟨by kernel_rfl, fieldsSome rfl (by kernel_rfl), ⟨Go.Proofs.Tryd.t67, (Go.Proofs.Tryd.t67.zero).getD .nilIface, by kernel_rfl, by kernel_rfl, by kernel_rfl, by kernel_rfl, by kernel_rfl⟩⟩
def ti_103 : TI := ⟨.array 2 2, 2, 16, [.arr .i64 2 (List.replicate 2 0)], [.arr .i64 2]⟩
theorem tk_103 : TyOk1 Go.Proofs.Tryd.prog 103 ti_103 := ⟨by kernel_rfl, fieldsNone (fun fs h => by cases h), ⟨Go.Proofs.Tryd.t103, (Go.Proofs.Tryd.t103.zero).getD .nilIface, by kernel_rfl, by kernel_rfl, by kernel_rfl, by kernel_rfl, by kernel_rfl⟩⟩
def tab : List (Nat × TI) := [(2, ti_2), (4, ti_4), (38, ti_38), (63, ti_63), (64, ti_64), (65, ti_65), (67, ti_67), (103, ti_103)]
def tyT : TypeId → Option TI := lookT tab
theorem tyOk : TyOk Go.Proofs.Tryd.prog tyT := TysOk.ok (tysOk_cons tk_2 (tysOk_cons tk_4 (tysOk_cons tk_38 (tysOk_cons tk_63 (tysOk_cons tk_64 (tysOk_cons tk_65 (tysOk_cons tk_67 (tysOk_cons tk_103 tysOk_nil))))))))
theorem ek_64 : EqOk Go.Proofs.Tryd.prog 64 (eqQ [.int .i64, .int .u64]) := eqQ_ok (d := 9) (by kernel_rfl) (by omega) (by kernel_rfl) (by kernel_rfl)
def eqT : TypeId → Option (List C → List C → Option Bool) := lookE [(64, eqQ [.int .i64, .int .u64])]
theorem eqOk : ∀ t q, eqT t = some q → EqOk Go.Proofs.Tryd.prog t q := (eqsOk_cons ek_64 eqsOk_nil)
end Go.Proofs.YtkdjfakjnkemiaaDoor.Mir
