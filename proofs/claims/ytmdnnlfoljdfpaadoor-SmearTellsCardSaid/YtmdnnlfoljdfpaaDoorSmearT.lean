/- The mirror's types. -/
import Derived.Test.YtmdnnlfoljdfpaaDoorMirY
import Derived.Test.YtmdnnlfoljdfpaaDoorGiv12
import Derived.Test.YtmdnnlfoljdfpaaDoorProg
namespace Go.Proofs.YtmdnnlfoljdfpaaDoor.Mir
open Go Go.RowKit
def ti_2 : TI := ⟨.int .i64, 1, 8, [int .i64 0], [.int .i64]⟩
theorem tk_2 : TyOk1 Go.Proofs.Tryd.prog 2 ti_2 := ⟨by kernel_rfl, fieldsNone (fun fs h => by cases h), ⟨Go.Proofs.Tryd.t2, (Go.Proofs.Tryd.t2.zero).getD .nilIface, by kernel_rfl, by kernel_rfl, by kernel_rfl, by kernel_rfl, by kernel_rfl⟩⟩
def ti_3 : TI := ⟨.int .i64, 1, 8, [int .i64 0], [.int .i64]⟩
theorem tk_3 : TyOk1 Go.Proofs.Tryd.prog 3 ti_3 := ⟨by kernel_rfl, fieldsNone (fun fs h => by cases h), ⟨Go.Proofs.Tryd.t3, (Go.Proofs.Tryd.t3.zero).getD .nilIface, by kernel_rfl, by kernel_rfl, by kernel_rfl, by kernel_rfl, by kernel_rfl⟩⟩
def ti_4 : TI := ⟨.bool, 1, 1, [boolC false], [.bool]⟩
theorem tk_4 : TyOk1 Go.Proofs.Tryd.prog 4 ti_4 := ⟨by kernel_rfl, fieldsNone (fun fs h => by cases h), ⟨Go.Proofs.Tryd.t4, (Go.Proofs.Tryd.t4.zero).getD .nilIface, by kernel_rfl, by kernel_rfl, by kernel_rfl, by kernel_rfl, by kernel_rfl⟩⟩
def ti_32 : TI := ⟨.interface #[("Error", 178)], 1, 16, [.lit .nilIface], [.err 95]⟩
theorem tk_32 : TyOk1 Go.Proofs.Tryd.prog 32 ti_32 := ⟨by kernel_rfl, fieldsNone (fun fs h => by cases h), ⟨Go.Proofs.Tryd.t32, (Go.Proofs.Tryd.t32.zero).getD .nilIface, by kernel_rfl, by kernel_rfl, by kernel_rfl, by kernel_rfl, by kernel_rfl⟩⟩
def ti_50 : TI := ⟨.struct #[{ name := "Kind", type := 3, offset := 0, embedded := false, tag := "", pkgPath := "", byteOffset := 0 }, { name := "Before", type := 2, offset := 1, embedded := false, tag := "", pkgPath := "", byteOffset := 8 }, { name := "After", type := 2, offset := 2, embedded := false, tag := "", pkgPath := "", byteOffset := 16 }], 3, 24, [int .i64 0, int .i64 0, int .i64 0], [.int .i64, .int .i64, .int .i64]⟩
theorem tk_50 : TyOk1 Go.Proofs.Tryd.prog 50 ti_50 := ⟨by kernel_rfl, fieldsSome rfl (by kernel_rfl), ⟨Go.Proofs.Tryd.t50, (Go.Proofs.Tryd.t50.zero).getD .nilIface, by kernel_rfl, by kernel_rfl, by kernel_rfl, by kernel_rfl, by kernel_rfl⟩⟩
def ti_51 : TI := ⟨.slice 2, 1, 24, [.lit (.slice none 0 0)], [.sl [.int .i64]]⟩
theorem tk_51 : TyOk1 Go.Proofs.Tryd.prog 51 ti_51 := ⟨by kernel_rfl, fieldsNone (fun fs h => by cases h), ⟨Go.Proofs.Tryd.t51, (Go.Proofs.Tryd.t51.zero).getD .nilIface, by kernel_rfl, by kernel_rfl, by kernel_rfl, by kernel_rfl, by kernel_rfl⟩⟩
def ti_53 : TI := ⟨.struct #[{ name := "Base", type := 2, offset := 0, embedded := false, tag := "", pkgPath := "", byteOffset := 0 }, { name := "Last", type := 2, offset := 1, embedded := false, tag := "", pkgPath := "", byteOffset := 8 }, { name := "L", type := 51, offset := 2, embedded := false, tag := "", pkgPath := "", byteOffset := 16 }], 3, 40, [int .i64 0, int .i64 0, .lit (.slice none 0 0)], [.int .i64, .int .i64, .sl [.int .i64]]⟩
theorem tk_53 : TyOk1 Go.Proofs.Tryd.prog 53 ti_53 := ⟨by kernel_rfl, fieldsSome rfl (by kernel_rfl), ⟨Go.Proofs.Tryd.t53, (Go.Proofs.Tryd.t53.zero).getD .nilIface, by kernel_rfl, by kernel_rfl, by kernel_rfl, by kernel_rfl, by kernel_rfl⟩⟩
def ti_54 : TI := ⟨.array 2 2, 2, 16, [.arr .i64 2 (List.replicate 2 0)], [.arr .i64 2]⟩
theorem tk_54 : TyOk1 Go.Proofs.Tryd.prog 54 ti_54 := ⟨by kernel_rfl, fieldsNone (fun fs h => by cases h), ⟨Go.Proofs.Tryd.t54, (Go.Proofs.Tryd.t54.zero).getD .nilIface, by kernel_rfl, by kernel_rfl, by kernel_rfl, by kernel_rfl, by kernel_rfl⟩⟩
def ti_55 : TI := ⟨.struct #[{ name := "Kind", type := 3, offset := 0, embedded := false, tag := "", pkgPath := "", byteOffset := 0 }, { name := "Before", type := 2, offset := 1, embedded := false, tag := "", pkgPath := "", byteOffset := 8 }, { name := "After", type := 2, offset := 2, embedded := false, tag := "", pkgPath := "", byteOffset := 16 }], 3, 24, [int .i64 0, int .i64 0, int .i64 0], [.int .i64, .int .i64, .int .i64]⟩
theorem tk_55 : TyOk1 Go.Proofs.Tryd.prog 55 ti_55 := ⟨by kernel_rfl, fieldsSome rfl (by kernel_rfl), ⟨Go.Proofs.Tryd.t55, (Go.Proofs.Tryd.t55.zero).getD .nilIface, by kernel_rfl, by kernel_rfl, by kernel_rfl, by kernel_rfl, by kernel_rfl⟩⟩
def ti_56 : TI := ⟨.struct #[{ name := "Base", type := 2, offset := 0, embedded := false, tag := "", pkgPath := "", byteOffset := 0 }, { name := "Last", type := 2, offset := 1, embedded := false, tag := "", pkgPath := "", byteOffset := 8 }, { name := "L", type := 51, offset := 2, embedded := false, tag := "", pkgPath := "", byteOffset := 16 }], 3, 40, [int .i64 0, int .i64 0, .lit (.slice none 0 0)], [.int .i64, .int .i64, .sl [.int .i64]]⟩
theorem tk_56 : TyOk1 Go.Proofs.Tryd.prog 56 ti_56 := ⟨by kernel_rfl, fieldsSome rfl (by kernel_rfl), ⟨Go.Proofs.Tryd.t56, (Go.Proofs.Tryd.t56.zero).getD .nilIface, by kernel_rfl, by kernel_rfl, by kernel_rfl, by kernel_rfl, by kernel_rfl⟩⟩
def ti_72 : TI := ⟨.struct #[{ name := "Day", type := 2, offset := 0, embedded := false, tag := "", pkgPath := "", byteOffset := 0 }, { name := "Second", type := 2, offset := 1, embedded := false, tag := "", pkgPath := "", byteOffset := 8 }, { name := "Nano", type := 2, offset := 2, embedded := false, tag := "", pkgPath := "", byteOffset := 16 }], 3, 24, [int .i64 0, int .i64 0, int .i64 0], [.int .i64, .int .i64, .int .i64]⟩
theorem tk_72 : TyOk1 Go.Proofs.Tryd.prog 72 ti_72 := ⟨by kernel_rfl, fieldsSome rfl (by kernel_rfl), ⟨Go.Proofs.Tryd.t72, (Go.Proofs.Tryd.t72.zero).getD .nilIface, by kernel_rfl, by kernel_rfl, by kernel_rfl, by kernel_rfl, by kernel_rfl⟩⟩
def ti_91 : TI := ⟨.int .u64, 1, 8, [int .u64 0], [.int .u64]⟩
theorem tk_91 : TyOk1 Go.Proofs.Tryd.prog 91 ti_91 := ⟨by kernel_rfl, fieldsNone (fun fs h => by cases h), ⟨Go.Proofs.Tryd.t91, (Go.Proofs.Tryd.t91.zero).getD .nilIface, by kernel_rfl, by kernel_rfl, by kernel_rfl, by kernel_rfl, by kernel_rfl⟩⟩
def ti_95 : TI := ⟨.int .i64, 1, 8, [int .i64 0], [.int .i64]⟩
theorem tk_95 : TyOk1 Go.Proofs.Tryd.prog 95 ti_95 := ⟨by kernel_rfl, fieldsNone (fun fs h => by cases h), ⟨Go.Proofs.Tryd.t95, (Go.Proofs.Tryd.t95.zero).getD .nilIface, by kernel_rfl, by kernel_rfl, by kernel_rfl, by kernel_rfl, by kernel_rfl⟩⟩
def ti_99 : TI := ⟨.pointer 95, 1, 8, [.lit (Value.pointer none)], []⟩
theorem tk_99 : TyOk1 Go.Proofs.Tryd.prog 99 ti_99 := ⟨by kernel_rfl, fieldsNone (fun fs h => by cases h), ⟨Go.Proofs.Tryd.t99, (Go.Proofs.Tryd.t99.zero).getD .nilIface, by kernel_rfl, by kernel_rfl, by kernel_rfl, by kernel_rfl, by kernel_rfl⟩⟩
def ti_109 : TI := ⟨.struct #[{ name := "Day", type := 2, offset := 0, embedded := false, tag := "", pkgPath := "", byteOffset := 0 }, { name := "Second", type := 2, offset := 1, embedded := false, tag := "", pkgPath := "", byteOffset := 8 }, { name := "Nano", type := 2, offset := 2, embedded := false, tag := "", pkgPath := "", byteOffset := 16 }], 3, 24, [int .i64 0, int .i64 0, int .i64 0], [.int .i64, .int .i64, .int .i64]⟩
theorem tk_109 : TyOk1 Go.Proofs.Tryd.prog 109 ti_109 := ⟨by kernel_rfl, fieldsSome rfl (by kernel_rfl), ⟨Go.Proofs.Tryd.t109, (Go.Proofs.Tryd.t109.zero).getD .nilIface, by kernel_rfl, by kernel_rfl, by kernel_rfl, by kernel_rfl, by kernel_rfl⟩⟩
def ti_152 : TI := ⟨.struct #[{ name := "Hi", type := 2, offset := 0, embedded := false, tag := "", pkgPath := "", byteOffset := 0 }, { name := "Lo", type := 150, offset := 1, embedded := false, tag := "", pkgPath := "", byteOffset := 8 }], 2, 16, [int .i64 0, int .u64 0], [.int .i64, .int .u64]⟩
theorem tk_152 : TyOk1 Go.Proofs.Tryd.prog 152 ti_152 := ⟨by kernel_rfl, fieldsSome rfl (by kernel_rfl), ⟨Go.Proofs.Tryd.t152, (Go.Proofs.Tryd.t152.zero).getD .nilIface, by kernel_rfl, by kernel_rfl, by kernel_rfl, by kernel_rfl, by kernel_rfl⟩⟩
def tab : List (Nat × TI) := [(2, ti_2), (3, ti_3), (4, ti_4), (32, ti_32), (50, ti_50), (51, ti_51), (53, ti_53), (54, ti_54), (55, ti_55), (56, ti_56), (72, ti_72), (91, ti_91), (95, ti_95), (99, ti_99), (109, ti_109), (152, ti_152)]
def tyT : TypeId → Option TI := lookT tab
theorem tyOk : TyOk Go.Proofs.Tryd.prog tyT := TysOk.ok (tysOk_cons tk_2 (tysOk_cons tk_3 (tysOk_cons tk_4 (tysOk_cons tk_32 (tysOk_cons tk_50 (tysOk_cons tk_51 (tysOk_cons tk_53 (tysOk_cons tk_54 (tysOk_cons tk_55 (tysOk_cons tk_56 (tysOk_cons tk_72 (tysOk_cons tk_91 (tysOk_cons tk_95 (tysOk_cons tk_99 (tysOk_cons tk_109 (tysOk_cons tk_152 tysOk_nil))))))))))))))))
def eqT : TypeId → Option (List C → List C → Option Bool) := lookE []
theorem eqOk : ∀ t q, eqT t = some q → EqOk Go.Proofs.Tryd.prog t q := eqsOk_nil
end Go.Proofs.YtmdnnlfoljdfpaaDoor.Mir
