/- The mirror's types. -/
import Derived.Test.YtmdnnlfoljdfpaaDoorMirY
import Derived.Test.YtmdnnlfoljdfpaaDoorTrim
import Derived.Test.YtmdnnlfoljdfpaaDoorProg
namespace Go.Proofs.YtmdnnlfoljdfpaaDoor.Mir
open Go Go.RowKit
def ti_2 : TI := ⟨.int .i64, 1, 8, [int .i64 0], [.int .i64]⟩
theorem tk_2 : TyOk1 Go.Proofs.Tryd.prog 2 ti_2 := ⟨by kernel_rfl, fieldsNone (fun fs h => by cases h), ⟨Go.Proofs.Tryd.t2, (Go.Proofs.Tryd.t2.zero).getD .nilIface, by kernel_rfl, by kernel_rfl, by kernel_rfl, by kernel_rfl, by kernel_rfl⟩⟩
def ti_3 : TI := ⟨.int .i64, 1, 8, [int .i64 0], [.int .i64]⟩
theorem tk_3 : TyOk1 Go.Proofs.Tryd.prog 3 ti_3 := ⟨by kernel_rfl, fieldsNone (fun fs h => by cases h), ⟨Go.Proofs.Tryd.t3, (Go.Proofs.Tryd.t3.zero).getD .nilIface, by kernel_rfl, by kernel_rfl, by kernel_rfl, by kernel_rfl, by kernel_rfl⟩⟩
def ti_4 : TI := ⟨.bool, 1, 1, [boolC false], [.bool]⟩
theorem tk_4 : TyOk1 Go.Proofs.Tryd.prog 4 ti_4 := ⟨by kernel_rfl, fieldsNone (fun fs h => by cases h), ⟨Go.Proofs.Tryd.t4, (Go.Proofs.Tryd.t4.zero).getD .nilIface, by kernel_rfl, by kernel_rfl, by kernel_rfl, by kernel_rfl, by kernel_rfl⟩⟩
def ti_9 : TI := ⟨.string, 1, 16, [.lit (.string ByteArray.empty)], [.str]⟩
theorem tk_9 : TyOk1 Go.Proofs.Tryd.prog 9 ti_9 := ⟨by kernel_rfl, fieldsNone (fun fs h => by cases h), ⟨Go.Proofs.Tryd.t9, (Go.Proofs.Tryd.t9.zero).getD .nilIface, by kernel_rfl, by kernel_rfl, by kernel_rfl, by kernel_rfl, by kernel_rfl⟩⟩
def ti_22 : TI := ⟨.slice 93, 1, 24, [.lit (.slice none 0 0)], [.sl [.int .i64, .int .i64, .str]]⟩
theorem tk_22 : TyOk1 Go.Proofs.Tryd.prog 22 ti_22 := ⟨by kernel_rfl, fieldsNone (fun fs h => by cases h), ⟨Go.Proofs.Tryd.t22, (Go.Proofs.Tryd.t22.zero).getD .nilIface, by kernel_rfl, by kernel_rfl, by kernel_rfl, by kernel_rfl, by kernel_rfl⟩⟩
def ti_24 : TI := ⟨.struct #[{ name := "Name", type := 9, offset := 0, embedded := false, tag := "", pkgPath := "", byteOffset := 0 }, { name := "First", type := 2, offset := 1, embedded := false, tag := "", pkgPath := "", byteOffset := 16 }, { name := "L", type := 22, offset := 2, embedded := false, tag := "", pkgPath := "", byteOffset := 24 }], 3, 48, [.lit (.string ByteArray.empty), int .i64 0, .lit (.slice none 0 0)], [.str, .int .i64, .sl [.int .i64, .int .i64, .str]]⟩
theorem tk_24 : TyOk1 Go.Proofs.Tryd.prog 24 ti_24 := ⟨by kernel_rfl, fieldsSome rfl (by kernel_rfl), ⟨Go.Proofs.Tryd.t24, (Go.Proofs.Tryd.t24.zero).getD .nilIface, by kernel_rfl, by kernel_rfl, by kernel_rfl, by kernel_rfl, by kernel_rfl⟩⟩
def ti_27 : TI := ⟨.slice 47, 1, 24, [.lit (.slice none 0 0)], [.sl [.int .i64, .int .i64, .str]]⟩
theorem tk_27 : TyOk1 Go.Proofs.Tryd.prog 27 ti_27 := ⟨by kernel_rfl, fieldsNone (fun fs h => by cases h), ⟨Go.Proofs.Tryd.t27, (Go.Proofs.Tryd.t27.zero).getD .nilIface, by kernel_rfl, by kernel_rfl, by kernel_rfl, by kernel_rfl, by kernel_rfl⟩⟩
def ti_29 : TI := ⟨.struct #[{ name := "Name", type := 9, offset := 0, embedded := false, tag := "", pkgPath := "", byteOffset := 0 }, { name := "First", type := 2, offset := 1, embedded := false, tag := "", pkgPath := "", byteOffset := 16 }, { name := "L", type := 27, offset := 2, embedded := false, tag := "", pkgPath := "", byteOffset := 24 }], 3, 48, [.lit (.string ByteArray.empty), int .i64 0, .lit (.slice none 0 0)], [.str, .int .i64, .sl [.int .i64, .int .i64, .str]]⟩
theorem tk_29 : TyOk1 Go.Proofs.Tryd.prog 29 ti_29 := ⟨by kernel_rfl, fieldsSome rfl (by kernel_rfl), ⟨Go.Proofs.Tryd.t29, (Go.Proofs.Tryd.t29.zero).getD .nilIface, by kernel_rfl, by kernel_rfl, by kernel_rfl, by kernel_rfl, by kernel_rfl⟩⟩
def ti_32 : TI := ⟨.interface #[("Error", 178)], 1, 16, [.lit .nilIface], [.err 95]⟩
theorem tk_32 : TyOk1 Go.Proofs.Tryd.prog 32 ti_32 := ⟨by kernel_rfl, fieldsNone (fun fs h => by cases h), ⟨Go.Proofs.Tryd.t32, (Go.Proofs.Tryd.t32.zero).getD .nilIface, by kernel_rfl, by kernel_rfl, by kernel_rfl, by kernel_rfl, by kernel_rfl⟩⟩
def ti_45 : TI := ⟨.int .u32, 1, 4, [int .u32 0], [.int .u32]⟩
theorem tk_45 : TyOk1 Go.Proofs.Tryd.prog 45 ti_45 := ⟨by kernel_rfl, fieldsNone (fun fs h => by cases h), ⟨Go.Proofs.Tryd.t45, (Go.Proofs.Tryd.t45.zero).getD .nilIface, by kernel_rfl, by kernel_rfl, by kernel_rfl, by kernel_rfl, by kernel_rfl⟩⟩
def ti_47 : TI := ⟨.struct #[{ name := "At", type := 2, offset := 0, embedded := false, tag := "", pkgPath := "", byteOffset := 0 }, { name := "Off", type := 2, offset := 1, embedded := false, tag := "", pkgPath := "", byteOffset := 8 }, { name := "Name", type := 9, offset := 2, embedded := false, tag := "", pkgPath := "", byteOffset := 16 }], 3, 32, [int .i64 0, int .i64 0, .lit (.string ByteArray.empty)], [.int .i64, .int .i64, .str]⟩
theorem tk_47 : TyOk1 Go.Proofs.Tryd.prog 47 ti_47 := ⟨by kernel_rfl, fieldsSome rfl (by kernel_rfl), ⟨Go.Proofs.Tryd.t47, (Go.Proofs.Tryd.t47.zero).getD .nilIface, by kernel_rfl, by kernel_rfl, by kernel_rfl, by kernel_rfl, by kernel_rfl⟩⟩
def ti_91 : TI := ⟨.int .u64, 1, 8, [int .u64 0], [.int .u64]⟩
theorem tk_91 : TyOk1 Go.Proofs.Tryd.prog 91 ti_91 := ⟨by kernel_rfl, fieldsNone (fun fs h => by cases h), ⟨Go.Proofs.Tryd.t91, (Go.Proofs.Tryd.t91.zero).getD .nilIface, by kernel_rfl, by kernel_rfl, by kernel_rfl, by kernel_rfl, by kernel_rfl⟩⟩
def ti_93 : TI := ⟨.struct #[{ name := "At", type := 2, offset := 0, embedded := false, tag := "", pkgPath := "", byteOffset := 0 }, { name := "Off", type := 2, offset := 1, embedded := false, tag := "", pkgPath := "", byteOffset := 8 }, { name := "Name", type := 9, offset := 2, embedded := false, tag := "", pkgPath := "", byteOffset := 16 }], 3, 32, [int .i64 0, int .i64 0, .lit (.string ByteArray.empty)], [.int .i64, .int .i64, .str]⟩
theorem tk_93 : TyOk1 Go.Proofs.Tryd.prog 93 ti_93 := ⟨by kernel_rfl, fieldsSome rfl (by kernel_rfl), ⟨Go.Proofs.Tryd.t93, (Go.Proofs.Tryd.t93.zero).getD .nilIface, by kernel_rfl, by kernel_rfl, by kernel_rfl, by kernel_rfl, by kernel_rfl⟩⟩
def ti_95 : TI := ⟨.int .i64, 1, 8, [int .i64 0], [.int .i64]⟩
theorem tk_95 : TyOk1 Go.Proofs.Tryd.prog 95 ti_95 := ⟨by kernel_rfl, fieldsNone (fun fs h => by cases h), ⟨Go.Proofs.Tryd.t95, (Go.Proofs.Tryd.t95.zero).getD .nilIface, by kernel_rfl, by kernel_rfl, by kernel_rfl, by kernel_rfl, by kernel_rfl⟩⟩
def ti_99 : TI := ⟨.pointer 95, 1, 8, [.lit (Value.pointer none)], []⟩
theorem tk_99 : TyOk1 Go.Proofs.Tryd.prog 99 ti_99 := ⟨by kernel_rfl, fieldsNone (fun fs h => by cases h), ⟨Go.Proofs.Tryd.t99, (Go.Proofs.Tryd.t99.zero).getD .nilIface, by kernel_rfl, by kernel_rfl, by kernel_rfl, by kernel_rfl, by kernel_rfl⟩⟩
def tab : List (Nat × TI) := [(2, ti_2), (3, ti_3), (4, ti_4), (9, ti_9), (22, ti_22), (24, ti_24), (27, ti_27), (29, ti_29), (32, ti_32), (45, ti_45), (47, ti_47), (91, ti_91), (93, ti_93), (95, ti_95), (99, ti_99)]
def tyT : TypeId → Option TI := lookT tab
theorem tyOk : TyOk Go.Proofs.Tryd.prog tyT := TysOk.ok (tysOk_cons tk_2 (tysOk_cons tk_3 (tysOk_cons tk_4 (tysOk_cons tk_9 (tysOk_cons tk_22 (tysOk_cons tk_24 (tysOk_cons tk_27 (tysOk_cons tk_29 (tysOk_cons tk_32 (tysOk_cons tk_45 (tysOk_cons tk_47 (tysOk_cons tk_91 (tysOk_cons tk_93 (tysOk_cons tk_95 (tysOk_cons tk_99 tysOk_nil)))))))))))))))
theorem ek_47 : EqOk Go.Proofs.Tryd.prog 47 (eqQ [.int .i64, .int .i64, .str]) := eqQ_ok (d := 9) (by kernel_rfl) (by omega) (by kernel_rfl) (by kernel_rfl)
def eqT : TypeId → Option (List C → List C → Option Bool) := lookE [(47, eqQ [.int .i64, .int .i64, .str])]
theorem eqOk : ∀ t q, eqT t = some q → EqOk Go.Proofs.Tryd.prog t q := (eqsOk_cons ek_47 eqsOk_nil)
end Go.Proofs.YtmdnnlfoljdfpaaDoor.Mir
