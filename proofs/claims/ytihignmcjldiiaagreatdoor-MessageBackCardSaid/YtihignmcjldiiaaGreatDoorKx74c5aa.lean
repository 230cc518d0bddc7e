/- Texts joined. -/
import Derived.Test.YtihignmcjldiiaaGreatDoorProg
import Derived.WalkKit
import Derived.LaidEql
import Derived.Stop.Asserts
import Derived.RowKitTokens
import Derived.Lib.Hide
import Derived.Shelf.Strings.Trim
import Derived.Shelf.Small.Utf8
import Derived.Shelf.Small.Strs
import Derived.Shelf.Strings.Search1
import Derived.Shelf.Strings.Runes
import Derived.Shelf.Strings.AsciiSet
import Derived.Shelf.Unicode.DecodeSlow
import Derived.Laws.Externs
import Derived.Shelf.Spec.BitsCarry
import Derived.Deep.Draws
import Derived.StillTailTactics
import Derived.Lib.BitFns
import Derived.Lib.Bits
import Derived.Laws.MathBits
import Derived.Laws.Bits64b
import Derived.Deep.DeepCutAuto
import Derived.Deep.CutBlock
import Derived.Deep.QuietTactic
import Derived.BigQuiet
import Derived.Test.YtihignmcjldiiaaGreatDoorKx184637
import Derived.Test.YtihignmcjldiiaaGreatDoorRows
import Derived.ProofKit
import Derived.OpenShut
import Derived.ShutString
import Derived.ChangeOld
import Derived.ChangeSame
import Derived.ChangeVars
import Derived.JoinedOf
import Derived.Handed
import Derived.SizedLaws
import Derived.LaidLaws
import Derived.LaidHandle
import Derived.Stop.Joined
import Derived.Lay
import Derived.LaidSub
namespace Go.Proofs.YtihignmcjldiiaaGreatDoor
open Go.RowKit Go.Extern.Stop Go.Stop Go.Extern
def errV : Option Int → Value
  | none => .nilIface
  | some n => .iface 93 (.int .i64 n)
def LaidW (w : World) : Prop := w.cell? ⟨0, 0, none⟩ = some (.iface 195 (.agg #[.pointer (some ⟨4, 59, none⟩)]))
theorem LaidW.lt {w : World} (h : LaidW w) : 0 < w.heap.size := by
  rcases Nat.lt_or_ge 0 w.heap.size with h0 | h0
  · exact h0
  · unfold LaidW at h
    simp [World.cell?, Array.getElem?_eq_none h0] at h
theorem LaidW.below {w w' : World} (h : LaidW w) (hb : Below w.heap.size w w') : LaidW w' := by
  unfold LaidW
  rw [hb.cell (p := ⟨0, 0, none⟩) h.lt]
  exact h
theorem as_nil (t : Value) (w : World) :
    Calls Tryz.prog 56 #[.nilIface, t] w fun e w' => e = .returned (.bool false) ∧ w' = w := by
  go_enter Tryz.func56, Tryz.ntmps56
  go_wp2
  go_ret
  exact ⟨rfl, rfl⟩
theorem Tryz.valueOfPE (t : Addr) (w : World) : (ReflectliteValue.unpack (.iface 124 (.pointer (some t)))).run Tryz.prog w
    = .ok (.agg #[.pointer (some ⟨4, 124, none⟩), .pointer (some ⟨w.heap.size, 0, none⟩), .int .u64 150]) (w.alloc (.cells #[.pointer (some t)] 124)) := by kernel_rfl
theorem Tryz.typePE (a : Addr) (w : World) : (ReflectliteValue.methodAny (ReflectliteValue.valueError "reflectlite.Value.Type" 0) (fun t _ _ _ => ReflectliteType.toType t) #[.agg #[.pointer (some ⟨4, 124, none⟩), .pointer (some a), .int .u64 150]]).run Tryz.prog w
    = .ok (.iface 195 (.agg #[.pointer (some ⟨4, 124, none⟩)])) w := by kernel_rfl
theorem Tryz.methodKind (h : Value) (n : Nat) (w : World) : (Go.method (n + 1) 195 (.agg #[h]) "Kind").run Tryz.prog w = .ok (156, h) w := by kernel_rfl
theorem Tryz.kindPE (w : World) : ((ReflectliteType.abiMethod fun t => (fun a : Nat => Value.int IntKind.u8 (a : Int)) <$> Rtype.kind t) #[.pointer (some ⟨4, 124, none⟩)]).run Tryz.prog w = .ok (.int .u8 22) w := by kernel_rfl
theorem Tryz.kindE (w : World) : ((ReflectliteType.abiMethod fun t => (fun a : Nat => Value.int IntKind.u8 (a : Int)) <$> Rtype.kind t) #[.pointer (some ⟨4, 93, none⟩)]).run Tryz.prog w = .ok (.int .u8 2) w := by kernel_rfl
theorem rlm (z : Sem Value) (f : TypeId → Addr → Nat → Nat → Sem Value) (v : Value) :
    ReflectliteValue.method z f #[v] = (do match ← ReflectliteValue.parts v with | none => z | some (t, a, fl) => f t a fl (fl % 32)) := rfl
theorem Tryz.partsPE (a : Addr) (w : World) : (ReflectliteValue.parts (.agg #[.pointer (some ⟨4, 124, none⟩), .pointer (some a), .int .u64 150])).run Tryz.prog w = .ok (some (124, a, 150)) w := by kernel_rfl
theorem Tryz.isNilPE (a p : Addr) (W : World) (ha : W.cell? a = some (.pointer (some p))) :
    (ReflectliteValue.method (ReflectliteValue.valueError "reflectlite.Value.IsNil" 0) ReflectliteValue.isNil #[.agg #[.pointer (some ⟨4, 124, none⟩), .pointer (some a), .int .u64 150]]).run Tryz.prog W = .ok (.bool false) W := by
  rw [rlm]
  simp only [Sem.run_bind, Tryz.partsPE, Result.andThen]
  simp [ReflectliteValue.isNil, loadVar, isAgg, underlying, Tryz.underlying124, ha, Result.andThen]
theorem Tryz.methodElem (h : Value) (n : Nat) (w : World) : (Go.method (n + 1) 195 (.agg #[h]) "Elem").run Tryz.prog w = .ok (168, .agg #[h]) w := by kernel_rfl
theorem Tryz.methodImplements (h : Value) (n : Nat) (w : World) : (Go.method (n + 1) 195 (.agg #[h]) "Implements").run Tryz.prog w = .ok (169, .agg #[h]) w := by kernel_rfl
theorem Tryz.methodAssignableTo (h : Value) (n : Nat) (w : World) : (Go.method (n + 1) 195 (.agg #[h]) "AssignableTo").run Tryz.prog w = .ok (166, .agg #[h]) w := by kernel_rfl
theorem Tryz.elemPE (w : World) : (ReflectliteType.method ReflectliteType.elem #[.agg #[.pointer (some ⟨4, 124, none⟩)]]).run Tryz.prog w = .ok (.iface 195 (.agg #[.pointer (some ⟨4, 93, none⟩)])) w := by kernel_rfl
theorem Tryz.implementsE (w : World) : (ReflectliteType.relation "Implements" ReflectliteType.implements_ #[.agg #[.pointer (some ⟨4, 93, none⟩)], .iface 195 (.agg #[.pointer (some ⟨4, 59, none⟩)])]).run Tryz.prog w = .ok (.bool true) w := by kernel_rfl
theorem Tryz.typeOfE (v : Value) (w : World) : (ReflectliteType.typeOf #[.iface 93 v]).run Tryz.prog w = .ok (.iface 195 (.agg #[.pointer (some ⟨4, 93, none⟩)])) w := by kernel_rfl
theorem Tryz.assignableE (w : World) : (ReflectliteType.relation "AssignableTo" ReflectliteType.assignableTo #[.agg #[.pointer (some ⟨4, 93, none⟩)], .iface 195 (.agg #[.pointer (some ⟨4, 93, none⟩)])]).run Tryz.prog w = .ok (.bool true) w := by kernel_rfl
theorem Tryz.valueOfE (n : Int) (w : World) : (ReflectliteValue.unpack (.iface 93 (.int .i64 n))).run Tryz.prog w
    = .ok (.agg #[.pointer (some ⟨4, 93, none⟩), .pointer (some ⟨w.heap.size, 0, none⟩), .int .u64 130]) (w.alloc (.cells #[.int .i64 n] 93)) := by kernel_rfl
theorem Tryz.elemOfPE (w : World) : (Rtype.elem? 124).run Tryz.prog w = .ok (some 93) w := by kernel_rfl
theorem Tryz.mkE (p : Addr) (w : World) : (ReflectliteValue.mk 93 p ReflectliteValue.flagAddr).run Tryz.prog w = .ok (.agg #[.pointer (some ⟨4, 93, none⟩), .pointer (some p), .int .u64 386]) w := by kernel_rfl
theorem Tryz.elemVPE (a p : Addr) (W : World) (ha : W.cell? a = some (.pointer (some p))) :
    (ReflectliteValue.method (ReflectliteValue.valueError "reflectlite.Value.Elem" 0) ReflectliteValue.elem #[.agg #[.pointer (some ⟨4, 124, none⟩), .pointer (some a), .int .u64 150]]).run Tryz.prog W
      = .ok (.agg #[.pointer (some ⟨4, 93, none⟩), .pointer (some p), .int .u64 386]) W := by
  rw [rlm]
  simp only [Sem.run_bind, Tryz.partsPE, Result.andThen]
  simp [ReflectliteValue.elem, loadVar, isAgg, underlying, Tryz.underlying124, ha, Result.andThen, Tryz.elemOfPE, Tryz.mkE]
theorem rls (v x : Value) : ReflectliteValue.set #[v, x] = (do
    let (some (dst, a, fl), some (src, b, _)) := (← ReflectliteValue.parts v, ← ReflectliteValue.parts x)
      | unsupported (.noEntry "extern/(internal/reflectlite.Value).Set.zeroValue")
    if fl / ReflectliteValue.flagAddr % 2 == 0 then unsupported (.noEntry "extern/(internal/reflectlite.Value).Set.unaddressable")
    let val ← loadVar src b
    if ← Rtype.directlyAssignable dst src then storeVar dst a val
    else if ← Rtype.implements dst src then
      if (← Rtype.kind src) == 20 then
        match val with
        | .nilIface => unsupported (.noEntry "extern/reflectlite: a nil value of one interface type handed on as a value of another")
        | _ => storeVar dst a val
      else storeVar dst a (.iface src val)
    else panicString ("reflectlite.Set: value of type " ++ (← Rtype.spelt src) ++ " is not assignable to type " ++ (← Rtype.spelt dst))
    pure (.tuple #[])) := rfl
theorem Tryz.partsEa (a : Addr) (w : World) : (ReflectliteValue.parts (.agg #[.pointer (some ⟨4, 93, none⟩), .pointer (some a), .int .u64 386])).run Tryz.prog w = .ok (some (93, a, 386)) w := by kernel_rfl
theorem Tryz.partsE (a : Addr) (w : World) : (ReflectliteValue.parts (.agg #[.pointer (some ⟨4, 93, none⟩), .pointer (some a), .int .u64 130])).run Tryz.prog w = .ok (some (93, a, 130)) w := by kernel_rfl
theorem Tryz.directE (w : World) : (Rtype.directlyAssignable 93 93).run Tryz.prog w = .ok true w := by kernel_rfl
theorem Tryz.setE (ta b : Addr) (n : Int) (old : Value) (W : World) (hb : W.cell? b = some (.int .i64 n)) (ht : W.cell? ta = some old) (hf : W.frozen? ta = false) :
    (ReflectliteValue.set #[.agg #[.pointer (some ⟨4, 93, none⟩), .pointer (some ta), .int .u64 386], .agg #[.pointer (some ⟨4, 93, none⟩), .pointer (some b), .int .u64 130]]).run Tryz.prog W
      = .ok (.tuple #[]) (W.setCell ta (.int .i64 n)) := by
  rw [rls]
  simp only [Sem.run_bind, Tryz.partsEa, Tryz.partsE, Result.andThen]
  simp [ReflectliteValue.flagAddr, loadVar, isAgg, underlying, Tryz.underlying93, hb, Result.andThen, Tryz.directE, storeVar, Value.cells, storeCells, Addr.add]
  rw [run_store Tryz.prog W ta _ _ (by rfl)]
  simp [ht, hf]
set_option maxHeartbeats 4000000 in
theorem as_hit (n : Int) (t : Addr) (old : Value) (w : World) (hg : LaidW w) (ht0 : w.cell? t = some old) (hf0 : w.frozen? t = false) :
    Calls Tryz.prog 56 #[.iface 93 (.int .i64 n), .iface 124 (.pointer (some t))] w fun ev w' => ev = .returned (.bool true) ∧ w' = ((((w.alloc (.cells #[.pointer (some t)] 124)).alloc (.cells #[.pointer (some ⟨4, 124, none⟩), .pointer (some ⟨w.heap.size, 0, none⟩), .int .u64 150] 161)).alloc (.cells #[.pointer (some ⟨4, 124, none⟩), .pointer (some ⟨w.heap.size, 0, none⟩), .int .u64 150] 161)).alloc (.cells #[.int .i64 n] 93)).setCell t (.int .i64 n) := by
  have h6 := @run_callFunc_extern Tryz.prog 86 _ (fun args => ReflectliteValue.unpack (args.getD 0 (.tuple #[]))) Tryz.func86 (by kernel_rfl) (by kernel_rfl) (by kernel_rfl) (by kernel_rfl)
  have h7 := @run_callFunc_extern Tryz.prog 87 _ (ReflectliteValue.methodAny (ReflectliteValue.valueError "reflectlite.Value.Type" 0) (fun t _ _ _ => ReflectliteType.toType t)) Tryz.func87 (by kernel_rfl) (by kernel_rfl) (by kernel_rfl) (by kernel_rfl)
  have h8 := @run_callFunc_extern Tryz.prog 88 _ (ReflectliteValue.method (ReflectliteValue.valueError "reflectlite.Value.IsNil" 0) ReflectliteValue.isNil) Tryz.func88 (by kernel_rfl) (by kernel_rfl) (by kernel_rfl) (by kernel_rfl)
  have h27 := @run_callFunc_extern Tryz.prog 156 _ (ReflectliteType.abiMethod fun t => do pure (.int .u8 (← Rtype.kind t))) Tryz.func156 (by kernel_rfl) (by kernel_rfl) (by kernel_rfl) (by kernel_rfl)
  have h37 := @run_callFunc_extern Tryz.prog 168 _ (ReflectliteType.method ReflectliteType.elem) Tryz.func168 (by kernel_rfl) (by kernel_rfl) (by kernel_rfl) (by kernel_rfl)
  have h38 := @run_callFunc_extern Tryz.prog 169 _ (ReflectliteType.relation "Implements" ReflectliteType.implements_) Tryz.func169 (by kernel_rfl) (by kernel_rfl) (by kernel_rfl) (by kernel_rfl)
  have h10 := @run_callFunc_extern Tryz.prog 110 _ ReflectliteType.typeOf Tryz.func110 (by kernel_rfl) (by kernel_rfl) (by kernel_rfl) (by kernel_rfl)
  have h35 := @run_callFunc_extern Tryz.prog 166 _ (ReflectliteType.relation "AssignableTo" ReflectliteType.assignableTo) Tryz.func166 (by kernel_rfl) (by kernel_rfl) (by kernel_rfl) (by kernel_rfl)
  have h11 := @run_callFunc_extern Tryz.prog 111 _ (ReflectliteValue.method (ReflectliteValue.valueError "reflectlite.Value.Elem" 0) ReflectliteValue.elem) Tryz.func111 (by kernel_rfl) (by kernel_rfl) (by kernel_rfl) (by kernel_rfl)
  have h12 := @run_callFunc_extern Tryz.prog 112 _ ReflectliteValue.set Tryz.func112 (by kernel_rfl) (by kernel_rfl) (by kernel_rfl) (by kernel_rfl)
  have tO := Tryz.typeOfE
  have mA := Tryz.methodAssignableTo
  have a25 := Tryz.assignableE
  have v25 := Tryz.valueOfE
  have f6 := Tryz.valueOfPE
  have f7 := Tryz.typePE
  have mK := Tryz.methodKind
  have mE := Tryz.methodElem
  have mI := Tryz.methodImplements
  have k27 := Tryz.kindPE
  have k25 := Tryz.kindE
  have e27 := Tryz.elemPE
  have i25 := Tryz.implementsE
  have n8 := Tryz.isNilPE ⟨w.heap.size, 0, none⟩ t ((w.alloc (.cells #[.pointer (some t)] 124)).alloc (.cells #[.pointer (some ⟨4, 124, none⟩), .pointer (some ⟨w.heap.size, 0, none⟩), .int .u64 150] 161)) (by simp)
  have hlt := hg.lt
  have hg2 : ((w.alloc (.cells #[.pointer (some t)] 124)).alloc (.cells #[.pointer (some ⟨4, 124, none⟩), .pointer (some ⟨w.heap.size, 0, none⟩), .int .u64 150] 161)).cell? ⟨0, 0, none⟩ = some (.iface 195 (.agg #[.pointer (some ⟨4, 59, none⟩)])) := by
    rw [World.cell?_alloc_lt _ _ ⟨0, 0, none⟩ (by first | (simp; done) | (simp; omega)), World.cell?_alloc_lt _ _ ⟨0, 0, none⟩ hlt]; exact hg
  have htl : t.block < w.heap.size := by
    rcases Nat.lt_or_ge t.block w.heap.size with h | h
    · exact h
    · simp [World.cell?, Array.getElem?_eq_none h] at ht0
  have el := Tryz.elemVPE ⟨w.heap.size, 0, none⟩ t (((w.alloc (.cells #[.pointer (some t)] 124)).alloc (.cells #[.pointer (some ⟨4, 124, none⟩), .pointer (some ⟨w.heap.size, 0, none⟩), .int .u64 150] 161)).alloc (.cells #[.pointer (some ⟨4, 124, none⟩), .pointer (some ⟨w.heap.size, 0, none⟩), .int .u64 150] 161)) (by rw [World.cell?_alloc_lt _ _ ⟨w.heap.size, 0, none⟩ (by simp; omega)]; simp)
  have st := Tryz.setE t ⟨w.heap.size + 1 + 1 + 1, 0, none⟩ n old ((((w.alloc (.cells #[.pointer (some t)] 124)).alloc (.cells #[.pointer (some ⟨4, 124, none⟩), .pointer (some ⟨w.heap.size, 0, none⟩), .int .u64 150] 161)).alloc (.cells #[.pointer (some ⟨4, 124, none⟩), .pointer (some ⟨w.heap.size, 0, none⟩), .int .u64 150] 161)).alloc (.cells #[.int .i64 n] 93))
    (by rw [World.cell?_alloc_at _ _ _ _ (by simp)]; rfl)
    (by rw [World.cell?_alloc_lt _ _ t (by simp; omega), World.cell?_alloc_lt _ _ t (by simp; omega), World.cell?_alloc_lt _ _ t (by simp; omega), World.cell?_alloc_lt _ _ t htl]; exact ht0)
    (by rw [World.frozen?_alloc_old _ _ t (by simp; omega), World.frozen?_alloc_old _ _ t (by simp; omega), World.frozen?_alloc_old _ _ t (by simp; omega), World.frozen?_alloc_old _ _ t (Nat.ne_of_lt htl)]; exact hf0)
  clear hg
  go_enter Tryz.func56, Tryz.ntmps56
  go_wp2
  refine wp_loop_rounds 1 ?_
  rw [rounds_succ]
  go_wp2
  go_ret
  exact ⟨rfl, rfl⟩
end Go.Proofs.YtihignmcjldiiaaGreatDoor
namespace Go.Proofs
open Go.Shelf
def Tryz.lays231_ren : Go.Shelf.Ren := ⟨fun | 231 => 113 | n => n, fun | 9 => 9 | 5 => 5 | 3 => 3 | 4 => 4 | n => n, fun | n => n⟩
theorem Tryz.lays231 : Go.Proofs.Lays.n231 Tryz.prog Tryz.lays231_ren := {
  mixed := by kernel_rfl
  f231 := Tryz.func113.trans (congrArg some (by kernel_rfl))
  t3 := Tryz.underlying3
  a3 := Tryz.isAgg3
  z3 := Tryz.sizeOf3
  v3 := Tryz.zeroValue3
  t4 := Tryz.underlying4
  a4 := Tryz.isAgg4
  z4 := Tryz.sizeOf4
  v4 := Tryz.zeroValue4
  t5 := Tryz.underlying5
  a5 := Tryz.isAgg5
  z5 := Tryz.sizeOf5
  v5 := Tryz.zeroValue5
  t9 := Tryz.underlying9
  a9 := Tryz.isAgg9
  z9 := Tryz.sizeOf9
  v9 := Tryz.zeroValue9 }
open Go.RowKit in
theorem Tryz.strings_trimLeftByte (s : ByteArray) (c : UInt8) (w : World) :
    Calls Tryz.prog 113 #[.string s, .int .u8 c.toNat] w fun e w' => e = .returned (.string ⟨(Lib.trimLeftB s.data.toList c).toArray⟩) ∧ w' = w := Any.strings_trimLeftByte Tryz.lays231 s c w
def Tryz.lays161_ren : Go.Shelf.Ren := ⟨fun | 161 => 91 | 231 => 113 | 227 => 114 | 233 => 115 | 235 => 116 | 228 => 126 | 197 => 127 | 151 => 128 | 260 => 131 | 152 => 132 | 137 => 134 | 119 => 135 | 224 => 136 | 225 => 137 | 217 => 140 | 266 => 141 | n => n, fun | 9 => 9 | 4 => 4 | 3 => 3 | 5 => 5 | 117 => 210 | 116 => 209 | 0 => 0 | 124 => 213 | 105 => 217 | 21 => 21 | 119 => 224 | 46 => 83 | 139 => 227 | 138 => 226 | n => n, fun | 3 => 1 | 4 => 2 | n => n⟩
theorem Tryz.lays161 : Go.Proofs.Lays.n161 Tryz.prog Tryz.lays161_ren := {
  mixed := by kernel_rfl
  f119 := Tryz.func135.trans (congrArg some (by kernel_rfl))
  f137 := Tryz.func134.trans (congrArg some (by kernel_rfl))
  f151 := Tryz.func128.trans (congrArg some (by kernel_rfl))
  f152 := Tryz.func132.trans (congrArg some (by kernel_rfl))
  f161 := Tryz.func91.trans (congrArg some (by kernel_rfl))
  f197 := Tryz.func127.trans (congrArg some (by kernel_rfl))
  f217 := Tryz.func140.trans (congrArg some (by kernel_rfl))
  f224 := Tryz.func136.trans (congrArg some (by kernel_rfl))
  f225 := Tryz.func137.trans (congrArg some (by kernel_rfl))
  f227 := Tryz.func114.trans (congrArg some (by kernel_rfl))
  f228 := Tryz.func126.trans (congrArg some (by kernel_rfl))
  f231 := Tryz.func113.trans (congrArg some (by kernel_rfl))
  f233 := Tryz.func115.trans (congrArg some (by kernel_rfl))
  f235 := Tryz.func116.trans (congrArg some (by kernel_rfl))
  f260 := Tryz.func131.trans (congrArg some (by kernel_rfl))
  f266 := Tryz.func141.trans (congrArg some (by kernel_rfl))
  t0 := Tryz.underlying0
  a0 := Tryz.isAgg0
  z0 := Tryz.sizeOf0
  v0 := Tryz.zeroValue0
  t3 := Tryz.underlying3
  a3 := Tryz.isAgg3
  z3 := Tryz.sizeOf3
  v3 := Tryz.zeroValue3
  t4 := Tryz.underlying4
  a4 := Tryz.isAgg4
  z4 := Tryz.sizeOf4
  v4 := Tryz.zeroValue4
  t5 := Tryz.underlying5
  a5 := Tryz.isAgg5
  z5 := Tryz.sizeOf5
  v5 := Tryz.zeroValue5
  t9 := Tryz.underlying9
  a9 := Tryz.isAgg9
  z9 := Tryz.sizeOf9
  v9 := Tryz.zeroValue9
  t21 := Tryz.underlying21
  a21 := Tryz.isAgg21
  z21 := Tryz.sizeOf21
  v21 := Tryz.zeroValue21
  t46 := Tryz.underlying83
  a46 := Tryz.isAgg83
  z46 := Tryz.sizeOf83
  v46 := Tryz.zeroValue83
  t105 := Tryz.underlying217
  a105 := Tryz.isAgg217
  z105 := Tryz.sizeOf217
  v105 := Tryz.zeroValue217
  t116 := Tryz.underlying209
  a116 := Tryz.isAgg209
  z116 := Tryz.sizeOf209
  t117 := Tryz.underlying210
  a117 := Tryz.isAgg210
  z117 := Tryz.sizeOf210
  v117 := Tryz.zeroValue210
  t119 := Tryz.underlying224
  a119 := Tryz.isAgg224
  z119 := Tryz.sizeOf224
  t124 := Tryz.underlying213
  a124 := Tryz.isAgg213
  z124 := Tryz.sizeOf213
  v124 := Tryz.zeroValue213
  t138 := Tryz.underlying226
  a138 := Tryz.isAgg226
  z138 := Tryz.sizeOf226
  v138 := Tryz.zeroValue226
  t139 := Tryz.underlying227
  a139 := Tryz.isAgg227
  z139 := Tryz.sizeOf227
  v139 := Tryz.zeroValue227
  g3 := by kernel_rfl
  g4 := by kernel_rfl }
open Go.RowKit in
theorem Tryz.strings_TrimLeft_one (s : ByteArray) (c : UInt8) (hc : c.toNat < 128) (w : World) :
    Calls Tryz.prog 91 #[.string s, .string ⟨#[c]⟩] w fun e w' => e = .returned (.string ⟨(Lib.trimLeftB s.data.toList c).toArray⟩) ∧ w' = w := Any.strings_TrimLeft_one Tryz.lays161 s c hc w
def Tryz.lays119_ren : Go.Shelf.Ren := ⟨fun | 119 => 135 | n => n, fun | 21 => 21 | 4 => 4 | n => n, fun | n => n⟩
theorem Tryz.lays119 : Go.Proofs.Lays.n119 Tryz.prog Tryz.lays119_ren := {
  mixed := by kernel_rfl
  f119 := Tryz.func135.trans (congrArg some (by kernel_rfl))
  t4 := Tryz.underlying4
  a4 := Tryz.isAgg4
  z4 := Tryz.sizeOf4
  v4 := Tryz.zeroValue4
  t21 := Tryz.underlying21
  a21 := Tryz.isAgg21
  z21 := Tryz.sizeOf21
  v21 := Tryz.zeroValue21 }
theorem Tryz.utf8_ValidRune (r : Int) (w : World) :
    Calls Tryz.prog 135 #[.int .i32 r] w fun e w' => e = .returned (.bool (Lib.validRune r)) ∧ w' = w := Any.utf8_ValidRune Tryz.lays119 r w
def Tryz.lays137_ren : Go.Shelf.Ren := ⟨fun | 137 => 134 | 217 => 140 | 266 => 141 | n => n, fun | 9 => 9 | 5 => 5 | 3 => 3 | n => n, fun | n => n⟩
theorem Tryz.lays137 : Go.Proofs.Lays.n137 Tryz.prog Tryz.lays137_ren := {
  mixed := by kernel_rfl
  f137 := Tryz.func134.trans (congrArg some (by kernel_rfl))
  f217 := Tryz.func140.trans (congrArg some (by kernel_rfl))
  f266 := Tryz.func141.trans (congrArg some (by kernel_rfl))
  t3 := Tryz.underlying3
  a3 := Tryz.isAgg3
  z3 := Tryz.sizeOf3
  v3 := Tryz.zeroValue3
  t5 := Tryz.underlying5
  a5 := Tryz.isAgg5
  z5 := Tryz.sizeOf5
  v5 := Tryz.zeroValue5
  t9 := Tryz.underlying9
  a9 := Tryz.isAgg9
  z9 := Tryz.sizeOf9
  v9 := Tryz.zeroValue9 }
open Go.RowKit in
theorem Tryz.strings_IndexByte (s : ByteArray) (c : Int) (w : World) :
    Calls Tryz.prog 134 #[.string s, .int .u8 c] w fun e w' => e = .returned (.int .i64 (Lib.indexByte s.data.toList c.toNat.toUInt8)) ∧ w' = w := Any.strings_IndexByte Tryz.lays137 s c w
def Tryz.lays217_ren : Go.Shelf.Ren := ⟨fun | 217 => 140 | 266 => 141 | n => n, fun | 9 => 9 | 5 => 5 | 3 => 3 | n => n, fun | n => n⟩
theorem Tryz.lays217 : Go.Proofs.Lays.n217 Tryz.prog Tryz.lays217_ren := {
  mixed := by kernel_rfl
  f217 := Tryz.func140.trans (congrArg some (by kernel_rfl))
  f266 := Tryz.func141.trans (congrArg some (by kernel_rfl))
  t3 := Tryz.underlying3
  a3 := Tryz.isAgg3
  z3 := Tryz.sizeOf3
  v3 := Tryz.zeroValue3
  t5 := Tryz.underlying5
  a5 := Tryz.isAgg5
  z5 := Tryz.sizeOf5
  v5 := Tryz.zeroValue5
  t9 := Tryz.underlying9
  a9 := Tryz.isAgg9
  z9 := Tryz.sizeOf9
  v9 := Tryz.zeroValue9 }
open Go.RowKit Go.Lib in
theorem Tryz.stringslite_IndexByte (s : ByteArray) (c : Int) (w : World) :
    Calls Tryz.prog 140 #[.string s, .int .u8 c] w fun e w' => e = .returned (.int .i64 (Lib.indexByte s.data.toList c.toNat.toUInt8)) ∧ w' = w := Any.stringslite_IndexByte Tryz.lays217 s c w
def Tryz.lays224_ren : Go.Shelf.Ren := ⟨fun | 224 => 136 | n => n, fun | 3 => 3 | n => n, fun | n => n⟩
theorem Tryz.lays224 : Go.Proofs.Lays.n224 Tryz.prog Tryz.lays224_ren := {
  mixed := by kernel_rfl
  f224 := Tryz.func136.trans (congrArg some (by kernel_rfl))
  t3 := Tryz.underlying3
  a3 := Tryz.isAgg3
  z3 := Tryz.sizeOf3
  v3 := Tryz.zeroValue3 }
open Go.RowKit Go.Lib in
theorem Tryz.bytealg_Cutover (n : Int) (h0 : 0 ≤ n) (h1 : n < 4611686018427387904) (w : World) :
    Calls Tryz.prog 136 #[.int .i64 n] w fun e w' => e = .returned (.int .i64 ((n + 16) / 8)) ∧ w' = w := Any.bytealg_Cutover Tryz.lays224 n h0 h1 w
def Tryz.lays152_ren : Go.Shelf.Ren := ⟨fun | 152 => 132 | 137 => 134 | 119 => 135 | 224 => 136 | 225 => 137 | 217 => 140 | 266 => 141 | n => n, fun | 9 => 9 | 21 => 21 | 3 => 3 | 4 => 4 | 5 => 5 | 0 => 0 | 46 => 83 | n => n, fun | n => n⟩
theorem Tryz.lays152 : Go.Proofs.Lays.n152 Tryz.prog Tryz.lays152_ren := {
  mixed := by kernel_rfl
  f119 := Tryz.func135.trans (congrArg some (by kernel_rfl))
  f137 := Tryz.func134.trans (congrArg some (by kernel_rfl))
  f152 := Tryz.func132.trans (congrArg some (by kernel_rfl))
  f217 := Tryz.func140.trans (congrArg some (by kernel_rfl))
  f224 := Tryz.func136.trans (congrArg some (by kernel_rfl))
  f225 := Tryz.func137.trans (congrArg some (by kernel_rfl))
  f266 := Tryz.func141.trans (congrArg some (by kernel_rfl))
  t0 := Tryz.underlying0
  a0 := Tryz.isAgg0
  z0 := Tryz.sizeOf0
  v0 := Tryz.zeroValue0
  t3 := Tryz.underlying3
  a3 := Tryz.isAgg3
  z3 := Tryz.sizeOf3
  v3 := Tryz.zeroValue3
  t4 := Tryz.underlying4
  a4 := Tryz.isAgg4
  z4 := Tryz.sizeOf4
  v4 := Tryz.zeroValue4
  t5 := Tryz.underlying5
  a5 := Tryz.isAgg5
  z5 := Tryz.sizeOf5
  v5 := Tryz.zeroValue5
  t9 := Tryz.underlying9
  a9 := Tryz.isAgg9
  z9 := Tryz.sizeOf9
  v9 := Tryz.zeroValue9
  t21 := Tryz.underlying21
  a21 := Tryz.isAgg21
  z21 := Tryz.sizeOf21
  v21 := Tryz.zeroValue21
  t46 := Tryz.underlying83
  a46 := Tryz.isAgg83
  z46 := Tryz.sizeOf83
  v46 := Tryz.zeroValue83 }
open Go.RowKit Go.Lib in
theorem Tryz.strings_IndexRune_ascii (s : ByteArray) (r : Int) (w : World) (h0 : 0 ≤ r) (h1 : r < 128) :
    Calls Tryz.prog 132 #[.string s, .int .i32 r] w fun e w' => e = .returned (.int .i64 (Lib.indexByte s.data.toList r.toNat.toUInt8)) ∧ w' = w := Any.strings_IndexRune_ascii Tryz.lays152 s r w h0 h1
def Tryz.lays151_ren : Go.Shelf.Ren := ⟨fun | 151 => 128 | 152 => 132 | 137 => 134 | 119 => 135 | 224 => 136 | 225 => 137 | 217 => 140 | 266 => 141 | n => n, fun | 9 => 9 | 21 => 21 | 4 => 4 | 3 => 3 | 5 => 5 | 0 => 0 | 46 => 83 | n => n, fun | n => n⟩
theorem Tryz.lays151 : Go.Proofs.Lays.n151 Tryz.prog Tryz.lays151_ren := {
  mixed := by kernel_rfl
  f119 := Tryz.func135.trans (congrArg some (by kernel_rfl))
  f137 := Tryz.func134.trans (congrArg some (by kernel_rfl))
  f151 := Tryz.func128.trans (congrArg some (by kernel_rfl))
  f152 := Tryz.func132.trans (congrArg some (by kernel_rfl))
  f217 := Tryz.func140.trans (congrArg some (by kernel_rfl))
  f224 := Tryz.func136.trans (congrArg some (by kernel_rfl))
  f225 := Tryz.func137.trans (congrArg some (by kernel_rfl))
  f266 := Tryz.func141.trans (congrArg some (by kernel_rfl))
  t0 := Tryz.underlying0
  a0 := Tryz.isAgg0
  z0 := Tryz.sizeOf0
  v0 := Tryz.zeroValue0
  t3 := Tryz.underlying3
  a3 := Tryz.isAgg3
  z3 := Tryz.sizeOf3
  v3 := Tryz.zeroValue3
  t4 := Tryz.underlying4
  a4 := Tryz.isAgg4
  z4 := Tryz.sizeOf4
  v4 := Tryz.zeroValue4
  t5 := Tryz.underlying5
  a5 := Tryz.isAgg5
  z5 := Tryz.sizeOf5
  v5 := Tryz.zeroValue5
  t9 := Tryz.underlying9
  a9 := Tryz.isAgg9
  z9 := Tryz.sizeOf9
  v9 := Tryz.zeroValue9
  t21 := Tryz.underlying21
  a21 := Tryz.isAgg21
  z21 := Tryz.sizeOf21
  v21 := Tryz.zeroValue21
  t46 := Tryz.underlying83
  a46 := Tryz.isAgg83
  z46 := Tryz.sizeOf83
  v46 := Tryz.zeroValue83 }
open Go.RowKit Go.Lib in
theorem Tryz.strings_ContainsRune_ascii (s : ByteArray) (r : Int) (w : World) (h0 : 0 ≤ r) (h1 : r < 128) :
    Calls Tryz.prog 128 #[.string s, .int .i32 r] w fun e w' => e = .returned (.bool (decide (0 ≤ Lib.indexByte s.data.toList r.toNat.toUInt8))) ∧ w' = w := Any.strings_ContainsRune_ascii Tryz.lays151 s r w h0 h1
def Tryz.lays227_ren : Go.Shelf.Ren := ⟨fun | 227 => 114 | n => n, fun | 9 => 9 | 116 => 209 | 4 => 4 | 0 => 0 | 3 => 3 | 5 => 5 | n => n, fun | n => n⟩
theorem Tryz.lays227 : Go.Proofs.Lays.n227 Tryz.prog Tryz.lays227_ren := {
  mixed := by kernel_rfl
  f227 := Tryz.func114.trans (congrArg some (by kernel_rfl))
  t0 := Tryz.underlying0
  a0 := Tryz.isAgg0
  z0 := Tryz.sizeOf0
  v0 := Tryz.zeroValue0
  t3 := Tryz.underlying3
  a3 := Tryz.isAgg3
  z3 := Tryz.sizeOf3
  v3 := Tryz.zeroValue3
  t4 := Tryz.underlying4
  a4 := Tryz.isAgg4
  z4 := Tryz.sizeOf4
  v4 := Tryz.zeroValue4
  t5 := Tryz.underlying5
  a5 := Tryz.isAgg5
  z5 := Tryz.sizeOf5
  v5 := Tryz.zeroValue5
  t9 := Tryz.underlying9
  a9 := Tryz.isAgg9
  z9 := Tryz.sizeOf9
  v9 := Tryz.zeroValue9
  t116 := Tryz.underlying209
  a116 := Tryz.isAgg209
  z116 := Tryz.sizeOf209 }
open Go.RowKit Go.Lib in
theorem Tryz.strings_makeASCIISet (hv116 : ∀ w, (zeroValue 209).run Tryz.prog w = .ok (.agg (Array.replicate 256 (.bool false))) w) (chars : ByteArray) (w : World) (hs : chars.size < 4294967281) (hascii : ∀ (j : Nat) b, chars.data.toList[j]? = some b → b.toNat < 128) :
    Calls Tryz.prog 114 #[.string chars] w fun e w' => e = .returned (.tuple #[.agg (Lib.setCells chars.data.toList), .bool true]) ∧ w' = w.alloc (.cells (Lib.setCells chars.data.toList) 209) := Any.strings_makeASCIISet Tryz.lays227 hv116 (by kernel_rfl) chars w hs hascii
def Tryz.lays228_ren : Go.Shelf.Ren := ⟨fun | 228 => 126 | n => n, fun | 124 => 213 | 5 => 5 | 4 => 4 | 0 => 0 | 116 => 209 | n => n, fun | n => n⟩
theorem Tryz.lays228 : Go.Proofs.Lays.n228 Tryz.prog Tryz.lays228_ren := {
  mixed := by kernel_rfl
  f228 := Tryz.func126.trans (congrArg some (by kernel_rfl))
  t0 := Tryz.underlying0
  a0 := Tryz.isAgg0
  z0 := Tryz.sizeOf0
  v0 := Tryz.zeroValue0
  t4 := Tryz.underlying4
  a4 := Tryz.isAgg4
  z4 := Tryz.sizeOf4
  v4 := Tryz.zeroValue4
  t5 := Tryz.underlying5
  a5 := Tryz.isAgg5
  z5 := Tryz.sizeOf5
  v5 := Tryz.zeroValue5
  t116 := Tryz.underlying209
  a116 := Tryz.isAgg209
  z116 := Tryz.sizeOf209
  t124 := Tryz.underlying213
  a124 := Tryz.isAgg213
  z124 := Tryz.sizeOf213
  v124 := Tryz.zeroValue213 }
open Go.RowKit Go.Lib in
theorem Tryz.asciiSet_contains (b : Nat) (x : UInt8) (v : Bool) (w : World) (hc : w.cell? ⟨b, x.toNat, none⟩ = some (.bool v)) :
    Calls Tryz.prog 126 #[.pointer (some ⟨b, 0, none⟩), .int .u8 x.toNat] w fun e w' => e = .returned (.bool v) ∧ w' = w := Any.asciiSet_contains Tryz.lays228 b x v w hc
def Tryz.lays260_ren : Go.Shelf.Ren := ⟨fun | 260 => 131 | n => n, fun | 9 => 9 | 21 => 21 | 3 => 3 | 4 => 4 | 5 => 5 | 119 => 224 | 0 => 0 | 46 => 83 | 139 => 227 | 138 => 226 | n => n, fun | 3 => 1 | 4 => 2 | n => n⟩
theorem Tryz.lays260 : Go.Proofs.Lays.n260 Tryz.prog Tryz.lays260_ren := {
  mixed := by kernel_rfl
  f260 := Tryz.func131.trans (congrArg some (by kernel_rfl))
  t0 := Tryz.underlying0
  a0 := Tryz.isAgg0
  z0 := Tryz.sizeOf0
  v0 := Tryz.zeroValue0
  t3 := Tryz.underlying3
  a3 := Tryz.isAgg3
  z3 := Tryz.sizeOf3
  v3 := Tryz.zeroValue3
  t4 := Tryz.underlying4
  a4 := Tryz.isAgg4
  z4 := Tryz.sizeOf4
  v4 := Tryz.zeroValue4
  t5 := Tryz.underlying5
  a5 := Tryz.isAgg5
  z5 := Tryz.sizeOf5
  v5 := Tryz.zeroValue5
  t9 := Tryz.underlying9
  a9 := Tryz.isAgg9
  z9 := Tryz.sizeOf9
  v9 := Tryz.zeroValue9
  t21 := Tryz.underlying21
  a21 := Tryz.isAgg21
  z21 := Tryz.sizeOf21
  v21 := Tryz.zeroValue21
  t46 := Tryz.underlying83
  a46 := Tryz.isAgg83
  z46 := Tryz.sizeOf83
  v46 := Tryz.zeroValue83
  t119 := Tryz.underlying224
  a119 := Tryz.isAgg224
  z119 := Tryz.sizeOf224
  t138 := Tryz.underlying226
  a138 := Tryz.isAgg226
  z138 := Tryz.sizeOf226
  v138 := Tryz.zeroValue226
  t139 := Tryz.underlying227
  a139 := Tryz.isAgg227
  z139 := Tryz.sizeOf227
  v139 := Tryz.zeroValue227
  g3 := by kernel_rfl
  g4 := by kernel_rfl }
open Go.RowKit Go.Lib in
theorem Tryz.utf8_decodeRuneInStringSlow (s : ByteArray) (w : World) (hT : Lib.Utf8Tabs 1 2 w) :
    Calls Tryz.prog 131 #[.string s] w fun e w' => e = .returned (.tuple #[.int .i32 (Lib.decodeGo s).1, .int .i64 (Lib.decodeGo s).2]) ∧ Below w.heap.size w w' := Any.utf8_decodeRuneInStringSlow Tryz.lays260 s w hT
end Go.Proofs
namespace Go.Proofs.YtihignmcjldiiaaGreatDoor
open Go.RowKit
end Go.Proofs.YtihignmcjldiiaaGreatDoor
namespace Go.Proofs.YtihignmcjldiiaaGreatDoor
open Go.RowKit
theorem ret_eq {a b : Value} (h : a = b) : Ending.returned a = Ending.returned b := by rw [h]
theorem bp_ret {P : Program} {fn : Func} {R : Ending → World → Prop} {a : Act} {w : World} (h : ∃ v, (results fn a.tmps).run P w = .ok v w ∧ R (.returned v) w) (hd : a.defers = []) : bodyPost P fn R .ret a w := ⟨hd, h⟩
theorem below_drewN (B : Nat) (w : World) (n : Nat) : Below B w (w.drewN n) := ⟨rfl, rfl, rfl, Nat.le_refl _, fun _ _ => rfl⟩
theorem wp_region_tail_drew {P : Program} {id : Nat} {Q : Exit → Act → World → Prop} {a : Act} {w : World} {l : List Oper} (n : Nat) (hm : P.follows .mixedOrders = true) (hB : Region.lexTailB .any l.toArray n = true)
    (h : wpStill P l.toArray w.drew (fun a' => wpList P l.toArray Q (l.drop n) a' w.drew) (l.take n) a) : (Code.region id l.toArray true).wp P Q a w :=
  wp_region_still_tail n hm hB h
def in64 (v : Int) : Prop := -9223372036854775808 ≤ v ∧ v < 9223372036854775808
def inU64 (v : Int) : Prop := 0 ≤ v ∧ v < 18446744073709551616
def in128 (v : Int) : Prop := -170141183460469231731687303715884105728 ≤ v ∧ v < 170141183460469231731687303715884105728
instance (v : Int) : Decidable (in64 v) := inferInstanceAs (Decidable (_ ∧ _))
instance (v : Int) : Decidable (inU64 v) := inferInstanceAs (Decidable (_ ∧ _))
instance (v : Int) : Decidable (in128 v) := inferInstanceAs (Decidable (_ ∧ _))
def wv (v : Int) : Value := .agg #[.int .i64 (v / 18446744073709551616), .int .u64 (v % 18446744073709551616)]
theorem wv_of {v h l : Int} (h1 : h = v / 18446744073709551616) (h2 : l = v % 18446744073709551616) : Value.agg #[.int .i64 h, .int .u64 l] = wv v := by
  unfold wv; rw [h1, h2]
theorem wv_hl (h l : Int) (h0 : 0 ≤ l) (h1 : l < 18446744073709551616) : Value.agg #[.int .i64 h, .int .u64 l] = wv (h * 18446744073709551616 + l) :=
  wv_of (by omega) (by omega)
theorem mul_parts (a b : Int) : a % 18446744073709551616 * (b % 18446744073709551616) = a * b - (a / 18446744073709551616 * (b % 18446744073709551616) + a % 18446744073709551616 * (b / 18446744073709551616) + a / 18446744073709551616 * (b / 18446744073709551616) * 18446744073709551616) * 18446744073709551616 := by
  have h1 := Int.mul_ediv_add_emod a 18446744073709551616
  have h2 := Int.mul_ediv_add_emod b 18446744073709551616
  generalize a % 18446744073709551616 = ra at *
  generalize b % 18446744073709551616 = rb at *
  generalize a / 18446744073709551616 = qa at *
  generalize b / 18446744073709551616 = qb at *
  subst h1 h2
  grind
theorem mul_bound {a b A B : Int} (ha : -A ≤ a) (ha' : a ≤ A) (hb : -B ≤ b) (hb' : b ≤ B) : -(A * B) ≤ a * b ∧ a * b ≤ A * B := by
  have p1 : 0 ≤ (A - a) * (B - b) := Int.mul_nonneg (by omega) (by omega)
  have p2 : 0 ≤ (A + a) * (B + b) := Int.mul_nonneg (by omega) (by omega)
  have p3 : 0 ≤ (A - a) * (B + b) := Int.mul_nonneg (by omega) (by omega)
  have p4 : 0 ≤ (A + a) * (B - b) := Int.mul_nonneg (by omega) (by omega)
  constructor <;> grind
theorem mul_in128 {a b : Int} (ha : in64 a) (hb : in64 b) : in128 (a * b) := by
  have h := mul_bound (A := 9223372036854775808) (B := 9223372036854775808) ha.1 (Int.le_of_lt ha.2) hb.1 (Int.le_of_lt hb.2)
  unfold in128; omega
theorem wv_open (x : Int) (hx : in128 x) : ∃ h l : Int, wv x = .agg #[.int .i64 h, .int .u64 l] ∧ x = h * 18446744073709551616 + l ∧ -9223372036854775808 ≤ h ∧ h < 9223372036854775808 ∧ 0 ≤ l ∧ l < 18446744073709551616 := by
  unfold in128 at hx
  exact ⟨_, _, rfl, by omega, by omega, by omega, by omega, by omega⟩
theorem wf_i64 {a : Int} (h : (Lit.int .i64 a).wf = true) : in64 a := by
  simp only [Lit.wf, Bool.and_eq_true, decide_eq_true_eq] at h
  have e1 : IntKind.i64.min = -9223372036854775808 := by decide
  have e2 : IntKind.i64.max = 9223372036854775807 := by decide
  unfold in64; omega
theorem wf_u64 {a : Int} (h : (Lit.int .u64 a).wf = true) : inU64 a := by
  simp only [Lit.wf, Bool.and_eq_true, decide_eq_true_eq] at h
  have e1 : IntKind.u64.min = 0 := by decide
  have e2 : IntKind.u64.max = 18446744073709551615 := by decide
  unfold inU64; omega
theorem wf_u32 {a : Int} (h : (Lit.int .u32 a).wf = true) : 0 ≤ a ∧ a < 4294967296 := by
  simp only [Lit.wf, Bool.and_eq_true, decide_eq_true_eq] at h
  have e1 : IntKind.u32.min = 0 := by decide
  have e2 : IntKind.u32.max = 4294967295 := by decide
  omega
theorem wf_i32 {a : Int} (h : (Lit.int .i32 a).wf = true) : -2147483648 ≤ a ∧ a < 2147483648 := by
  simp only [Lit.wf, Bool.and_eq_true, decide_eq_true_eq] at h
  have e1 : IntKind.i32.min = -2147483648 := by decide
  have e2 : IntKind.i32.max = 2147483647 := by decide
  omega
theorem wf_u16 {a : Int} (h : (Lit.int .u16 a).wf = true) : 0 ≤ a ∧ a < 65536 := by
  simp only [Lit.wf, Bool.and_eq_true, decide_eq_true_eq] at h
  have e1 : IntKind.u16.min = 0 := by decide
  have e2 : IntKind.u16.max = 65535 := by decide
  omega
theorem wf_u8 {a : Int} (h : (Lit.int .u8 a).wf = true) : 0 ≤ a ∧ a < 256 := by
  simp only [Lit.wf, Bool.and_eq_true, decide_eq_true_eq] at h
  have e1 : IntKind.u8.min = 0 := by decide
  have e2 : IntKind.u8.max = 255 := by decide
  omega
theorem bcell {W w1 : World} (hb : Below W.heap.size W w1) : (∀ b o, b < W.heap.size → w1.cell? ⟨b, o, none⟩ = W.cell? ⟨b, o, none⟩) ∧ (∀ b o, b < W.heap.size → w1.frozen? ⟨b, o, none⟩ = W.frozen? ⟨b, o, none⟩) :=
  ⟨fun b o h => hb.cell (p := ⟨b, o, none⟩) h, fun b o h => hb.frozen (p := ⟨b, o, none⟩) h⟩
theorem bcell_drew {W w1 : World} (hb : Below W.drew.heap.size W.drew w1) : (∀ b o, b < W.heap.size → w1.cell? ⟨b, o, none⟩ = W.cell? ⟨b, o, none⟩) ∧ (∀ b o, b < W.heap.size → w1.frozen? ⟨b, o, none⟩ = W.frozen? ⟨b, o, none⟩) :=
  ⟨fun b o h => hb.cell (p := ⟨b, o, none⟩) h, fun b o h => hb.frozen (p := ⟨b, o, none⟩) h⟩
end Go.Proofs.YtihignmcjldiiaaGreatDoor
namespace Go.Proofs.YtihignmcjldiiaaGreatDoor
theorem kn_exit {Y u d q r : Int} (hY : 0 < Y) (hq : q * (Y / 4294967296) + r = u) (hQ : (u * 4294967296 + d) / Y ≤ q) (hc : q * (Y % 4294967296) ≤ 4294967296 * r + d) : q = (u * 4294967296 + d) / Y := by
  have e : q * Y = q * (Y / 4294967296) * 4294967296 + q * (Y % 4294967296) := by
    have h := Int.mul_ediv_add_emod Y 4294967296
    generalize Y / 4294967296 = y1 at *
    generalize Y % 4294967296 = y0 at *
    subst h; grind
  have h2 : q ≤ (u * 4294967296 + d) / Y := Int.le_ediv_of_mul_le hY (by omega)
  omega
theorem kn_first {Y u d : Int} (hY : 9223372036854775808 ≤ Y) (hY1 : Y < 18446744073709551616) (hu : 0 ≤ u) (huY : u < Y) (hd : 0 ≤ d) (hd1 : d < 4294967296) :
    u / (Y / 4294967296) * (Y / 4294967296) + (u - u / (Y / 4294967296) * (Y / 4294967296)) = u ∧ 0 ≤ u - u / (Y / 4294967296) * (Y / 4294967296) ∧ u - u / (Y / 4294967296) * (Y / 4294967296) < 4294967296 ∧ (u * 4294967296 + d) / Y ≤ u / (Y / 4294967296) ∧ u / (Y / 4294967296) ≤ 4294967297 ∧ 0 ≤ u / (Y / 4294967296) := by
  have h1 : 2147483648 ≤ Y / 4294967296 := by omega
  have h2 : Y / 4294967296 < 4294967296 := by omega
  have e := Int.mul_ediv_add_emod u (Y / 4294967296)
  have e0 := Int.emod_nonneg u (b := Y / 4294967296) (by omega)
  have e1 := Int.emod_lt_of_pos u (b := Y / 4294967296) (by omega)
  have c := Int.mul_comm (Y / 4294967296) (u / (Y / 4294967296))
  have hQ0 : 0 ≤ (u * 4294967296 + d) / Y := Int.ediv_nonneg (by omega) (by omega)
  have hQ : (u * 4294967296 + d) / Y * Y ≤ u * 4294967296 + d := Int.ediv_mul_le _ (by omega)
  refine ⟨by omega, by omega, by omega, ?_, ?_, Int.ediv_nonneg hu (by omega)⟩
  · refine Int.le_ediv_of_mul_le (by omega) ?_
    generalize (u * 4294967296 + d) / Y = Q at *
    have : Q * Y = Q * (Y / 4294967296) * 4294967296 + Q * (Y % 4294967296) := by
      have h := Int.mul_ediv_add_emod Y 4294967296
      generalize Y / 4294967296 = y1 at *
      generalize Y % 4294967296 = y0 at *
      subst h; grind
    have : 0 ≤ Q * (Y % 4294967296) := Int.mul_nonneg hQ0 (by omega)
    omega
  · have : u / (Y / 4294967296) < 4294967298 := by
      refine Int.ediv_lt_of_lt_mul (by omega) ?_
      omega
    omega
theorem kn_step {Y u d q r : Int} (hY : 9223372036854775808 ≤ Y) (huY : u < Y) (hd1 : d < 4294967296) (hq : q * (Y / 4294967296) + r = u) (hc : 4294967296 ≤ q ∨ 4294967296 * r + d < q * (Y % 4294967296)) : (u * 4294967296 + d) / Y ≤ q - 1 := by
  have : (u * 4294967296 + d) / Y < q := by
    rcases hc with hc | hc
    · have : (u * 4294967296 + d) / Y < 4294967296 := Int.ediv_lt_of_lt_mul (by omega) (by omega)
      omega
    · refine Int.ediv_lt_of_lt_mul (by omega) ?_
      have e : q * Y = q * (Y / 4294967296) * 4294967296 + q * (Y % 4294967296) := by
        have h := Int.mul_ediv_add_emod Y 4294967296
        generalize Y / 4294967296 = y1 at *
        generalize Y % 4294967296 = y0 at *
        subst h; grind
      omega
  omega
theorem kn_break {Y u d q r : Int} (hY : 9223372036854775808 ≤ Y) (hd : 0 ≤ d) (hq : q * (Y / 4294967296) + r = u) (hr : 4294967296 ≤ r) (hQ : (u * 4294967296 + d) / Y ≤ q) (hq1 : q ≤ 4294967296) : q = (u * 4294967296 + d) / Y := by
  refine kn_exit (by omega) hq hQ ?_
  have h1 : q * (Y % 4294967296) ≤ 4294967296 * 4294967295 := by
    have := Int.mul_le_mul hq1 (show Y % 4294967296 ≤ 4294967295 by omega) (by omega) (by omega)
    omega
  omega
theorem kn_small {q y0 : Int} (hq : q < 4294967296) (hq0 : 0 ≤ q) (h0 : 0 ≤ y0) (h1 : y0 < 4294967296) : 0 ≤ q * y0 ∧ q * y0 < 18446744073709551616 := by
  have := Int.mul_le_mul (show q ≤ 4294967295 by omega) (show y0 ≤ 4294967295 by omega) (by omega) (by omega)
  exact ⟨Int.mul_nonneg hq0 h0, by omega⟩
theorem kn_two {Y U L : Int} (hY : 0 < Y) :
    (U * 18446744073709551616 + L) / Y = (U * 4294967296 + L / 4294967296) / Y * 4294967296 + ((U * 4294967296 + L / 4294967296) % Y * 4294967296 + L % 4294967296) / Y ∧
    (U * 18446744073709551616 + L) % Y = ((U * 4294967296 + L / 4294967296) % Y * 4294967296 + L % 4294967296) % Y := by
  have e := Int.mul_ediv_add_emod (U * 4294967296 + L / 4294967296) Y
  generalize (U * 4294967296 + L / 4294967296) % Y = R at *
  generalize (U * 4294967296 + L / 4294967296) / Y = Q at *
  have x : U * 18446744073709551616 + L = (R * 4294967296 + L % 4294967296) + Y * (Q * 4294967296) := by
    have : Y * (Q * 4294967296) = Y * Q * 4294967296 := by grind
    omega
  rw [x, Int.add_mul_ediv_left _ _ (by omega), Int.add_mul_emod_self_left]
  exact ⟨by omega, rfl⟩
theorem bitLenAux_spec : ∀ (f x : Nat), x < 2 ^ f → x < 2 ^ Lib.bitLenAux f x ∧ (x ≠ 0 → 2 ^ (Lib.bitLenAux f x - 1) ≤ x)
  | 0, x, h => by simp at h; subst h; simp [Lib.bitLenAux]
  | f + 1, x, h => by
    unfold Lib.bitLenAux
    split
    · subst_vars; simp
    · rename_i hx
      obtain ⟨a, b⟩ := bitLenAux_spec f (x / 2) (by rw [Nat.pow_succ] at h; omega)
      refine ⟨by rw [Nat.add_comm, Nat.pow_succ]; omega, fun _ => ?_⟩
      rw [Nat.add_sub_cancel_left]
      by_cases h1 : x / 2 = 0
      · have : Lib.bitLenAux f (x / 2) = 0 := by rw [h1]; cases f <;> simp [Lib.bitLenAux]
        rw [this]; simp; omega
      · have := b h1
        have h0 : 0 < Lib.bitLenAux f (x / 2) := by
          rcases Nat.eq_zero_or_pos (Lib.bitLenAux f (x / 2)) with h0 | h0
          · rw [h0] at a; omega
          · exact h0
        have e : 2 ^ Lib.bitLenAux f (x / 2) = 2 ^ (Lib.bitLenAux f (x / 2) - 1) * 2 := by rw [← Nat.pow_succ]; congr 1; omega
        omega
theorem norm_bits (y : Int) (h0 : 0 < y) (h1 : y < 18446744073709551616) : ∃ s : Nat, s < 64 ∧ (64 - (Lib.bitLen y.toNat : Int)) = s ∧ 9223372036854775808 ≤ y * 2 ^ s ∧ y * 2 ^ s < 18446744073709551616 := by
  obtain ⟨n, rfl⟩ := Int.eq_ofNat_of_zero_le (Int.le_of_lt h0)
  obtain ⟨h2, h3⟩ := bitLenAux_spec 64 n (by omega)
  change n < 2 ^ Lib.bitLen n at h2
  change n ≠ 0 → 2 ^ (Lib.bitLen n - 1) ≤ n at h3
  have h3 := h3 (by omega)
  have hb : Lib.bitLen n ≤ 64 := Lib.bitLen_le n 64 (by omega) (by omega)
  have hb1 : 0 < Lib.bitLen n := by
    rcases Nat.eq_zero_or_pos (Lib.bitLen n) with h | h
    · rw [h] at h2; omega
    · exact h
  have h5 : (n : Int) * 2 ^ (64 - Lib.bitLen n) = ((n * 2 ^ (64 - Lib.bitLen n) : Nat) : Int) := by rw [Int.natCast_mul, Int.natCast_pow]; rfl
  have l : 9223372036854775808 ≤ n * 2 ^ (64 - Lib.bitLen n) := by
    have e : 9223372036854775808 = 2 ^ (Lib.bitLen n - 1) * 2 ^ (64 - Lib.bitLen n) := by rw [← Nat.pow_add, show Lib.bitLen n - 1 + (64 - Lib.bitLen n) = 63 by omega]
    rw [e]; exact Nat.mul_le_mul_right _ h3
  have u : n * 2 ^ (64 - Lib.bitLen n) < 18446744073709551616 := by
    have e : 18446744073709551616 = 2 ^ Lib.bitLen n * 2 ^ (64 - Lib.bitLen n) := by rw [← Nat.pow_add, show Lib.bitLen n + (64 - Lib.bitLen n) = 64 by omega]
    rw [e]; exact (Nat.mul_lt_mul_right (Nat.two_pow_pos _)).mpr h2
  refine ⟨64 - Lib.bitLen n, by omega, ?_, ?_, ?_⟩
  · simp only [Int.toNat_natCast]; omega
  · rw [h5]; generalize n * 2 ^ (64 - Lib.bitLen n) = m at *; omega
  · rw [h5]; generalize n * 2 ^ (64 - Lib.bitLen n) = m at *; omega
theorem natPow (s : Nat) : ((2 : Int) ^ s) = ((2 ^ s : Nat) : Int) := by rw [Int.natCast_pow]; rfl
theorem or_join (hi lo : Int) (s : Nat) (h0 : 0 ≤ hi) (h1 : hi * 2 ^ s < 18446744073709551616) (l0 : 0 ≤ lo) (l1 : lo < 18446744073709551616) (hs : s ≤ 64) :
    bits .or .u64 (hi * 2 ^ s) (lo / 2 ^ (64 - s)) = (hi * 18446744073709551616 + lo) * 2 ^ s / 18446744073709551616 := by
  obtain ⟨h, rfl⟩ := Int.eq_ofNat_of_zero_le h0
  obtain ⟨l, rfl⟩ := Int.eq_ofNat_of_zero_le l0
  have e1 : (h : Int) * 2 ^ s = ((h * 2 ^ s : Nat) : Int) := by rw [natPow, Int.natCast_mul]
  have e2 : (l : Int) / 2 ^ (64 - s) = ((l / 2 ^ (64 - s) : Nat) : Int) := by rw [natPow, Int.natCast_ediv]
  have b1 : h * 2 ^ s < 18446744073709551616 := by rw [e1] at h1; omega
  have e64 : 18446744073709551616 = 2 ^ (64 - s) * 2 ^ s := by rw [← Nat.pow_add, show 64 - s + s = 64 by omega]
  have b2 : l / 2 ^ (64 - s) < 2 ^ s := by
    rw [Nat.div_lt_iff_lt_mul (Nat.two_pow_pos _)]
    have : l < 18446744073709551616 := by omega
    rw [e64] at this; rw [Nat.mul_comm]; exact this
  have b3 : l / 2 ^ (64 - s) < 18446744073709551616 := Nat.lt_of_le_of_lt (Nat.div_le_self _ _) (by omega)
  rw [e1, e2, bits_or_u64_nat _ _ b1 b3]
  have e3 : h * 2 ^ s ||| l / 2 ^ (64 - s) = h * 2 ^ s + l / 2 ^ (64 - s) := by
    rw [Nat.mul_comm h, ← Nat.two_pow_add_eq_or_of_lt b2]
  have e4 : l * 2 ^ s / 18446744073709551616 = l / 2 ^ (64 - s) := by
    rw [e64, Nat.mul_div_mul_right _ _ (Nat.two_pow_pos _)]
  rw [e3, ← e4]
  have e5 : ((h : Int) * 18446744073709551616 + l) * 2 ^ s = ((h * 2 ^ s : Nat) : Int) * 18446744073709551616 + ((l * 2 ^ s : Nat) : Int) := by
    rw [natPow, Int.natCast_mul, Int.natCast_mul]; grind
  rw [e5]
  omega
end Go.Proofs.YtihignmcjldiiaaGreatDoor
namespace Go.Proofs.YtihignmcjldiiaaGreatDoor
open Go.RowKit
end Go.Proofs.YtihignmcjldiiaaGreatDoor
namespace Go.Proofs.YtihignmcjldiiaaGreatDoor.Mir
open Go Go.RowKit
set_option maxRecDepth 100000
def laidL : List (Nat × Nat × Value) := [(0, 0, .iface 195 (.agg #[.pointer (some ⟨4, 59, none⟩)]))]
theorem laidW_of {w : World} (h : ∀ q ∈ laidL, w.cell? ⟨q.1, q.2.1, none⟩ = some q.2.2) : LaidW w := by
  have := h (0, 0, .iface 195 (.agg #[.pointer (some ⟨4, 59, none⟩)])) (List.mem_singleton.2 rfl)
  exact this
def asS : Sum := asSum 93 124
set_option maxHeartbeats 2000000 in
theorem asS_ok : SumOk Tryz.prog laidL 56 asS := by
  refine as_ok Tryz.func56 (by kernel_rfl) (by kernel_rfl) (fun t w => as_nil t w) (fun n t old w hl ht hf => (as_hit n t old w (laidW_of hl) ht hf).mono ?_)
  rintro e w' ⟨rfl, rfl⟩
  exact ⟨rfl, _, by repeat (first | exact Below.refl _ _ | refine Below.alloc ?_ (by first | (simp; done) | (simp; omega)) _), rfl⟩
def u64B (x : Int) : Bool := decide (0 ≤ x ∧ x < 18446744073709551616)
theorem u64B_iff {x : Int} : u64B x = true ↔ 0 ≤ x ∧ x < 18446744073709551616 := by simp [u64B]
end Go.Proofs.YtihignmcjldiiaaGreatDoor.Mir
namespace Go.Proofs.YtihignmcjldiiaaGreatDoor
open Go.ChangeShapes Go.WideShapes Go.ChangeAt Go.RowKit
def leavesF (P : Program) (f : TypeId → Option (List TypeId)) : List Field → Nat → Option (List TypeId)
  | [], _ => some []
  | fd :: r, o => if fd.offset = o then (f fd.type).bind fun l => if P.cellsOf fd.type = l.length then (leavesF P f r (o + l.length)).map (l ++ ·) else none else none
def leavesOf (P : Program) : Nat → TypeId → Option (List TypeId)
  | 0, _ => none
  | n + 1, t => match P.underlying t with
    | some (.struct fs) => (leavesF P (leavesOf P n) fs.toList 0).bind fun l => if P.cellsOf t = l.length then some l else none
    | some (.array m e) => (leavesOf P n e).bind fun l => if P.cellsOf e = l.length ∧ P.cellsOf t = m * l.length then some (List.replicate m l).flatten else none
    | some .bool => some [t]
    | some (.int _) => some [t]
    | some .string => some [t]
    | some (.slice _) => some [t]
    | _ => none
def Leaves (R : TypeId → Value → Prop) : List TypeId → List Value → Prop
  | [], [] => True
  | u :: us, c :: cs => R u c ∧ Leaves R us cs
  | _, _ => False
theorem Leaves.length {R : TypeId → Value → Prop} : ∀ {us cs}, Leaves R us cs → us.length = cs.length
  | [], [], _ => rfl
  | _ :: _, _ :: _, h => by simp [Leaves.length h.2]
  | [], _ :: _, h => h.elim
  | _ :: _, [], h => h.elim
theorem Leaves.append {R : TypeId → Value → Prop} : ∀ {a b x y}, Leaves R a x → Leaves R b y → Leaves R (a ++ b) (x ++ y)
  | [], _, [], _, _, h => h
  | _ :: _, _, _ :: _, _, h, k => ⟨h.1, Leaves.append h.2 k⟩
  | [], _, _ :: _, _, h, _ => h.elim
  | _ :: _, _, [], _, h, _ => h.elim
section
variable {H : Type} {enc : TypeId × Value → H} {P : Program} {w : World} {base : Nat} {spare : Nat → Bool} {held : Bool}
def Reads1 (enc : TypeId × Value → H) (P : Program) (w : World) (base : Nat) (spare : Nat → Bool) (held : Bool) (u : TypeId) (c : Value) : Prop :=
  ∃ (m : Nat) (y : DataW H × List MemPlace), DataW.trod enc P w base spare held m u [c] = some y
theorem take_add_drop (cs : List Value) (o a b : Nat) : (cs.drop o).take (a + b) = (cs.drop o).take a ++ (cs.drop (o + a)).take b := by
  rw [List.take_add, List.drop_drop]
theorem leaves_fields {f : TypeId → Option (List TypeId)} (ih : ∀ t l, f t = some l → ∀ fuel cs x, DataW.trod enc P w base spare held fuel t cs = some x → Leaves (Reads1 enc P w base spare held) l cs) (cs : List Value) :
    ∀ (fs : List Field) (o : Nat) (l : List TypeId), leavesF P f fs o = some l → (∀ fd ∈ fs, ∃ m y, DataW.trod enc P w base spare held m fd.type ((cs.drop fd.offset).take (P.cellsOf fd.type)) = some y) → Leaves (Reads1 enc P w base spare held) l ((cs.drop o).take l.length)
  | [], o, l, h, _ => by
    simp only [leavesF, Option.some.injEq] at h
    subst h
    simp [Leaves]
  | fd :: r, o, l, h, hr => by
    unfold leavesF at h
    by_cases ho : fd.offset = o
    · rw [if_pos ho] at h
      cases hf : f fd.type with
      | none => rw [hf] at h; simp at h
      | some l1 =>
        rw [hf] at h
        simp only [Option.bind_some] at h
        by_cases hc : P.cellsOf fd.type = l1.length
        · rw [if_pos hc] at h
          cases h2 : leavesF P f r (o + l1.length) with
          | none => rw [h2] at h; simp at h
          | some l2 =>
            rw [h2] at h
            simp only [Option.map_some, Option.some.injEq] at h
            subst h
            obtain ⟨m, y, hy⟩ := hr fd (List.mem_cons_self ..)
            have a := ih _ _ hf _ _ _ hy
            rw [ho, hc] at a
            have b := leaves_fields ih cs r _ _ h2 (fun q hq => hr q (List.mem_cons_of_mem _ hq))
            rw [List.length_append, take_add_drop]
            exact a.append b
        · rw [if_neg hc] at h; cases h
    · rw [if_neg ho] at h; cases h
theorem leaves_array {l : List TypeId} (cs : List Value) : ∀ m : Nat, (∀ i, i < m → Leaves (Reads1 enc P w base spare held) l ((cs.drop (i * l.length)).take l.length)) → Leaves (Reads1 enc P w base spare held) (List.replicate m l).flatten (cs.take (m * l.length))
  | 0, _ => by simp [Leaves]
  | m + 1, h => by
    have a := leaves_array cs m (fun i hi => h i (by omega))
    have b := h m (by omega)
    rw [List.replicate_succ', List.flatten_append, Nat.succ_mul, List.take_add]
    refine a.append ?_
    simpa using b
theorem leaves : ∀ (n : Nat) (t : TypeId) (l : List TypeId), leavesOf P n t = some l → ∀ (fuel : Nat) (cs : List Value) (x : DataW H × List MemPlace), DataW.trod enc P w base spare held fuel t cs = some x → Leaves (Reads1 enc P w base spare held) l cs := by
  intro n
  induction n with
  | zero => intro t l h; cases h
  | succ n ih =>
    intro t l h fuel cs x hx
    unfold leavesOf at h
    cases ht : P.underlying t with
    | none => rw [ht] at h; cases h
    | some u =>
      rw [ht] at h
      by_cases hs : ∃ fs, u = .struct fs
      · obtain ⟨fs, rfl⟩ := hs
        simp only at h
        cases h1 : leavesF P (leavesOf P n) fs.toList 0 with
        | none => rw [h1] at h; cases h
        | some l1 =>
          rw [h1] at h
          simp only [Option.bind_some] at h
          by_cases hc : P.cellsOf t = l1.length
          · rw [if_pos hc] at h
            obtain rfl := Option.some.inj h
            obtain ⟨xs, m, _, _, hl, hxl, hf⟩ := DataW.trod_struct ht hx
            have a := leaves_fields ih cs fs.toList 0 l1 h1 (fun fd hfd => by
              obtain ⟨i, hi, e⟩ := List.mem_iff_getElem.mp hfd
              have e' : fs[i]? = some fd := by rw [← e]; simp at hi ⊢
              have k := hf i fd e'
              have hi' : i < xs.length := by simp at hi; omega
              exact ⟨m, xs[i], by rw [k, List.getElem?_eq_getElem hi']⟩)
            rw [List.drop_zero, List.take_of_length_le (by omega)] at a
            exact a
          · rw [if_neg hc] at h; cases h
      · by_cases ha : ∃ m e, u = .array m e
        · obtain ⟨m, e, rfl⟩ := ha
          simp only at h
          cases h1 : leavesOf P n e with
          | none => rw [h1] at h; cases h
          | some l1 =>
            rw [h1] at h
            simp only [Option.bind_some] at h
            by_cases hc : P.cellsOf e = l1.length ∧ P.cellsOf t = m * l1.length
            · rw [if_pos hc] at h
              obtain rfl := Option.some.inj h
              obtain ⟨xs, q, _, _, hl, hxl, hf⟩ := DataW.trod_array ht hx
              have a := leaves_array (enc := enc) (P := P) (w := w) (base := base) (spare := spare) (held := held) (l := l1) cs m (fun i hi => by
                have k := hf i hi
                rw [hc.1] at k
                have hi' : i < xs.length := by omega
                exact ih _ _ h1 _ _ _ (k.trans (List.getElem?_eq_getElem hi')))
              rw [List.take_of_length_le (by omega)] at a
              exact a
            · rw [if_neg hc] at h; cases h
        · cases u with
          | bool =>
            obtain rfl := Option.some.inj h
            obtain ⟨b, rfl, _⟩ := DataW.trod_bool ht hx
            exact ⟨⟨_, _, hx⟩, trivial⟩
          | int k =>
            obtain rfl := Option.some.inj h
            obtain ⟨b, rfl, _⟩ := DataW.trod_int ht hx
            exact ⟨⟨_, _, hx⟩, trivial⟩
          | string =>
            obtain rfl := Option.some.inj h
            obtain ⟨b, rfl, _⟩ := DataW.trod_string ht hx
            exact ⟨⟨_, _, hx⟩, trivial⟩
          | slice e =>
            obtain rfl := Option.some.inj h
            rcases DataW.trod_slice ht hx with ⟨rfl, _⟩ | ⟨a, len, cap, el, re, m, _, rfl, _⟩
            · exact ⟨⟨_, _, hx⟩, trivial⟩
            · exact ⟨⟨_, _, hx⟩, trivial⟩
          | struct fs => exact absurd ⟨_, rfl⟩ hs
          | array m e => exact absurd ⟨_, _, rfl⟩ ha
          | _ => cases h
theorem Reads1.int {u : TypeId} {k : IntKind} {c : Value} (ht : P.underlying u = some (.int k)) (h : Reads1 enc P w base spare held u c) : ∃ n, c = .int k n ∧ (Lit.int k n).wf = true := by
  obtain ⟨m, y, h⟩ := h
  obtain ⟨n, e, _, hw⟩ := DataW.trod_int ht h
  exact ⟨n, (List.cons.inj e).1, hw⟩
theorem Reads1.bool {u : TypeId} {c : Value} (ht : P.underlying u = some .bool) (h : Reads1 enc P w base spare held u c) : ∃ b, c = .bool b := by
  obtain ⟨m, y, h⟩ := h
  obtain ⟨n, e, _⟩ := DataW.trod_bool ht h
  exact ⟨n, (List.cons.inj e).1⟩
theorem Reads1.string {u : TypeId} {c : Value} (ht : P.underlying u = some .string) (h : Reads1 enc P w base spare held u c) : ∃ s : ByteArray, c = .string s ∧ s.size ≤ maxLen := by
  obtain ⟨m, y, h⟩ := h
  obtain ⟨n, e, _, hw⟩ := DataW.trod_string ht h
  exact ⟨n, (List.cons.inj e).1, hw⟩
theorem okWide_agg {r : Reach} {b0 : Nat} {t : TypeId} {v : Value} (ht : (∃ fs, P.underlying t = some (.struct fs)) ∨ ∃ m e, P.underlying t = some (.array m e)) (h : Value.okWide P w r b0 t v) : ∃ cs, v = .agg cs ∧ cs.size = P.cellsOf t := by
  rcases ht with ⟨fs, ht⟩ | ⟨m, e, ht⟩ <;>
  · simp only [Value.okWide, ht] at h
    obtain ⟨cs, h1, h2, _⟩ := h
    exact ⟨cs, h1, h2⟩
theorem open_leaves {r : Reach} {b0 : Nat} {t : TypeId} {l : List TypeId} {v : Value} {d : DataW H} {p : List MemPlace} (hl : leavesOf P 9 t = some l) (ht : (∃ fs, P.underlying t = some (.struct fs)) ∨ ∃ m e, P.underlying t = some (.array m e)) (hv : Value.okWide P w r b0 t v) (h : DataW.Trod enc P w base spare held t v d p) :
    ∃ cs : List Value, v = .agg cs.toArray ∧ Leaves (Reads1 enc P w base spare held) l cs := by
  obtain ⟨cs, rfl, _⟩ := okWide_agg ht hv
  obtain ⟨fuel, hf⟩ := h
  exact ⟨cs.toList, by simp, leaves 9 t l hl fuel _ _ hf⟩
theorem trodAll_stays (hl : laidOutB P = true) {W W' : World} (hb : Below W.heap.size W W') : ∀ {ts : List TypeId} {vs : List Value} {ds : List (DataW H)} {ps : List MemPlace}, (∀ t ∈ ts, P.readableRec t = true ∧ t < P.types.size) →
    DataW.TrodAll enc P W 0 (fun _ => true) true ts vs ds ps → DataW.TrodAll enc P W' 0 (fun b => decide (b < W.heap.size)) true ts vs ds ps
  | [], [], [], _, _, h => h
  | t :: ts, v :: vs, d :: ds, ps, hr, h => by
    obtain ⟨p, q, h1, h2, e⟩ := h
    have lt : ∀ x ∈ p, x.block < W.heap.size := by obtain ⟨m, hm⟩ := h1; exact DataW.trod_lt m _ _ _ hm
    exact ⟨p, q, Below.trod hl (hr t (List.mem_cons_self ..)).1 (hr t (List.mem_cons_self ..)).2 h1 hb lt, trodAll_stays hl hb (fun u hu => hr u (List.mem_cons_of_mem _ hu)) h2, e⟩
  | [], _ :: _, _, _, _, h => by simp [DataW.TrodAll] at h
  | [], [], _ :: _, _, _, h => by simp [DataW.TrodAll] at h
  | _ :: _, [], _, _, _, h => by simp [DataW.TrodAll] at h
  | _ :: _, _ :: _, [], _, _, h => by simp [DataW.TrodAll] at h
end
theorem Tryz.own : ownKnob Tryz.prog.godebug = none := by kernel_rfl
theorem Tryz.laidOut : laidOutB Tryz.prog = true := by kernel_rfl
theorem Tryz.et : Tryz.prog.globalNamed "errors.errorType" = some 0 := by kernel_rfl
theorem Tryz.rt : (Tryz.prog.cutTypes.find? (·.1 == "internal/reflectlite.rtype")).map (·.2) = some 195 := by kernel_rfl
theorem Tryz.oneRow : ((List.range 261).filter fun t => Tryz.prog.rowNamed t [101, 114, 114, 111, 114]) = [59] := by kernel_rfl
theorem Tryz.size : Tryz.prog.types.size = 261 := by kernel_rfl
def laidL : List (String × DataW Unit) := [("errors.errorType", Rows.laid_errors_errorType)]
theorem laid_of {W : World} (h : laidMetH Tryz.prog laidL W) : LaidW W := by
  have h' : laidMet Tryz.prog [] W ∧ handlesMet Tryz.prog laidL W := h
  obtain ⟨name, u, ty, e1, e2, e3, e4, e5⟩ := h'.2 _ (List.mem_singleton.2 rfl)
  have en : name = [101, 114, 114, 111, 114] := (Option.some.inj e1).symm
  subst en
  obtain rfl := Option.some.inj (Tryz.rt.symm.trans e2)
  have hm : ty ∈ (List.range 261).filter fun t => Tryz.prog.rowNamed t [101, 114, 114, 111, 114] := List.mem_filter.2 ⟨List.mem_range.2 (by rw [← Tryz.size]; exact e3), e4⟩
  rw [Tryz.oneRow] at hm
  obtain rfl := List.mem_singleton.1 hm
  have hh : typeHandle Tryz.prog 59 = .pointer (some ⟨4, 59, none⟩) := by kernel_rfl
  rw [hh] at e5
  have := World.var?_cell Tryz.et e5 0
  unfold LaidW
  simpa using this
noncomputable def laidWorld (os : Os) : World :=
  let w0 := World.holding Tryz.prog os ⟨#[], #[], []⟩
  { w0 with heap := w0.heap.modify 0 fun
      | .cells _ t frozen => .cells #[.iface 195 (.agg #[.pointer (some ⟨4, 59, none⟩)])] t frozen
      | o => o }
theorem laidWorld_met (os : Os) (args : Array Value) : laidMetH Tryz.prog laidL ((laidWorld os).forCall (fun _ _ => 0) ⟨#[], args, []⟩).memory :=
  laidMetH_of_parts (laidMet_nil _ _) (by kernel_rfl)
end Go.Proofs.YtihignmcjldiiaaGreatDoor
namespace Go.Proofs.YtihignmcjldiiaaGreatDoor
open Go.ChangeShapes Go.WideShapes Go.ChangeAt Go.RowKit
def laidU : List (String × DataW Unit) := [("unicode/utf8.acceptRanges", Rows.laid_unicode_utf8_acceptRanges), ("errors.errorType", Rows.laid_errors_errorType), ("unicode/utf8.first", Rows.laid_unicode_utf8_first)]
def laidD : List (String × DataW Unit) := [("unicode/utf8.acceptRanges", Rows.laid_unicode_utf8_acceptRanges), ("unicode/utf8.first", Rows.laid_unicode_utf8_first)]
theorem laidU_of {W : World} (h : laidMetH Tryz.prog laidU W) : laidMetH Tryz.prog laidL W := h.filter fun x => x.1 == "errors.errorType"
noncomputable def laidWorldU (os : Os) : World := (laidWorld os).layVars Tryz.prog laidD
theorem laidWorldU_met (os : Os) (args : Array Value) : laidMetH Tryz.prog laidU ((laidWorldU os).forCall (fun _ _ => 0) ⟨#[], args, []⟩).memory :=
  laidMetH_of_parts (laidMet_layVars (w0 := laidWorld os) ["unicode/utf8.acceptRanges", "unicode/utf8.first"] [] (by show _ = ((laidWorld os).layVars Tryz.prog laidD).heap; simp [World.memory, World.forCall, Input.heap]; rfl) (by kernel_rfl) (by kernel_rfl) LaidIn.none) (by kernel_rfl)
end Go.Proofs.YtihignmcjldiiaaGreatDoor
