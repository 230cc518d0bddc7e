/- Texts joined. -/
import Derived.Test.YthpljlpokmoeeaaGreatDoorProg
import Derived.WalkKit
import Derived.LaidEql
import Derived.Stop.Asserts
import Derived.RowKitTokens
import Derived.Lib.Hide
import Derived.Shelf.Strings.Trim
import Derived.Shelf.Small.Utf8
import Derived.Shelf.Small.Bits
import Derived.Shelf.Small.Strs
import Derived.Shelf.Strconv.Itoa0
import Derived.Shelf.Strings.Search1
import Derived.Shelf.Strings.Runes
import Derived.Shelf.Strings.AsciiSet
import Derived.Shelf.Bits.Mul64
import Derived.Shelf.Unicode.DecodeSlow
import Derived.Laws.Externs
import Derived.Shelf.Spec.BitsCarry
import Derived.Deep.Draws
import Derived.StillTailTactics
import Derived.Lib.BitFns
import Derived.Lib.Bits
import Derived.Laws.MathBits
import Derived.Laws.Bits64b
import Derived.Deep.DeepCutAuto
import Derived.Deep.CutBlock
import Derived.Deep.QuietTactic
import Derived.BigQuiet
import Derived.Test.YthpljlpokmoeeaaGreatDoorKx0e6d92
import Derived.Deep.RegionHeld3
import Derived.Deep.RegionWith
import Derived.Test.YthpljlpokmoeeaaGreatDoorRows
import Derived.ProofKit
import Derived.OpenShut
import Derived.ShutString
import Derived.ChangeOld
import Derived.ChangeSame
import Derived.ChangeVars
import Derived.JoinedOf
import Derived.Handed
import Derived.SizedLaws
import Derived.LaidLaws
import Derived.LaidHandle
import Derived.Stop.Joined
import Derived.Lay
import Derived.LaidSub
namespace Go.Proofs.YthpljlpokmoeeaaGreatDoor
open Go.RowKit Go.Extern.Stop Go.Stop Go.Extern
def errV : Option Int → Value
 | none => .nilIface
 | some n => .iface 129 (.int .i64 n)
def LaidW (w : World) : Prop := w.cell? ⟨0, 0, none⟩ = some (.iface 272 (.agg #[.pointer (some ⟨6, 54, none⟩)]))
theorem LaidW.lt {w : World} (h : LaidW w) : 0 < w.heap.size := by
 rcases Nat.lt_or_ge 0 w.heap.size with h0 | h0
 ·exact h0
 ·unfold LaidW at h
  simp [World.cell?, Array.getElem?_eq_none h0] at h
theorem LaidW.below {w w' : World} (h : LaidW w) (hb : Below w.heap.size w w') : LaidW w' := by
 unfold LaidW
 rw [hb.cell (p := ⟨0, 0, none⟩) h.lt]
 exact h
theorem as_nil (t : Value) (w : World) :
  Calls Tryz.prog 68 #[.nilIface, t] w fun e w' => e = .returned (.bool false) ∧ w' = w := by
 go_enter Tryz.func68, Tryz.ntmps68
 go_wp2
 go_ret
 exact ⟨rfl, rfl⟩
theorem Tryz.valueOfPE (t : Addr) (w : World) : (ReflectliteValue.unpack (.iface 156 (.pointer (some t)))).run Tryz.prog w
  = .ok (.agg #[.pointer (some ⟨6, 156, none⟩), .pointer (some ⟨w.heap.size, 0, none⟩), .int .u64 150]) (w.alloc (.cells #[.pointer (some t)] 156)) := by kernel_rfl
theorem Tryz.typePE (a : Addr) (w : World) : (ReflectliteValue.methodAny (ReflectliteValue.valueError "reflectlite.Value.Type" 0) (fun t _ _ _ => ReflectliteType.toType t) #[.agg #[.pointer (some ⟨6, 156, none⟩), .pointer (some a), .int .u64 150]]).run Tryz.prog w
  = .ok (.iface 272 (.agg #[.pointer (some ⟨6, 156, none⟩)])) w := by kernel_rfl
theorem Tryz.methodKind (h : Value) (n : Nat) (w : World) : (Go.method (n + 1) 272 (.agg #[h]) "Kind").run Tryz.prog w = .ok (254, h) w := by kernel_rfl
theorem Tryz.kindPE (w : World) : ((ReflectliteType.abiMethod fun t => (fun a : Nat => Value.int IntKind.u8 (a : Int)) <$> Rtype.kind t) #[.pointer (some ⟨6, 156, none⟩)]).run Tryz.prog w = .ok (.int .u8 22) w := by kernel_rfl
theorem Tryz.kindE (w : World) : ((ReflectliteType.abiMethod fun t => (fun a : Nat => Value.int IntKind.u8 (a : Int)) <$> Rtype.kind t) #[.pointer (some ⟨6, 129, none⟩)]).run Tryz.prog w = .ok (.int .u8 2) w := by kernel_rfl
theorem rlm (z : Sem Value) (f : TypeId → Addr → Nat → Nat → Sem Value) (v : Value) :
  ReflectliteValue.method z f #[v] = (do match ← ReflectliteValue.parts v with | none => z | some (t, a, fl) => f t a fl (fl % 32)) := rfl
theorem Tryz.partsPE (a : Addr) (w : World) : (ReflectliteValue.parts (.agg #[.pointer (some ⟨6, 156, none⟩), .pointer (some a), .int .u64 150])).run Tryz.prog w = .ok (some (156, a, 150)) w := by kernel_rfl
theorem Tryz.isNilPE (a p : Addr) (W : World) (ha : W.cell? a = some (.pointer (some p))) :
  (ReflectliteValue.method (ReflectliteValue.valueError "reflectlite.Value.IsNil" 0) ReflectliteValue.isNil #[.agg #[.pointer (some ⟨6, 156, none⟩), .pointer (some a), .int .u64 150]]).run Tryz.prog W = .ok (.bool false) W := by
 rw [rlm]
 simp only [Sem.run_bind, Tryz.partsPE, Result.andThen]
 simp [ReflectliteValue.isNil, loadVar, isAgg, underlying, Tryz.underlying156, ha, Result.andThen]
theorem Tryz.methodElem (h : Value) (n : Nat) (w : World) : (Go.method (n + 1) 272 (.agg #[h]) "Elem").run Tryz.prog w = .ok (267, .agg #[h]) w := by kernel_rfl
theorem Tryz.methodImplements (h : Value) (n : Nat) (w : World) : (Go.method (n + 1) 272 (.agg #[h]) "Implements").run Tryz.prog w = .ok (268, .agg #[h]) w := by kernel_rfl
theorem Tryz.methodAssignableTo (h : Value) (n : Nat) (w : World) : (Go.method (n + 1) 272 (.agg #[h]) "AssignableTo").run Tryz.prog w = .ok (265, .agg #[h]) w := by kernel_rfl
theorem Tryz.elemPE (w : World) : (ReflectliteType.method ReflectliteType.elem #[.agg #[.pointer (some ⟨6, 156, none⟩)]]).run Tryz.prog w = .ok (.iface 272 (.agg #[.pointer (some ⟨6, 129, none⟩)])) w := by kernel_rfl
theorem Tryz.implementsE (w : World) : (ReflectliteType.relation "Implements" ReflectliteType.implements_ #[.agg #[.pointer (some ⟨6, 129, none⟩)], .iface 272 (.agg #[.pointer (some ⟨6, 54, none⟩)])]).run Tryz.prog w = .ok (.bool true) w := by kernel_rfl
theorem Tryz.typeOfE (v : Value) (w : World) : (ReflectliteType.typeOf #[.iface 129 v]).run Tryz.prog w = .ok (.iface 272 (.agg #[.pointer (some ⟨6, 129, none⟩)])) w := by kernel_rfl
theorem Tryz.assignableE (w : World) : (ReflectliteType.relation "AssignableTo" ReflectliteType.assignableTo #[.agg #[.pointer (some ⟨6, 129, none⟩)], .iface 272 (.agg #[.pointer (some ⟨6, 129, none⟩)])]).run Tryz.prog w = .ok (.bool true) w := by kernel_rfl
theorem Tryz.valueOfE (n : Int) (w : World) : (ReflectliteValue.unpack (.iface 129 (.int .i64 n))).run Tryz.prog w
  = .ok (.agg #[.pointer (some ⟨6, 129, none⟩), .pointer (some ⟨w.heap.size, 0, none⟩), .int .u64 130]) (w.alloc (.cells #[.int .i64 n] 129)) := by kernel_rfl
theorem Tryz.elemOfPE (w : World) : (Rtype.elem? 156).run Tryz.prog w = .ok (some 129) w := by kernel_rfl
theorem Tryz.mkE (p : Addr) (w : World) : (ReflectliteValue.mk 129 p ReflectliteValue.flagAddr).run Tryz.prog w = .ok (.agg #[.pointer (some ⟨6, 129, none⟩), .pointer (some p), .int .u64 386]) w := by kernel_rfl
theorem Tryz.elemVPE (a p : Addr) (W : World) (ha : W.cell? a = some (.pointer (some p))) :
  (ReflectliteValue.method (ReflectliteValue.valueError "reflectlite.Value.Elem" 0) ReflectliteValue.elem #[.agg #[.pointer (some ⟨6, 156, none⟩), .pointer (some a), .int .u64 150]]).run Tryz.prog W
   = .ok (.agg #[.pointer (some ⟨6, 129, none⟩), .pointer (some p), .int .u64 386]) W := by
 rw [rlm]
 simp only [Sem.run_bind, Tryz.partsPE, Result.andThen]
 simp [ReflectliteValue.elem, loadVar, isAgg, underlying, Tryz.underlying156, ha, Result.andThen, Tryz.elemOfPE, Tryz.mkE]
theorem rls (v x : Value) : ReflectliteValue.set #[v, x] = (do
  let (some (dst, a, fl), some (src, b, _)) := (← ReflectliteValue.parts v, ← ReflectliteValue.parts x)
   | unsupported (.noEntry "extern/(internal/reflectlite.Value).Set.zeroValue")
  if fl / ReflectliteValue.flagAddr % 2 == 0 then unsupported (.noEntry "extern/(internal/reflectlite.Value).Set.unaddressable")
  let val ← loadVar src b
  if ← Rtype.directlyAssignable dst src then storeVar dst a val
  else if ← Rtype.implements dst src then
   if (← Rtype.kind src) == 20 then
    match val with
    | .nilIface => unsupported (.noEntry "extern/reflectlite: a nil value of one interface type handed on as a value of another")
    | _ => storeVar dst a val
   else storeVar dst a (.iface src val)
  else panicString ("reflectlite.Set: value of type " ++ (← Rtype.spelt src) ++ " is not assignable to type " ++ (← Rtype.spelt dst))
  pure (.tuple #[])) := rfl
theorem Tryz.partsEa (a : Addr) (w : World) : (ReflectliteValue.parts (.agg #[.pointer (some ⟨6, 129, none⟩), .pointer (some a), .int .u64 386])).run Tryz.prog w = .ok (some (129, a, 386)) w := by kernel_rfl
theorem Tryz.partsE (a : Addr) (w : World) : (ReflectliteValue.parts (.agg #[.pointer (some ⟨6, 129, none⟩), .pointer (some a), .int .u64 130])).run Tryz.prog w = .ok (some (129, a, 130)) w := by kernel_rfl
theorem Tryz.directE (w : World) : (Rtype.directlyAssignable 129 129).run Tryz.prog w = .ok true w := by kernel_rfl
theorem Tryz.setE (ta b : Addr) (n : Int) (old : Value) (W : World) (hb : W.cell? b = some (.int .i64 n)) (ht : W.cell? ta = some old) (hf : W.frozen? ta = false) :
  (ReflectliteValue.set #[.agg #[.pointer (some ⟨6, 129, none⟩), .pointer (some ta), .int .u64 386], .agg #[.pointer (some ⟨6, 129, none⟩), .pointer (some b), .int .u64 130]]).run Tryz.prog W
   = .ok (.tuple #[]) (W.setCell ta (.int .i64 n)) := by
 rw [rls]
 simp only [Sem.run_bind, Tryz.partsEa, Tryz.partsE, Result.andThen]
 simp [ReflectliteValue.flagAddr, loadVar, isAgg, underlying, Tryz.underlying129, hb, Result.andThen, Tryz.directE, storeVar, Value.cells, storeCells, Addr.add]
 rw [run_store Tryz.prog W ta _ _ (by rfl)]
 simp [ht, hf]
set_option maxHeartbeats 4000000 in
theorem as_hit (n : Int) (t : Addr) (old : Value) (w : World) (hg : LaidW w) (ht0 : w.cell? t = some old) (hf0 : w.frozen? t = false) :
  Calls Tryz.prog 68 #[.iface 129 (.int .i64 n), .iface 156 (.pointer (some t))] w fun ev w' => ev = .returned (.bool true) ∧ w' = ((((w.alloc (.cells #[.pointer (some t)] 156)).alloc (.cells #[.pointer (some ⟨6, 156, none⟩), .pointer (some ⟨w.heap.size, 0, none⟩), .int .u64 150] 229)).alloc (.cells #[.pointer (some ⟨6, 156, none⟩), .pointer (some ⟨w.heap.size, 0, none⟩), .int .u64 150] 229)).alloc (.cells #[.int .i64 n] 129)).setCell t (.int .i64 n) := by
 have h6 := @run_callFunc_extern Tryz.prog 132 _ (fun args => ReflectliteValue.unpack (args.getD 0 (.tuple #[]))) Tryz.func132 (by kernel_rfl) (by kernel_rfl) (by kernel_rfl) (by kernel_rfl)
 have h7 := @run_callFunc_extern Tryz.prog 133 _ (ReflectliteValue.methodAny (ReflectliteValue.valueError "reflectlite.Value.Type" 0) (fun t _ _ _ => ReflectliteType.toType t)) Tryz.func133 (by kernel_rfl) (by kernel_rfl) (by kernel_rfl) (by kernel_rfl)
 have h8 := @run_callFunc_extern Tryz.prog 134 _ (ReflectliteValue.method (ReflectliteValue.valueError "reflectlite.Value.IsNil" 0) ReflectliteValue.isNil) Tryz.func134 (by kernel_rfl) (by kernel_rfl) (by kernel_rfl) (by kernel_rfl)
 have h27 := @run_callFunc_extern Tryz.prog 254 _ (ReflectliteType.abiMethod fun t => do pure (.int .u8 (← Rtype.kind t))) Tryz.func254 (by kernel_rfl) (by kernel_rfl) (by kernel_rfl) (by kernel_rfl)
 have h37 := @run_callFunc_extern Tryz.prog 267 _ (ReflectliteType.method ReflectliteType.elem) Tryz.func267 (by kernel_rfl) (by kernel_rfl) (by kernel_rfl) (by kernel_rfl)
 have h38 := @run_callFunc_extern Tryz.prog 268 _ (ReflectliteType.relation "Implements" ReflectliteType.implements_) Tryz.func268 (by kernel_rfl) (by kernel_rfl) (by kernel_rfl) (by kernel_rfl)
 have h10 := @run_callFunc_extern Tryz.prog 178 _ ReflectliteType.typeOf Tryz.func178 (by kernel_rfl) (by kernel_rfl) (by kernel_rfl) (by kernel_rfl)
 have h35 := @run_callFunc_extern Tryz.prog 265 _ (ReflectliteType.relation "AssignableTo" ReflectliteType.assignableTo) Tryz.func265 (by kernel_rfl) (by kernel_rfl) (by kernel_rfl) (by kernel_rfl)
 have h11 := @run_callFunc_extern Tryz.prog 179 _ (ReflectliteValue.method (ReflectliteValue.valueError "reflectlite.Value.Elem" 0) ReflectliteValue.elem) Tryz.func179 (by kernel_rfl) (by kernel_rfl) (by kernel_rfl) (by kernel_rfl)
 have h12 := @run_callFunc_extern Tryz.prog 180 _ ReflectliteValue.set Tryz.func180 (by kernel_rfl) (by kernel_rfl) (by kernel_rfl) (by kernel_rfl)
 have tO := Tryz.typeOfE
 have mA := Tryz.methodAssignableTo
 have a25 := Tryz.assignableE
 have v25 := Tryz.valueOfE
 have f6 := Tryz.valueOfPE
 have f7 := Tryz.typePE
 have mK := Tryz.methodKind
 have mE := Tryz.methodElem
 have mI := Tryz.methodImplements
 have k27 := Tryz.kindPE
 have k25 := Tryz.kindE
 have e27 := Tryz.elemPE
 have i25 := Tryz.implementsE
 have n8 := Tryz.isNilPE ⟨w.heap.size, 0, none⟩ t ((w.alloc (.cells #[.pointer (some t)] 156)).alloc (.cells #[.pointer (some ⟨6, 156, none⟩), .pointer (some ⟨w.heap.size, 0, none⟩), .int .u64 150] 229)) (by simp)
 have hlt := hg.lt
 have hg2 : ((w.alloc (.cells #[.pointer (some t)] 156)).alloc (.cells #[.pointer (some ⟨6, 156, none⟩), .pointer (some ⟨w.heap.size, 0, none⟩), .int .u64 150] 229)).cell? ⟨0, 0, none⟩ = some (.iface 272 (.agg #[.pointer (some ⟨6, 54, none⟩)])) := by
  rw [World.cell?_alloc_lt _ _ ⟨0, 0, none⟩ (by first | (simp; done) | (simp; omega)), World.cell?_alloc_lt _ _ ⟨0, 0, none⟩ hlt]; exact hg
 have htl : t.block < w.heap.size := by
  rcases Nat.lt_or_ge t.block w.heap.size with h | h
  ·exact h
  ·simp [World.cell?, Array.getElem?_eq_none h] at ht0
 have el := Tryz.elemVPE ⟨w.heap.size, 0, none⟩ t (((w.alloc (.cells #[.pointer (some t)] 156)).alloc (.cells #[.pointer (some ⟨6, 156, none⟩), .pointer (some ⟨w.heap.size, 0, none⟩), .int .u64 150] 229)).alloc (.cells #[.pointer (some ⟨6, 156, none⟩), .pointer (some ⟨w.heap.size, 0, none⟩), .int .u64 150] 229)) (by rw [World.cell?_alloc_lt _ _ ⟨w.heap.size, 0, none⟩ (by simp; omega)]; simp)
 have st := Tryz.setE t ⟨w.heap.size + 1 + 1 + 1, 0, none⟩ n old ((((w.alloc (.cells #[.pointer (some t)] 156)).alloc (.cells #[.pointer (some ⟨6, 156, none⟩), .pointer (some ⟨w.heap.size, 0, none⟩), .int .u64 150] 229)).alloc (.cells #[.pointer (some ⟨6, 156, none⟩), .pointer (some ⟨w.heap.size, 0, none⟩), .int .u64 150] 229)).alloc (.cells #[.int .i64 n] 129))
  (by rw [World.cell?_alloc_at _ _ _ _ (by simp)]; rfl)
  (by rw [World.cell?_alloc_lt _ _ t (by simp; omega), World.cell?_alloc_lt _ _ t (by simp; omega), World.cell?_alloc_lt _ _ t (by simp; omega), World.cell?_alloc_lt _ _ t htl]; exact ht0)
  (by rw [World.frozen?_alloc_old _ _ t (by simp; omega), World.frozen?_alloc_old _ _ t (by simp; omega), World.frozen?_alloc_old _ _ t (by simp; omega), World.frozen?_alloc_old _ _ t (Nat.ne_of_lt htl)]; exact hf0)
 clear hg
 go_enter Tryz.func68, Tryz.ntmps68
 go_wp2
 refine wp_loop_rounds 1 ?_
 rw [rounds_succ]
 go_wp2
 go_ret
 exact ⟨rfl, rfl⟩
end Go.Proofs.YthpljlpokmoeeaaGreatDoor
namespace Go.Proofs
open Go.Shelf
def Tryz.lays161_ren : Go.Shelf.Ren := ⟨fun | 161 => 70 | 231 => 137 | 227 => 138 | 233 => 139 | 235 => 140 | 228 => 181 | 197 => 182 | 151 => 183 | 260 => 199 | 152 => 200 | 137 => 211 | 119 => 212 | 224 => 213 | 225 => 214 | 217 => 221 | 266 => 230 | n => n, fun | 9 => 9 | 4 => 4 | 3 => 3 | 5 => 5 | 117 => 241 | 116 => 240 | 0 => 0 | 124 => 244 | 105 => 286 | 21 => 21 | 119 => 311 | 46 => 217 | 139 => 314 | 138 => 313 | n => n, fun | 3 => 3 | 4 => 4 | n => n⟩
theorem Tryz.lays161 : Go.Proofs.Lays.n161 Tryz.prog Tryz.lays161_ren := {
 mixed := by kernel_rfl
 f119 := Tryz.func212.trans (congrArg some (by kernel_rfl))
 f137 := Tryz.func211.trans (congrArg some (by kernel_rfl))
 f151 := Tryz.func183.trans (congrArg some (by kernel_rfl))
 f152 := Tryz.func200.trans (congrArg some (by kernel_rfl))
 f161 := Tryz.func70.trans (congrArg some (by kernel_rfl))
 f197 := Tryz.func182.trans (congrArg some (by kernel_rfl))
 f217 := Tryz.func221.trans (congrArg some (by kernel_rfl))
 f224 := Tryz.func213.trans (congrArg some (by kernel_rfl))
 f225 := Tryz.func214.trans (congrArg some (by kernel_rfl))
 f227 := Tryz.func138.trans (congrArg some (by kernel_rfl))
 f228 := Tryz.func181.trans (congrArg some (by kernel_rfl))
 f231 := Tryz.func137.trans (congrArg some (by kernel_rfl))
 f233 := Tryz.func139.trans (congrArg some (by kernel_rfl))
 f235 := Tryz.func140.trans (congrArg some (by kernel_rfl))
 f260 := Tryz.func199.trans (congrArg some (by kernel_rfl))
 f266 := Tryz.func230.trans (congrArg some (by kernel_rfl))
 t0 := Tryz.underlying0
 a0 := Tryz.isAgg0
 z0 := Tryz.sizeOf0
 v0 := Tryz.zeroValue0
 t3 := Tryz.underlying3
 a3 := Tryz.isAgg3
 z3 := Tryz.sizeOf3
 v3 := Tryz.zeroValue3
 t4 := Tryz.underlying4
 a4 := Tryz.isAgg4
 z4 := Tryz.sizeOf4
 v4 := Tryz.zeroValue4
 t5 := Tryz.underlying5
 a5 := Tryz.isAgg5
 z5 := Tryz.sizeOf5
 v5 := Tryz.zeroValue5
 t9 := Tryz.underlying9
 a9 := Tryz.isAgg9
 z9 := Tryz.sizeOf9
 v9 := Tryz.zeroValue9
 t21 := Tryz.underlying21
 a21 := Tryz.isAgg21
 z21 := Tryz.sizeOf21
 v21 := Tryz.zeroValue21
 t46 := Tryz.underlying217
 a46 := Tryz.isAgg217
 z46 := Tryz.sizeOf217
 v46 := Tryz.zeroValue217
 t105 := Tryz.underlying286
 a105 := Tryz.isAgg286
 z105 := Tryz.sizeOf286
 v105 := Tryz.zeroValue286
 t116 := Tryz.underlying240
 a116 := Tryz.isAgg240
 z116 := Tryz.sizeOf240
 t117 := Tryz.underlying241
 a117 := Tryz.isAgg241
 z117 := Tryz.sizeOf241
 v117 := Tryz.zeroValue241
 t119 := Tryz.underlying311
 a119 := Tryz.isAgg311
 z119 := Tryz.sizeOf311
 t124 := Tryz.underlying244
 a124 := Tryz.isAgg244
 z124 := Tryz.sizeOf244
 v124 := Tryz.zeroValue244
 t138 := Tryz.underlying313
 a138 := Tryz.isAgg313
 z138 := Tryz.sizeOf313
 v138 := Tryz.zeroValue313
 t139 := Tryz.underlying314
 a139 := Tryz.isAgg314
 z139 := Tryz.sizeOf314
 v139 := Tryz.zeroValue314
 g3 := by kernel_rfl
 g4 := by kernel_rfl }
def Tryz.lays134_ren : Go.Shelf.Ren := ⟨fun | 134 => 198 | 129 => 210 | n => n, fun | 53 => 138 | 3 => 3 | 4 => 4 | 46 => 217 | 5 => 5 | 9 => 9 | n => n, fun | n => n⟩
theorem Tryz.lays134 : Go.Proofs.Lays.n134 Tryz.prog Tryz.lays134_ren := {
 mixed := by kernel_rfl
 f129 := Tryz.func210.trans (congrArg some (by kernel_rfl))
 f134 := Tryz.func198.trans (congrArg some (by kernel_rfl))
 t3 := Tryz.underlying3
 a3 := Tryz.isAgg3
 z3 := Tryz.sizeOf3
 v3 := Tryz.zeroValue3
 t4 := Tryz.underlying4
 a4 := Tryz.isAgg4
 z4 := Tryz.sizeOf4
 v4 := Tryz.zeroValue4
 t5 := Tryz.underlying5
 a5 := Tryz.isAgg5
 z5 := Tryz.sizeOf5
 v5 := Tryz.zeroValue5
 t9 := Tryz.underlying9
 a9 := Tryz.isAgg9
 z9 := Tryz.sizeOf9
 v9 := Tryz.zeroValue9
 t46 := Tryz.underlying217
 a46 := Tryz.isAgg217
 z46 := Tryz.sizeOf217
 v46 := Tryz.zeroValue217
 t53 := Tryz.underlying138
 a53 := Tryz.isAgg138
 z53 := Tryz.sizeOf138
 v53 := Tryz.zeroValue138 }
theorem Tryz.bits_LeadingZeros64 (x : Int) (w : World) (h0 : 0 ≤ x) (h1 : x ≤ 18446744073709551615) :
  Calls Tryz.prog 198 #[.int .u64 x] w fun e w' => e = .returned (.int .i64 (64 - (Lib.bitLen x.toNat : Int))) ∧ w' = w := Any.bits_LeadingZeros64 Tryz.lays134 x w h0 h1
def Tryz.lays264_ren : Go.Shelf.Ren := ⟨fun | 264 => 171 | n => n, fun | 53 => 138 | 46 => 217 | n => n, fun | n => n⟩
theorem Tryz.lays264 : Go.Proofs.Lays.n264 Tryz.prog Tryz.lays264_ren := {
 mixed := by kernel_rfl
 f264 := Tryz.func171.trans (congrArg some (by kernel_rfl))
 t46 := Tryz.underlying217
 a46 := Tryz.isAgg217
 z46 := Tryz.sizeOf217
 v46 := Tryz.zeroValue217
 t53 := Tryz.underlying138
 a53 := Tryz.isAgg138
 z53 := Tryz.sizeOf138
 v53 := Tryz.zeroValue138 }
open Go.RowKit Go.Lib in
theorem Tryz.bits_Mul64 (x y : Nat) (hx : x < 18446744073709551616) (hy : y < 18446744073709551616) (w : World) :
  Calls Tryz.prog 171 #[.int .u64 x, .int .u64 y] w fun e w' => e = .returned (.tuple #[.int .u64 ((x * y / 18446744073709551616 : Nat) : Int), .int .u64 ((x * y % 18446744073709551616 : Nat) : Int)]) ∧ w' = w := Any.bits_Mul64 Tryz.lays264 x y hx hy w
end Go.Proofs
namespace Go.Proofs.YthpljlpokmoeeaaGreatDoor
open Go.RowKit
theorem mul64 (x y : Int) (hx : 0 ≤ x) (hx1 : x < 18446744073709551616) (hy : 0 ≤ y) (hy1 : y < 18446744073709551616) (w : World) :
  Calls Tryz.prog 171 #[.int .u64 x, .int .u64 y] w fun e w' => e = .returned (.tuple #[.int .u64 (x * y / 18446744073709551616), .int .u64 (x * y % 18446744073709551616)]) ∧ w = w' := by
 obtain ⟨x, rfl⟩ := Int.eq_ofNat_of_zero_le hx
 obtain ⟨y, rfl⟩ := Int.eq_ofNat_of_zero_le hy
 refine (Go.Proofs.Tryz.bits_Mul64 x y (by omega) (by omega) w).mono ?_
 rintro e w' ⟨rfl, rfl⟩
 refine ⟨?_, rfl⟩
 have e1 : ((x * y / 18446744073709551616 : Nat) : Int) = (x : Int) * y / 18446744073709551616 := by simp
 have e2 : ((x * y % 18446744073709551616 : Nat) : Int) = (x : Int) * y % 18446744073709551616 := by simp
 rw [e1, e2]
theorem lz64 (x : Int) (h0 : 0 ≤ x) (h1 : x < 18446744073709551616) (w : World) :
  Calls Tryz.prog 198 #[.int .u64 x] w fun e w' => e = .returned (.int .i64 (64 - (Lib.bitLen x.toNat : Int))) ∧ w = w' := by
 refine (Go.Proofs.Tryz.bits_LeadingZeros64 x w h0 (by omega)).mono ?_
 rintro e w' ⟨rfl, rfl⟩
 exact ⟨rfl, rfl⟩
end Go.Proofs.YthpljlpokmoeeaaGreatDoor
namespace Go.Proofs.YthpljlpokmoeeaaGreatDoor
open Go.RowKit
theorem ret_eq {a b : Value} (h : a = b) : Ending.returned a = Ending.returned b := by rw [h]
theorem bp_ret {P : Program} {fn : Func} {R : Ending → World → Prop} {a : Act} {w : World} (h : ∃ v, (results fn a.tmps).run P w = .ok v w ∧ R (.returned v) w) (hd : a.defers = []) : bodyPost P fn R .ret a w := ⟨hd, h⟩
theorem below_drewN (B : Nat) (w : World) (n : Nat) : Below B w (w.drewN n) := ⟨rfl, rfl, rfl, Nat.le_refl _, fun _ _ => rfl⟩
def in64 (v : Int) : Prop := -9223372036854775808 ≤ v ∧ v < 9223372036854775808
def inU64 (v : Int) : Prop := 0 ≤ v ∧ v < 18446744073709551616
def in128 (v : Int) : Prop := -170141183460469231731687303715884105728 ≤ v ∧ v < 170141183460469231731687303715884105728
instance (v : Int) : Decidable (in64 v) := inferInstanceAs (Decidable (_ ∧ _))
instance (v : Int) : Decidable (inU64 v) := inferInstanceAs (Decidable (_ ∧ _))
instance (v : Int) : Decidable (in128 v) := inferInstanceAs (Decidable (_ ∧ _))
def wv (v : Int) : Value := .agg #[.int .i64 (v / 18446744073709551616), .int .u64 (v % 18446744073709551616)]
theorem wv_of {v h l : Int} (h1 : h = v / 18446744073709551616) (h2 : l = v % 18446744073709551616) : Value.agg #[.int .i64 h, .int .u64 l] = wv v := by
 unfold wv; rw [h1, h2]
theorem wv_hl (h l : Int) (h0 : 0 ≤ l) (h1 : l < 18446744073709551616) : Value.agg #[.int .i64 h, .int .u64 l] = wv (h * 18446744073709551616 + l) :=
 wv_of (by omega) (by omega)
theorem mul_parts (a b : Int) : a % 18446744073709551616 * (b % 18446744073709551616) = a * b - (a / 18446744073709551616 * (b % 18446744073709551616) + a % 18446744073709551616 * (b / 18446744073709551616) + a / 18446744073709551616 * (b / 18446744073709551616) * 18446744073709551616) * 18446744073709551616 := by
 have h1 := Int.mul_ediv_add_emod a 18446744073709551616
 have h2 := Int.mul_ediv_add_emod b 18446744073709551616
 generalize a % 18446744073709551616 = ra at *
 generalize b % 18446744073709551616 = rb at *
 generalize a / 18446744073709551616 = qa at *
 generalize b / 18446744073709551616 = qb at *
 subst h1 h2
 grind
theorem mul_bound {a b A B : Int} (ha : -A ≤ a) (ha' : a ≤ A) (hb : -B ≤ b) (hb' : b ≤ B) : -(A * B) ≤ a * b ∧ a * b ≤ A * B := by
 have p1 : 0 ≤ (A - a) * (B - b) := Int.mul_nonneg (by omega) (by omega)
 have p2 : 0 ≤ (A + a) * (B + b) := Int.mul_nonneg (by omega) (by omega)
 have p3 : 0 ≤ (A - a) * (B + b) := Int.mul_nonneg (by omega) (by omega)
 have p4 : 0 ≤ (A + a) * (B - b) := Int.mul_nonneg (by omega) (by omega)
 constructor <;> grind
theorem mul_in128 {a b : Int} (ha : in64 a) (hb : in64 b) : in128 (a * b) := by
 have h := mul_bound (A := 9223372036854775808) (B := 9223372036854775808) ha.1 (Int.le_of_lt ha.2) hb.1 (Int.le_of_lt hb.2)
 unfold in128; omega
theorem wv_open (x : Int) (hx : in128 x) : ∃ h l : Int, wv x = .agg #[.int .i64 h, .int .u64 l] ∧ x = h * 18446744073709551616 + l ∧ -9223372036854775808 ≤ h ∧ h < 9223372036854775808 ∧ 0 ≤ l ∧ l < 18446744073709551616 := by
 unfold in128 at hx
 exact ⟨_, _, rfl, by omega, by omega, by omega, by omega, by omega⟩
theorem bcell {W w1 : World} (hb : Below W.heap.size W w1) : (∀ b o, b < W.heap.size → w1.cell? ⟨b, o, none⟩ = W.cell? ⟨b, o, none⟩) ∧ (∀ b o, b < W.heap.size → w1.frozen? ⟨b, o, none⟩ = W.frozen? ⟨b, o, none⟩) :=
 ⟨fun b o h => hb.cell (p := ⟨b, o, none⟩) h, fun b o h => hb.frozen (p := ⟨b, o, none⟩) h⟩
end Go.Proofs.YthpljlpokmoeeaaGreatDoor
namespace Go.Proofs.YthpljlpokmoeeaaGreatDoor
theorem kn_exit {Y u d q r : Int} (hY : 0 < Y) (hq : q * (Y / 4294967296) + r = u) (hQ : (u * 4294967296 + d) / Y ≤ q) (hc : q * (Y % 4294967296) ≤ 4294967296 * r + d) : q = (u * 4294967296 + d) / Y := by
 have e : q * Y = q * (Y / 4294967296) * 4294967296 + q * (Y % 4294967296) := by
  have h := Int.mul_ediv_add_emod Y 4294967296
  generalize Y / 4294967296 = y1 at *
  generalize Y % 4294967296 = y0 at *
  subst h; grind
 have h2 : q ≤ (u * 4294967296 + d) / Y := Int.le_ediv_of_mul_le hY (by omega)
 omega
theorem kn_first {Y u d : Int} (hY : 9223372036854775808 ≤ Y) (hY1 : Y < 18446744073709551616) (hu : 0 ≤ u) (huY : u < Y) (hd : 0 ≤ d) (hd1 : d < 4294967296) :
  u / (Y / 4294967296) * (Y / 4294967296) + (u - u / (Y / 4294967296) * (Y / 4294967296)) = u ∧ 0 ≤ u - u / (Y / 4294967296) * (Y / 4294967296) ∧ u - u / (Y / 4294967296) * (Y / 4294967296) < 4294967296 ∧ (u * 4294967296 + d) / Y ≤ u / (Y / 4294967296) ∧ u / (Y / 4294967296) ≤ 4294967297 ∧ 0 ≤ u / (Y / 4294967296) := by
 have h1 : 2147483648 ≤ Y / 4294967296 := by omega
 have h2 : Y / 4294967296 < 4294967296 := by omega
 have e := Int.mul_ediv_add_emod u (Y / 4294967296)
 have e0 := Int.emod_nonneg u (b := Y / 4294967296) (by omega)
 have e1 := Int.emod_lt_of_pos u (b := Y / 4294967296) (by omega)
 have c := Int.mul_comm (Y / 4294967296) (u / (Y / 4294967296))
 have hQ0 : 0 ≤ (u * 4294967296 + d) / Y := Int.ediv_nonneg (by omega) (by omega)
 have hQ : (u * 4294967296 + d) / Y * Y ≤ u * 4294967296 + d := Int.ediv_mul_le _ (by omega)
 refine ⟨by omega, by omega, by omega, ?_, ?_, Int.ediv_nonneg hu (by omega)⟩
 ·refine Int.le_ediv_of_mul_le (by omega) ?_
  generalize (u * 4294967296 + d) / Y = Q at *
  have : Q * Y = Q * (Y / 4294967296) * 4294967296 + Q * (Y % 4294967296) := by
   have h := Int.mul_ediv_add_emod Y 4294967296
   generalize Y / 4294967296 = y1 at *
   generalize Y % 4294967296 = y0 at *
   subst h; grind
  have : 0 ≤ Q * (Y % 4294967296) := Int.mul_nonneg hQ0 (by omega)
  omega
 ·have : u / (Y / 4294967296) < 4294967298 := by
   refine Int.ediv_lt_of_lt_mul (by omega) ?_
   omega
  omega
theorem kn_step {Y u d q r : Int} (hY : 9223372036854775808 ≤ Y) (huY : u < Y) (hd1 : d < 4294967296) (hq : q * (Y / 4294967296) + r = u) (hc : 4294967296 ≤ q ∨ 4294967296 * r + d < q * (Y % 4294967296)) : (u * 4294967296 + d) / Y ≤ q - 1 := by
 have : (u * 4294967296 + d) / Y < q := by
  rcases hc with hc | hc
  ·have : (u * 4294967296 + d) / Y < 4294967296 := Int.ediv_lt_of_lt_mul (by omega) (by omega)
   omega
  ·refine Int.ediv_lt_of_lt_mul (by omega) ?_
   have e : q * Y = q * (Y / 4294967296) * 4294967296 + q * (Y % 4294967296) := by
    have h := Int.mul_ediv_add_emod Y 4294967296
    generalize Y / 4294967296 = y1 at *
    generalize Y % 4294967296 = y0 at *
    subst h; grind
   omega
 omega
theorem kn_break {Y u d q r : Int} (hY : 9223372036854775808 ≤ Y) (hd : 0 ≤ d) (hq : q * (Y / 4294967296) + r = u) (hr : 4294967296 ≤ r) (hQ : (u * 4294967296 + d) / Y ≤ q) (hq1 : q ≤ 4294967296) : q = (u * 4294967296 + d) / Y := by
 refine kn_exit (by omega) hq hQ ?_
 have h1 : q * (Y % 4294967296) ≤ 4294967296 * 4294967295 := by
  have := Int.mul_le_mul hq1 (show Y % 4294967296 ≤ 4294967295 by omega) (by omega) (by omega)
  omega
 omega
theorem kn_small {q y0 : Int} (hq : q < 4294967296) (hq0 : 0 ≤ q) (h0 : 0 ≤ y0) (h1 : y0 < 4294967296) : 0 ≤ q * y0 ∧ q * y0 < 18446744073709551616 := by
 have := Int.mul_le_mul (show q ≤ 4294967295 by omega) (show y0 ≤ 4294967295 by omega) (by omega) (by omega)
 exact ⟨Int.mul_nonneg hq0 h0, by omega⟩
theorem kn_two {Y U L : Int} (hY : 0 < Y) :
  (U * 18446744073709551616 + L) / Y = (U * 4294967296 + L / 4294967296) / Y * 4294967296 + ((U * 4294967296 + L / 4294967296) % Y * 4294967296 + L % 4294967296) / Y ∧
  (U * 18446744073709551616 + L) % Y = ((U * 4294967296 + L / 4294967296) % Y * 4294967296 + L % 4294967296) % Y := by
 have e := Int.mul_ediv_add_emod (U * 4294967296 + L / 4294967296) Y
 generalize (U * 4294967296 + L / 4294967296) % Y = R at *
 generalize (U * 4294967296 + L / 4294967296) / Y = Q at *
 have x : U * 18446744073709551616 + L = (R * 4294967296 + L % 4294967296) + Y * (Q * 4294967296) := by
  have : Y * (Q * 4294967296) = Y * Q * 4294967296 := by grind
  omega
 rw [x, Int.add_mul_ediv_left _ _ (by omega), Int.add_mul_emod_self_left]
 exact ⟨by omega, rfl⟩
theorem bitLenAux_spec : ∀ (f x : Nat), x < 2 ^ f → x < 2 ^ Lib.bitLenAux f x ∧ (x ≠ 0 → 2 ^ (Lib.bitLenAux f x - 1) ≤ x)
 | 0, x, h => by simp at h; subst h; simp [Lib.bitLenAux]
 | f + 1, x, h => by
  unfold Lib.bitLenAux
  split
  ·subst_vars; simp
  ·rename_i hx
   obtain ⟨a, b⟩ := bitLenAux_spec f (x / 2) (by rw [Nat.pow_succ] at h; omega)
   refine ⟨by rw [Nat.add_comm, Nat.pow_succ]; omega, fun _ => ?_⟩
   rw [Nat.add_sub_cancel_left]
   by_cases h1 : x / 2 = 0
   ·have : Lib.bitLenAux f (x / 2) = 0 := by rw [h1]; cases f <;> simp [Lib.bitLenAux]
    rw [this]; simp; omega
   ·have := b h1
    have h0 : 0 < Lib.bitLenAux f (x / 2) := by
     rcases Nat.eq_zero_or_pos (Lib.bitLenAux f (x / 2)) with h0 | h0
     ·rw [h0] at a; omega
     ·exact h0
    have e : 2 ^ Lib.bitLenAux f (x / 2) = 2 ^ (Lib.bitLenAux f (x / 2) - 1) * 2 := by rw [← Nat.pow_succ]; congr 1; omega
    omega
theorem norm_bits (y : Int) (h0 : 0 < y) (h1 : y < 18446744073709551616) : ∃ s : Nat, s < 64 ∧ (64 - (Lib.bitLen y.toNat : Int)) = s ∧ 9223372036854775808 ≤ y * 2 ^ s ∧ y * 2 ^ s < 18446744073709551616 := by
 obtain ⟨n, rfl⟩ := Int.eq_ofNat_of_zero_le (Int.le_of_lt h0)
 obtain ⟨h2, h3⟩ := bitLenAux_spec 64 n (by omega)
 change n < 2 ^ Lib.bitLen n at h2
 change n ≠ 0 → 2 ^ (Lib.bitLen n - 1) ≤ n at h3
 have h3 := h3 (by omega)
 have hb : Lib.bitLen n ≤ 64 := Lib.bitLen_le n 64 (by omega) (by omega)
 have hb1 : 0 < Lib.bitLen n := by
  rcases Nat.eq_zero_or_pos (Lib.bitLen n) with h | h
  ·rw [h] at h2; omega
  ·exact h
 have h5 : (n : Int) * 2 ^ (64 - Lib.bitLen n) = ((n * 2 ^ (64 - Lib.bitLen n) : Nat) : Int) := by rw [Int.natCast_mul, Int.natCast_pow]; rfl
 have l : 9223372036854775808 ≤ n * 2 ^ (64 - Lib.bitLen n) := by
  have e : 9223372036854775808 = 2 ^ (Lib.bitLen n - 1) * 2 ^ (64 - Lib.bitLen n) := by rw [← Nat.pow_add, show Lib.bitLen n - 1 + (64 - Lib.bitLen n) = 63 by omega]
  rw [e]; exact Nat.mul_le_mul_right _ h3
 have u : n * 2 ^ (64 - Lib.bitLen n) < 18446744073709551616 := by
  have e : 18446744073709551616 = 2 ^ Lib.bitLen n * 2 ^ (64 - Lib.bitLen n) := by rw [← Nat.pow_add, show Lib.bitLen n + (64 - Lib.bitLen n) = 64 by omega]
  rw [e]; exact (Nat.mul_lt_mul_right (Nat.two_pow_pos _)).mpr h2
 refine ⟨64 - Lib.bitLen n, by omega, ?_, ?_, ?_⟩
 ·simp only [Int.toNat_natCast]; omega
 ·rw [h5]; generalize n * 2 ^ (64 - Lib.bitLen n) = m at *; omega
 ·rw [h5]; generalize n * 2 ^ (64 - Lib.bitLen n) = m at *; omega
theorem natPow (s : Nat) : ((2 : Int) ^ s) = ((2 ^ s : Nat) : Int) := by rw [Int.natCast_pow]; rfl
theorem or_join (hi lo : Int) (s : Nat) (h0 : 0 ≤ hi) (h1 : hi * 2 ^ s < 18446744073709551616) (l0 : 0 ≤ lo) (l1 : lo < 18446744073709551616) (hs : s ≤ 64) :
  bits .or .u64 (hi * 2 ^ s) (lo / 2 ^ (64 - s)) = (hi * 18446744073709551616 + lo) * 2 ^ s / 18446744073709551616 := by
 obtain ⟨h, rfl⟩ := Int.eq_ofNat_of_zero_le h0
 obtain ⟨l, rfl⟩ := Int.eq_ofNat_of_zero_le l0
 have e1 : (h : Int) * 2 ^ s = ((h * 2 ^ s : Nat) : Int) := by rw [natPow, Int.natCast_mul]
 have e2 : (l : Int) / 2 ^ (64 - s) = ((l / 2 ^ (64 - s) : Nat) : Int) := by rw [natPow, Int.natCast_ediv]
 have b1 : h * 2 ^ s < 18446744073709551616 := by rw [e1] at h1; omega
 have e64 : 18446744073709551616 = 2 ^ (64 - s) * 2 ^ s := by rw [← Nat.pow_add, show 64 - s + s = 64 by omega]
 have b2 : l / 2 ^ (64 - s) < 2 ^ s := by
  rw [Nat.div_lt_iff_lt_mul (Nat.two_pow_pos _)]
  have : l < 18446744073709551616 := by omega
  rw [e64] at this; rw [Nat.mul_comm]; exact this
 have b3 : l / 2 ^ (64 - s) < 18446744073709551616 := Nat.lt_of_le_of_lt (Nat.div_le_self _ _) (by omega)
 rw [e1, e2, bits_or_u64_nat _ _ b1 b3]
 have e3 : h * 2 ^ s ||| l / 2 ^ (64 - s) = h * 2 ^ s + l / 2 ^ (64 - s) := by
  rw [Nat.mul_comm h, ← Nat.two_pow_add_eq_or_of_lt b2]
 have e4 : l * 2 ^ s / 18446744073709551616 = l / 2 ^ (64 - s) := by
  rw [e64, Nat.mul_div_mul_right _ _ (Nat.two_pow_pos _)]
 rw [e3, ← e4]
 have e5 : ((h : Int) * 18446744073709551616 + l) * 2 ^ s = ((h * 2 ^ s : Nat) : Int) * 18446744073709551616 + ((l * 2 ^ s : Nat) : Int) := by
  rw [natPow, Int.natCast_mul, Int.natCast_mul]; grind
 rw [e5]
 omega
end Go.Proofs.YthpljlpokmoeeaaGreatDoor
namespace Go.Proofs.YthpljlpokmoeeaaGreatDoor
open Go.RowKit
theorem div64_low (lo y : Int) (h0 : 0 < y) (h2 : y < 18446744073709551616) (l0 : 0 ≤ lo) (l1 : lo < 18446744073709551616) (w : World) :
  Calls Tryz.prog 170 #[.int .u64 0, .int .u64 lo, .int .u64 y] w fun e w' => e = .returned (.tuple #[.int .u64 (lo / y), .int .u64 (lo % y)]) ∧ Below w.heap.size w w' := by
 have e1 : (y == 0) = false := by simp; omega
 have e2 : decide (y ≤ 0) = false := by simp; omega
 have e4 : ¬ y = 0 := by omega
 go_enter Tryz.func170, Tryz.ntmps170
 go_wp2
 go_quiet (fail)
 go_wp2
 go_ret2
 exact ⟨rfl, below_drewN _ _ _⟩
set_option maxHeartbeats 1000000 in
set_option maxRecDepth 100000 in
theorem div64_high0 (hi lo y q0 r0 : Int) (hq0 : q0 = (hi * 18446744073709551616 + lo) / y) (hr0 : r0 = (hi * 18446744073709551616 + lo) % y) (h0 : 0 < hi) (h1 : hi < y) (h2 : y < 18446744073709551616) (l0 : 0 ≤ lo) (l1 : lo < 18446744073709551616) (w : World) :
  Calls Tryz.prog 170 #[.int .u64 hi, .int .u64 lo, .int .u64 y] w fun e w' => e = .returned (.tuple #[.int .u64 q0, .int .u64 r0]) ∧ Below w.heap.size w w' := by
 have hqH := Lib.hid hq0
 have hrH := Lib.hid hr0
 clear hq0 hr0
 have e1 : (y == 0) = false := by simp; omega
 have e2 : decide (y ≤ hi) = false := by simp; omega
 have e3 : (hi == 0) = false := by simp; omega
 obtain ⟨s, hs, hbl, n1, n2⟩ := norm_bits y (by omega) h2
 have hblH := Lib.hid hbl
 clear hbl
 have hP : (0 : Int) < 2 ^ s := by rw [natPow]; have := Nat.two_pow_pos s; omega
 have hU := or_join hi lo s (by omega) (Int.lt_trans (by exact Int.mul_lt_mul_of_pos_right h1 hP) n2) l0 l1 (by omega)
 have hUH := Lib.hid hU
 clear hU
 have hHi : hi * 2 ^ s < 18446744073709551616 := Int.lt_trans (by exact Int.mul_lt_mul_of_pos_right h1 hP) n2
 have hHi0 : 0 ≤ hi * 2 ^ s := Int.mul_nonneg (by omega) (by omega)
 go_enter Tryz.func170, Tryz.ntmps170
 go_upto_region 14 with (go_at_call 198; refine (lz64 y (by omega) (by omega) _).mono ?_; rintro e w' ⟨rfl, rfl⟩)
 go_cut [2, 8, 9, 10, 11, 13, 14] (fun v2 v8 v9 v10 v11 v13 v14 wc => v2 = .int .u64 (y * 2 ^ s) ∧ v8 = .int .u64 (s : Int) ∧ v9 = .int .u64 (y * 2 ^ s / 4294967296) ∧ v10 = .int .u64 (y * 2 ^ s % 4294967296) ∧ v11 = .int .u64 ((hi * 18446744073709551616 + lo) * 2 ^ s / 18446744073709551616) ∧ v13 = .int .u64 (lo * 2 ^ s % 18446744073709551616 / 4294967296) ∧ v14 = .int .u64 (lo * 2 ^ s % 18446744073709551616 % 4294967296) ∧ w = wc)
 case first =>
  go_wp2
  go_meet
  case rel =>
   have hbl := hblH.out
   have hU := hUH.out
   have m1 : IntKind.u64.wrap (64 - ↑(Lib.bitLen y.toNat)) = (s : Int) := by rw [hbl, IntKind.wrap_u64]; omega
   have m2 : IntKind.u64.wrap (64 - (s : Int)) = ((64 - s : Nat) : Int) := by rw [IntKind.wrap_u64]; omega
   have m3 : IntKind.u64.wrap (y * 2 ^ s) = y * 2 ^ s := by rw [IntKind.wrap_u64]; exact Int.emod_eq_of_lt (by omega) n2
   have m4 : IntKind.u64.wrap (hi * 2 ^ s) = hi * 2 ^ s := by rw [IntKind.wrap_u64]; exact Int.emod_eq_of_lt hHi0 hHi
   have m5 : min s 64 = s := Nat.min_eq_left (by omega)
   have m6 : min (64 - s) 64 = 64 - s := Nat.min_eq_left (by omega)
   have m7 := Int.emod_nonneg (lo * 2 ^ s) (b := 18446744073709551616) (by omega)
   have m8 := Int.emod_lt_of_pos (lo * 2 ^ s) (b := 18446744073709551616) (by omega)
   rw [m1, m2, Int.toNat_natCast, Int.toNat_natCast, m5, m6, m3, m4, hU, IntKind.wrap_u64, and_low32 _ (by omega) n2, and_low32 _ m7 m8]
   exact ⟨rfl, rfl, rfl, rfl, rfl, rfl, rfl, rfl⟩
 case rest =>
  obtain ⟨rfl, rfl, rfl, rfl, rfl, rfl, rfl, rfl⟩ := hcut
  clear hblH hUH hHi hHi0 e1 e2 e3
  have k1 : (hi * 18446744073709551616 + lo) / y = (hi * 18446744073709551616 + lo) * 2 ^ s / (y * 2 ^ s) := by rw [Int.mul_ediv_mul_of_pos_left _ _ hP]
  have k2 : (hi * 18446744073709551616 + lo) % y = (hi * 18446744073709551616 + lo) * 2 ^ s % (y * 2 ^ s) / 2 ^ s := by rw [Int.mul_comm _ (2 ^ s), Int.mul_comm y, Int.mul_emod_mul_of_pos _ _ hP, Int.mul_ediv_cancel_left _ (by omega)]
  have k3 : (hi * 18446744073709551616 + lo) * 2 ^ s = (hi * 18446744073709551616 + lo) * 2 ^ s / 18446744073709551616 * 18446744073709551616 + lo * 2 ^ s % 18446744073709551616 := by
   have : (hi * 18446744073709551616 + lo) * 2 ^ s = hi * 2 ^ s * 18446744073709551616 + lo * 2 ^ s := by grind
   omega
  have k4 : (hi * 18446744073709551616 + lo) * 2 ^ s / 18446744073709551616 < y * 2 ^ s := by
   refine Int.ediv_lt_of_lt_mul (by omega) ?_
   have : (hi * 18446744073709551616 + lo) * 2 ^ s < y * 18446744073709551616 * 2 ^ s := Int.mul_lt_mul_of_pos_right (by omega) hP
   have e : y * 2 ^ s * 18446744073709551616 = y * 18446744073709551616 * 2 ^ s := by grind
   omega
  have k5 : 0 ≤ (hi * 18446744073709551616 + lo) * 2 ^ s / 18446744073709551616 := Int.ediv_nonneg (Int.mul_nonneg (by omega) (by omega)) (by omega)
  have k6 := Int.emod_nonneg (lo * 2 ^ s) (b := 18446744073709551616) (by omega)
  have k7 := Int.emod_lt_of_pos (lo * 2 ^ s) (b := 18446744073709551616) (by omega)
  have hq0 := hqH.out
  have hr0 := hrH.out
  clear hqH hrH
  rw [k1, k3] at hq0
  rw [k2, k3] at hr0
  clear k1 k2 k3
  generalize y * 2 ^ s = Y at *
  generalize (hi * 18446744073709551616 + lo) * 2 ^ s / 18446744073709551616 = U at *
  generalize lo * 2 ^ s % 18446744073709551616 = L at *
  obtain ⟨t1, t2⟩ := kn_two (Y := Y) (U := U) (L := L) (by omega)
  rw [t1] at hq0
  rw [t2] at hr0
  clear t1 t2
  have d0 : 0 ≤ L / 4294967296 := by omega
  have d1 : L / 4294967296 < 4294967296 := by omega
  have d2 : 0 ≤ L % 4294967296 := by omega
  have d3 : L % 4294967296 < 4294967296 := by omega
  have hqH := Lib.hid hq0
  have hrH := Lib.hid hr0
  clear hq0 hr0 k6 k7
  have hF := Lib.hid (kn_first n1 n2 k5 k4 d0 d1)
  have y1 : 2147483648 ≤ Y / 4294967296 := by omega
  have y2 : Y / 4294967296 < 4294967296 := by omega
  have y3 : 0 ≤ Y % 4294967296 := by omega
  have y4 : Y % 4294967296 < 4294967296 := by omega
  have y5 : (Y / 4294967296 == 0) = false := by simp; omega
  have y6 : ¬ Y / 4294967296 = 0 := by omega
  generalize L / 4294967296 = D1 at *
  generalize L % 4294967296 = D0 at *
  go_upto_block 0 with (fail)
  go_cut [15] (fun v wc => v = .int .u64 ((U * 4294967296 + D1) / Y) ∧ w = wc)
  case first =>
   obtain ⟨g1, g2, g3, g4, g5, g6⟩ := hF.out
   clear hF
   generalize U / (Y / 4294967296) = qi at *
   generalize U - qi * (Y / 4294967296) = ri at *
   have hgH := Lib.hid g1
   clear g1
   go_wp2
   go_loop [15, 16] (fun a b => ∃ q r : Int, a = .int .u64 q ∧ b = .int .u64 r ∧ Hid (q * (Y / 4294967296) + r = U) ∧ 0 ≤ r ∧ r < 4294967296 ∧ (U * 4294967296 + D1) / Y ≤ q ∧ q ≤ 4294967297 ∧ 0 ≤ q) (fun _ b => (4294967296 - intOf b).toNat)
   case atStart =>
    refine ⟨qi, ri, rfl, congrArg (Value.int IntKind.u64) ?_, hgH, g2, g3, g4, g5, g6⟩
    have := hgH.out
    have p0 : 0 ≤ qi * (Y / 4294967296) := Int.mul_nonneg g6 (by omega)
    generalize qi * (Y / 4294967296) = P at *
    rw [IntKind.wrap_u64, IntKind.wrap_u64]
    omega
   case round =>
    clear g2 g3 g4 g5 g6 hgH
    obtain ⟨q, r, rfl, rfl, i1, i2, i3, i4, i5, i6⟩ := hrel
    by_cases c1 : 4294967296 ≤ q
    ·have st := kn_step n1 k4 d1 i1.out (.inl c1)
     have sQ := Lib.hid st
     have q1 : 0 ≤ q - 1 := by omega
     clear st
     have sE : Hid ((q - 1) * (Y / 4294967296) + (r + Y / 4294967296) = U) := by
      have := i1.out
      refine Lib.hid ?_
      generalize Y / 4294967296 = Y1 at *
      grind
     by_cases c2 : 4294967296 ≤ r + Y / 4294967296
     ·go_wp2
      go_meet
      case rel => exact ⟨congrArg (Value.int IntKind.u64) (kn_break n1 d0 sE.out c2 sQ.out (by omega)), rfl⟩
     ·go_wp2
      go_round
      case rel => exact ⟨q - 1, r + Y / 4294967296, rfl, rfl, sE, by omega, by omega, sQ.out, by omega, by omega⟩
      case measure => simp [intOf]; omega
    ·have c1' : q < 4294967296 := by omega
     obtain ⟨b1, b2⟩ := kn_small c1' i6 y3 y4
     by_cases c3 : 4294967296 * r + D1 < q * (Y % 4294967296)
     ·have st := kn_step n1 k4 d1 i1.out (.inr c3)
      have sQ := Lib.hid st
      have q1 : 0 ≤ q - 1 := by
       have : 0 < q := by
        rcases Int.lt_or_le 0 q with h | h
        ·exact h
        ·have : q = 0 := by omega
         rw [this] at c3; omega
       omega
      clear st
      have sE : Hid ((q - 1) * (Y / 4294967296) + (r + Y / 4294967296) = U) := by
       have := i1.out
       refine Lib.hid ?_
       generalize Y / 4294967296 = Y1 at *
       grind
      by_cases c2 : 4294967296 ≤ r + Y / 4294967296
      ·go_wp2
       go_meet
       case rel => exact ⟨congrArg (Value.int IntKind.u64) (kn_break n1 d0 sE.out c2 sQ.out (by omega)), rfl⟩
      ·go_wp2
       go_round
       case rel => exact ⟨q - 1, r + Y / 4294967296, rfl, rfl, sE, by omega, by omega, sQ.out, by omega, by omega⟩
       case measure => simp [intOf]; omega
     ·go_wp2
      go_meet
      case rel => exact ⟨congrArg (Value.int IntKind.u64) (kn_exit (by omega) i1.out i4 (by omega)), rfl⟩
  case rest =>
   obtain ⟨rfl, rfl⟩ := hcut
   clear hF
   go_upto_region 21 with (fail)
   go_cut [17] (fun v wc => v = .int .u64 ((U * 4294967296 + D1) % Y) ∧ w = wc)
   case first =>
    have ee := Lib.hid (Int.mul_ediv_add_emod (U * 4294967296 + D1) Y)
    have el := Lib.hid (Int.emod_lt_of_pos (U * 4294967296 + D1) (b := Y) (by omega))
    have eg := Lib.hid (Int.emod_nonneg (U * 4294967296 + D1) (b := Y) (by omega))
    go_wp2
    go_meet
    case rel =>
     refine ⟨congrArg (Value.int IntKind.u64) ?_, rfl⟩
     have e1 := ee.out
     have e2 := el.out
     have e3 := eg.out
     have e4 : (U * 4294967296 + D1) / Y * Y = Y * ((U * 4294967296 + D1) / Y) := Int.mul_comm _ _
     generalize (U * 4294967296 + D1) % Y = M at *
     simp only [IntKind.wrap_u64, e4]
     generalize Y * ((U * 4294967296 + D1) / Y) = P at *
     omega
   case rest =>
    obtain ⟨rfl, rfl⟩ := hcut
    have v0 := Int.emod_nonneg (U * 4294967296 + D1) (b := Y) (by omega)
    have v1 := Int.emod_lt_of_pos (U * 4294967296 + D1) (b := Y) (by omega)
    have hqq := hqH.out
    have hrr := hrH.out
    clear hqH hrH
    have w0 : 0 ≤ (U * 4294967296 + D1) / Y := Int.ediv_nonneg (by omega) (by omega)
    have w1 : (U * 4294967296 + D1) / Y < 4294967296 := Int.ediv_lt_of_lt_mul (by omega) (by omega)
    generalize (U * 4294967296 + D1) % Y = V at *
    generalize (U * 4294967296 + D1) / Y = Q1 at *
    have hqH := Lib.hid hqq
    have hrH := Lib.hid hrr
    clear hqq hrr
    have hG := Lib.hid (kn_first n1 n2 v0 v1 d2 d3)
    go_upto_block 2 with (fail)
    go_cut [18] (fun v wc => v = .int .u64 ((V * 4294967296 + D0) / Y) ∧ w = wc)
    case first =>
     obtain ⟨g1, g2, g3, g4, g5, g6⟩ := hG.out
     clear hG
     generalize V / (Y / 4294967296) = qi at *
     generalize V - qi * (Y / 4294967296) = ri at *
     have hgH := Lib.hid g1
     clear g1
     go_wp2
     go_loop [18, 16] (fun a b => ∃ q r : Int, a = .int .u64 q ∧ b = .int .u64 r ∧ Hid (q * (Y / 4294967296) + r = V) ∧ 0 ≤ r ∧ r < 4294967296 ∧ (V * 4294967296 + D0) / Y ≤ q ∧ q ≤ 4294967297 ∧ 0 ≤ q) (fun _ b => (4294967296 - intOf b).toNat)
     case atStart =>
      refine ⟨qi, ri, rfl, congrArg (Value.int IntKind.u64) ?_, hgH, g2, g3, g4, g5, g6⟩
      have := hgH.out
      have p0 : 0 ≤ qi * (Y / 4294967296) := Int.mul_nonneg g6 (by omega)
      generalize qi * (Y / 4294967296) = P at *
      rw [IntKind.wrap_u64, IntKind.wrap_u64]
      omega
     case round =>
      clear g2 g3 g4 g5 g6 hgH
      obtain ⟨q, r, rfl, rfl, i1, i2, i3, i4, i5, i6⟩ := hrel
      by_cases c1 : 4294967296 ≤ q
      ·have st := kn_step n1 v1 d3 i1.out (.inl c1)
       have sQ := Lib.hid st
       have q1 : 0 ≤ q - 1 := by omega
       clear st
       have sE : Hid ((q - 1) * (Y / 4294967296) + (r + Y / 4294967296) = V) := by
        have := i1.out
        refine Lib.hid ?_
        generalize Y / 4294967296 = Y1 at *
        grind
       by_cases c2 : 4294967296 ≤ r + Y / 4294967296
       ·go_wp2
        go_meet
        case rel => exact ⟨congrArg (Value.int IntKind.u64) (kn_break n1 d2 sE.out c2 sQ.out (by omega)), rfl⟩
       ·go_wp2
        go_round
        case rel => exact ⟨q - 1, r + Y / 4294967296, rfl, rfl, sE, by omega, by omega, sQ.out, by omega, by omega⟩
        case measure => simp [intOf]; omega
      ·have c1' : q < 4294967296 := by omega
       obtain ⟨b1, b2⟩ := kn_small c1' i6 y3 y4
       by_cases c3 : 4294967296 * r + D0 < q * (Y % 4294967296)
       ·have st := kn_step n1 v1 d3 i1.out (.inr c3)
        have sQ := Lib.hid st
        have q1 : 0 ≤ q - 1 := by
         have : 0 < q := by
          rcases Int.lt_or_le 0 q with h | h
          ·exact h
          ·have : q = 0 := by omega
           rw [this] at c3; omega
         omega
        clear st
        have sE : Hid ((q - 1) * (Y / 4294967296) + (r + Y / 4294967296) = V) := by
         have := i1.out
         refine Lib.hid ?_
         generalize Y / 4294967296 = Y1 at *
         grind
        by_cases c2 : 4294967296 ≤ r + Y / 4294967296
        ·go_wp2
         go_meet
         case rel => exact ⟨congrArg (Value.int IntKind.u64) (kn_break n1 d2 sE.out c2 sQ.out (by omega)), rfl⟩
        ·go_wp2
         go_round
         case rel => exact ⟨q - 1, r + Y / 4294967296, rfl, rfl, sE, by omega, by omega, sQ.out, by omega, by omega⟩
         case measure => simp [intOf]; omega
       ·go_wp2
        go_meet
        case rel => exact ⟨congrArg (Value.int IntKind.u64) (kn_exit (by omega) i1.out i4 (by omega)), rfl⟩
    case rest =>
     obtain ⟨rfl, rfl⟩ := hcut
     clear hG
     have ee := Lib.hid (Int.mul_ediv_add_emod (V * 4294967296 + D0) Y)
     have el := Lib.hid (Int.emod_lt_of_pos (V * 4294967296 + D0) (b := Y) (by omega))
     have eg := Lib.hid (Int.emod_nonneg (V * 4294967296 + D0) (b := Y) (by omega))
     have w2 : 0 ≤ (V * 4294967296 + D0) / Y := Int.ediv_nonneg (by omega) (by omega)
     have w3 : (V * 4294967296 + D0) / Y < 4294967296 := Int.ediv_lt_of_lt_mul (by omega) (by omega)
     have m5 : min s 64 = s := Nat.min_eq_left (by omega)
     have m5H := Lib.hid m5
     clear m5
     go_wp2
     refine bp_ret ⟨?_, ?_, ?_, ?_⟩ rfl; rotate_left
     ·simp [results, Tryz.results170, go_sem]; rfl
     rotate_left
     ·exact Below.refl _ _
     ·have e1 := ee.out
      have e2 := el.out
      have e3 := eg.out
      have e4 : (V * 4294967296 + D0) / Y * Y = Y * ((V * 4294967296 + D0) / Y) := Int.mul_comm _ _
      have hq0 := hqH.out
      have hr0 := hrH.out
      rw [e4, hq0, hr0]
      generalize (V * 4294967296 + D0) % Y = M at *
      generalize Y * ((V * 4294967296 + D0) / Y) = P at *
      have e5 : IntKind.u64.wrap (IntKind.u64.wrap (IntKind.u64.wrap (V * 4294967296) + D0) - IntKind.u64.wrap P) = M := by
       simp only [IntKind.wrap_u64]; omega
      rw [e5]
theorem div64 (hi lo y : Int) (h0 : 0 ≤ hi) (h1 : hi < y) (h2 : y < 18446744073709551616) (l0 : 0 ≤ lo) (l1 : lo < 18446744073709551616) (w : World) :
  Calls Tryz.prog 170 #[.int .u64 hi, .int .u64 lo, .int .u64 y] w fun e w' => e = .returned (.tuple #[.int .u64 ((hi * 18446744073709551616 + lo) / y), .int .u64 ((hi * 18446744073709551616 + lo) % y)]) ∧ Below w.heap.size w w' := by
 rcases Int.lt_or_le 0 hi with h | h
 ·exact div64_high0 hi lo y _ _ rfl rfl h h1 h2 l0 l1 w
 ·obtain rfl : hi = 0 := by omega
  have := div64_low lo y (by omega) h2 l0 l1 w
  rw [Int.zero_mul, Int.zero_add]
  exact this
end Go.Proofs.YthpljlpokmoeeaaGreatDoor
namespace Go.Proofs.YthpljlpokmoeeaaGreatDoor.Mir
open Go Go.RowKit
set_option maxRecDepth 100000
def laidL : List (Nat × Nat × Value) := [(0, 0, .iface 272 (.agg #[.pointer (some ⟨6, 54, none⟩)]))]
theorem laidW_of {w : World} (h : ∀ q ∈ laidL, w.cell? ⟨q.1, q.2.1, none⟩ = some q.2.2) : LaidW w := by
 have := h (0, 0, .iface 272 (.agg #[.pointer (some ⟨6, 54, none⟩)])) (List.mem_singleton.2 rfl)
 exact this
def asS : Sum := asSum 129 156
set_option maxHeartbeats 2000000 in
theorem asS_ok : SumOk Tryz.prog laidL 68 asS := by
 refine as_ok Tryz.func68 (by kernel_rfl) (by kernel_rfl) (fun t w => as_nil t w) (fun n t old w hl ht hf => (as_hit n t old w (laidW_of hl) ht hf).mono ?_)
 rintro e w' ⟨rfl, rfl⟩
 exact ⟨rfl, _, by repeat (first | exact Below.refl _ _ | refine Below.alloc ?_ (by first | (simp; done) | (simp; omega)) _), rfl⟩
def u64B (x : Int) : Bool := decide (0 ≤ x ∧ x < 18446744073709551616)
theorem u64B_iff {x : Int} : u64B x = true ↔ 0 ≤ x ∧ x < 18446744073709551616 := by simp [u64B]
end Go.Proofs.YthpljlpokmoeeaaGreatDoor.Mir
namespace Go.Proofs.YthpljlpokmoeeaaGreatDoor
open Go.RowKit
def pairV (v : Value) (e : Option Int) : Value := .tuple #[v, errV e]
def numV : Option Int → Int
 | none => 0
 | some n => n
end Go.Proofs.YthpljlpokmoeeaaGreatDoor
namespace Go.Proofs.YthpljlpokmoeeaaGreatDoor
open Go.RowKit
theorem wide_Of (a : Int) (ha : in64 a) (w : World) :
  Calls Tryz.prog 172 #[.int .i64 a] w fun e w' => e = .returned (wv a) ∧ Below w.heap.size w w' := by
 unfold in64 at ha
 obtain ⟨h1, h2⟩ := ha
 go_enter Tryz.func172, Tryz.ntmps172
 go_wp2
 refine bp_ret ⟨?_, ?_, ?_, ?_⟩ rfl; rotate_left
 ·simp [results, Tryz.results172, go_sem]; rfl
 rotate_left
 ·exact (Below.refl _ _).alloc (Nat.le_refl _) _
 ·exact ret_eq (wv_of (by omega) (by rw [IntKind.wrap_u64]))
theorem wide_Mul (a b : Int) (ha : in64 a) (hb : in64 b) (w : World) :
  Calls Tryz.prog 112 #[.int .i64 a, .int .i64 b] w fun e w' => e = .returned (wv (a * b)) ∧ Below w.heap.size w w' := by
 have hm := mul_parts a b
 have hp := mul_in128 ha hb
 unfold in64 at ha hb
 unfold in128 at hp
 obtain ⟨a1, a2⟩ := ha
 obtain ⟨b1, b2⟩ := hb
 have hm' := Lib.hid hm
 have hp' := Lib.hid hp
 clear hm hp
 have wa : IntKind.u64.wrap a = a % 18446744073709551616 := IntKind.wrap_u64 a
 have wb : IntKind.u64.wrap b = b % 18446744073709551616 := IntKind.wrap_u64 b
 go_enter Tryz.func112, Tryz.ntmps112
 go_wp2_with (go_at_call 171; refine (mul64 _ _ (by omega) (by omega) (by omega) (by omega) _).mono ?_; rintro e w' ⟨rfl, rfl⟩)
 all_goals
  refine bp_ret ⟨?_, ?_, ?_, ?_⟩ rfl; rotate_left
  ·simp [results, Tryz.results112, go_sem]; rfl
  rotate_left
  ·exact (Below.refl _ _).alloc (Nat.le_refl _) _
  ·
   have hm := hm'.out
   have hp := hp'.out
   clear hm' hp' wa wb
   simp only [IntKind.wrap_u64, wrap64]
   generalize a % 18446744073709551616 * (b % 18446744073709551616) = P at *
   refine ret_eq (wv_of ?_ ?_)
   ·first
    | (rw [show a / 18446744073709551616 = 0 by omega, show b / 18446744073709551616 = 0 by omega] at hm; omega)
    | (rw [show a / 18446744073709551616 = -1 by omega, show b / 18446744073709551616 = 0 by omega] at hm; omega)
    | (rw [show a / 18446744073709551616 = 0 by omega, show b / 18446744073709551616 = -1 by omega] at hm; omega)
    | (rw [show a / 18446744073709551616 = -1 by omega, show b / 18446744073709551616 = -1 by omega] at hm; omega)
   ·generalize (a / 18446744073709551616 * (b % 18446744073709551616) + a % 18446744073709551616 * (b / 18446744073709551616) + a / 18446744073709551616 * (b / 18446744073709551616) * 18446744073709551616) = Q at hm
    omega
end Go.Proofs.YthpljlpokmoeeaaGreatDoor
namespace Go.Proofs.YthpljlpokmoeeaaGreatDoor
open Go.RowKit
end Go.Proofs.YthpljlpokmoeeaaGreatDoor
namespace Go.Proofs.YthpljlpokmoeeaaGreatDoor
open Go.RowKit
theorem i64_wrap64 (x : Int) : IntKind.i64.wrap x = wrap64 x := by
 simp [IntKind.wrap, IntKind.bits, IntKind.signed, wrap64]
 split <;> omega
theorem in64_wrap (x : Int) : in64 (IntKind.i64.wrap x) := by
 rw [i64_wrap64]; unfold in64 wrap64; omega
def fitI (s : Int) : Value := if in64 s then pairV (.int .i64 s) none else pairV (.int .i64 0) (some 2)
theorem fitI_pos {s : Int} (h : in64 s) : fitI s = .tuple #[.int .i64 s, .nilIface] := by unfold fitI; rw [if_pos h]; rfl
theorem fitI_neg {s : Int} (h : ¬ in64 s) : fitI s = .tuple #[.int .i64 0, .iface 129 (.int .i64 2)] := by unfold fitI; rw [if_neg h]; rfl
set_option maxRecDepth 100000 in
theorem wide_Int (x : Int) (hx : in128 x) (w : World) :
  Calls Tryz.prog 113 #[wv x] w fun e w' => e = .returned (fitI x) ∧ Below w.heap.size w w' := by
 obtain ⟨xh, xl, ex, rfl, x1, x2, x3, x4⟩ := wv_open x hx
 rw [ex]
 clear ex hx
 obtain ⟨qh, hq, hOf⟩ : ∃ qh : Int, Hid (qh = IntKind.i64.wrap xl / 18446744073709551616) ∧ ∀ w, Calls Tryz.prog 172 #[.int .i64 (IntKind.i64.wrap xl)] w fun e w' => e = .returned (.agg #[.int .i64 qh, .int .u64 xl]) ∧ Below w.heap.size w w' := by
  refine ⟨_, Lib.hid rfl, fun w => ?_⟩
  have h := wide_Of _ (in64_wrap xl) w
  have e : wv (IntKind.i64.wrap xl) = .agg #[.int .i64 (IntKind.i64.wrap xl / 18446744073709551616), .int .u64 xl] := by
   refine (wv_of rfl ?_).symm
   rw [i64_wrap64]; unfold wrap64; omega
  rw [e] at h
  exact h
 have hB := Lib.hid (And.intro (And.intro x1 x2) (And.intro x3 x4))
 have hOfH := Lib.hid hOf
 clear hOf x1 x2 x3 x4
 by_cases hd : qh = xh
 ·subst hd
  go_enter Tryz.func113, Tryz.ntmps113
  go_wp2_with fail
  go_region_held3 (fun w' => w'.cell? ⟨w.heap.size, 0, none⟩ = some (.int .i64 qh) ∧ w'.cell? ⟨w.heap.size, 1, none⟩ = some (.int .u64 xl))
   (first
    | go_keep
    | (go_split_ands
       refine ⟨?_, ?_⟩
       ·(rw [hb.cell (by simp)]; assumption)
       ·(rw [hb.cell (by simp)]; assumption)))
   ((go_at_call 172; refine (hOfH.out _).mono ?_; rintro e w1 ⟨rfl, hb⟩))
  go_wp2
  refine bp_ret ⟨?_, ?_, ?_, ?_⟩ rfl; rotate_left
  ·(simp [results, Tryz.results113, go_sem, *]; rfl)
  rotate_left
  ·repeat (first | exact Below.refl _ _ | assumption | (refine Below.alloc ?_ (by first | omega | (simp; done) | (simp; omega) | (simp at *; omega)) _) | (refine Below.setCell ?_ (by first | omega | (simp; done) | (simp; omega) | (simp at *; omega)) _) | (refine Below.trans ?_ (below_drewN _ _ _)) | (refine Below.drew ?_) | (refine Below.trans ?_ (Below.mono (by assumption) (by first | omega | (simp; done) | (simp; omega) | (simp at *; omega)))))
  ·have hq := hq.out
   obtain ⟨⟨x1, x2⟩, x3, x4⟩ := hB.out
   simp only [i64_wrap64, wrap64] at hq ⊢
   rw [fitI_pos (by unfold in64; omega)]
   refine ret_eq (congrArg (fun v => Value.tuple #[Value.int .i64 v, .nilIface]) (by omega))
 ·have hd' : (qh == xh) = false := by simpa using hd
  go_enter Tryz.func113, Tryz.ntmps113
  go_wp2_with fail
  go_region_held3 (fun w' => w'.cell? ⟨w.heap.size, 0, none⟩ = some (.int .i64 xh) ∧ w'.cell? ⟨w.heap.size, 1, none⟩ = some (.int .u64 xl))
   (first
    | go_keep
    | (go_split_ands
       refine ⟨?_, ?_⟩
       ·(rw [hb.cell (by simp)]; assumption)
       ·(rw [hb.cell (by simp)]; assumption)))
   ((go_at_call 172; refine (hOfH.out _).mono ?_; rintro e w1 ⟨rfl, hb⟩))
  go_wp2
  refine bp_ret ⟨?_, ?_, ?_, ?_⟩ rfl; rotate_left
  ·(simp [results, Tryz.results113, go_sem, *]; rfl)
  rotate_left
  ·repeat (first | exact Below.refl _ _ | assumption | (refine Below.alloc ?_ (by first | omega | (simp; done) | (simp; omega) | (simp at *; omega)) _) | (refine Below.setCell ?_ (by first | omega | (simp; done) | (simp; omega) | (simp at *; omega)) _) | (refine Below.trans ?_ (below_drewN _ _ _)) | (refine Below.drew ?_) | (refine Below.trans ?_ (Below.mono (by assumption) (by first | omega | (simp; done) | (simp; omega) | (simp at *; omega)))))
  ·have hq := hq.out
   obtain ⟨⟨x1, x2⟩, x3, x4⟩ := hB.out
   simp only [i64_wrap64, wrap64] at hq
   rw [fitI_neg (by unfold in64; omega)]
theorem shr_high (h l : Int) (n : Nat) (h1 : 64 ≤ n) (_x1 : -9223372036854775808 ≤ h) (_x2 : h < 9223372036854775808) (x3 : 0 ≤ l) (x4 : l < 18446744073709551616) :
  (h * 18446744073709551616 + l) / 2 ^ n = h / 2 ^ (n - 64) := by
 have e : (2 : Int) ^ n = 18446744073709551616 * 2 ^ (n - 64) := by
  have : (2 : Int) ^ n = 2 ^ 64 * 2 ^ (n - 64) := by rw [← Int.pow_add]; congr 1; omega
  rw [this]; rfl
 rw [e, ← Int.ediv_ediv_of_nonneg (by omega)]
 congr 1
 omega
theorem shr_top {h : Int} {n : Nat} (x1 : -9223372036854775808 ≤ h) (x2 : h < 9223372036854775808) : h / 9223372036854775808 = h / 2 ^ (n - 64) / 18446744073709551616 := by
 have hp : (0 : Int) < 2 ^ (n - 64) := by rw [natPow]; have := Nat.two_pow_pos (n - 64); omega
 rcases Int.lt_or_le h 0 with hn | hn
 ·have a : h / 2 ^ (n - 64) < 0 := Int.ediv_neg_of_neg_of_pos hn hp
  have b : h ≤ h / 2 ^ (n - 64) := by
   refine Int.le_ediv_of_mul_le hp ?_
   have : (2 : Int) ^ (n - 64) = 1 + (2 ^ (n - 64) - 1) := by omega
   rw [this, Int.mul_add, Int.mul_one]
   have := Int.mul_nonneg (a := -h) (b := 2 ^ (n - 64) - 1) (by omega) (by omega)
   rw [Int.neg_mul] at this
   omega
  omega
 ·have a : 0 ≤ h / 2 ^ (n - 64) := Int.ediv_nonneg hn (by omega)
  have b : h / 2 ^ (n - 64) ≤ h := Int.ediv_le_self _ hn
  omega
theorem or_disj (r t : Int) (k : Nat) (hr : 0 ≤ r) (ht : 0 ≤ t) (h : t < 2 ^ k) (hb : 2 ^ k * r + t < 18446744073709551616) : bits .or .u64 t (2 ^ k * r) = 2 ^ k * r + t := by
 obtain ⟨r, rfl⟩ := Int.eq_ofNat_of_zero_le hr
 obtain ⟨t, rfl⟩ := Int.eq_ofNat_of_zero_le ht
 have h' : t < 2 ^ k := by rw [natPow] at h; omega
 have c1 : (2 : Int) ^ k * r = ((2 ^ k * r : Nat) : Int) := by rw [natPow, Int.natCast_mul]
 rw [c1] at hb ⊢
 have e := Nat.two_pow_add_eq_or_of_lt h' r
 generalize 2 ^ k * r = m at *
 rw [bits_or_u64_nat _ _ (by omega) (by omega), Nat.or_comm, ← e]
 omega
theorem emod_mul_emod' (a b M : Int) : a % M * b % M = a * b % M := by
 have h := Int.mul_ediv_add_emod a M
 generalize a % M = r at *
 generalize a / M = q at *
 subst h
 have : (M * q + r) * b = r * b + M * (q * b) := by grind
 rw [this, Int.add_mul_emod_self_left]
theorem shr_low (h l : Int) (n : Nat) (hn : n < 64) (x3 : 0 ≤ l) (x4 : l < 18446744073709551616) :
  h / 2 ^ n = (h * 18446744073709551616 + l) / 2 ^ n / 18446744073709551616 ∧
  bits .or .u64 (l / 2 ^ n) (IntKind.u64.wrap (IntKind.u64.wrap h * 2 ^ (64 - n))) = (h * 18446744073709551616 + l) / 2 ^ n % 18446744073709551616 := by
 have hP : (0 : Int) < 2 ^ n := by rw [natPow]; have := Nat.two_pow_pos n; omega
 have hR : (0 : Int) < 2 ^ (64 - n) := by rw [natPow]; have := Nat.two_pow_pos (64 - n); omega
 have e64 : (18446744073709551616 : Int) = 2 ^ (64 - n) * 2 ^ n := by
  have : (2 : Int) ^ (64 - n) * 2 ^ n = 2 ^ 64 := by rw [← Int.pow_add]; congr 1; omega
  rw [this]; rfl
 have e1 : (h * 18446744073709551616 + l) / 2 ^ n = h * 2 ^ (64 - n) + l / 2 ^ n := by
  have : h * 18446744073709551616 + l = l + h * 2 ^ (64 - n) * 2 ^ n := by rw [e64]; grind
  rw [this, Int.add_mul_ediv_right _ _ (by omega)]; omega
 have t0 : 0 ≤ l / 2 ^ n := Int.ediv_nonneg x3 (by omega)
 have t1 : l / 2 ^ n < 2 ^ (64 - n) := Int.ediv_lt_of_lt_mul hP (by rw [← e64]; exact x4)
 have m1 := Int.mul_ediv_add_emod h (2 ^ n)
 have m2 := Int.emod_nonneg h (b := 2 ^ n) (by omega)
 have m3 := Int.emod_lt_of_pos h hP
 have e2 : h * 2 ^ (64 - n) + l / 2 ^ n = (2 ^ (64 - n) * (h % 2 ^ n) + l / 2 ^ n) + 18446744073709551616 * (h / 2 ^ n) := by
  rw [e64]; generalize (2 : Int) ^ (64 - n) = R at *; generalize (2 : Int) ^ n = P at *; generalize h / P = q at *; generalize h % P = r at *; subst m1; grind
 have b1 : 2 ^ (64 - n) * (h % 2 ^ n) + l / 2 ^ n < 18446744073709551616 := by
  have := Int.mul_le_mul_of_nonneg_left (show h % 2 ^ n ≤ 2 ^ n - 1 by omega) (show (0 : Int) ≤ 2 ^ (64 - n) by omega)
  rw [Int.mul_sub, ← e64] at this; omega
 have b0 : 0 ≤ 2 ^ (64 - n) * (h % 2 ^ n) := Int.mul_nonneg (by omega) m2
 have w1 : IntKind.u64.wrap (IntKind.u64.wrap h * 2 ^ (64 - n)) = 2 ^ (64 - n) * (h % 2 ^ n) := by
  rw [IntKind.wrap_u64, IntKind.wrap_u64, emod_mul_emod']
  have : h * 2 ^ (64 - n) = 2 ^ (64 - n) * (h % 2 ^ n) + 18446744073709551616 * (h / 2 ^ n) := by omega
  rw [this, Int.add_mul_emod_self_left]
  exact Int.emod_eq_of_lt b0 (by omega)
 refine ⟨?_, ?_⟩
 ·rw [e1, e2, Int.add_mul_ediv_left _ _ (by omega), Int.ediv_eq_zero_of_lt (by omega) b1]; omega
 ·rw [w1, e1, e2, Int.add_mul_emod_self_left, Int.emod_eq_of_lt (by omega) b1]
  exact or_disj _ _ _ m2 t0 t1 b1
def shrR (x n : Int) : Value := if 0 ≤ n ∧ n < 128 then pairV (wv (x / 2 ^ n.toNat)) none else pairV (wv 0) (some 1)
theorem shrR_pos {x n : Int} (h0 : 0 ≤ n) (h : n < 128) : shrR x n = .tuple #[wv (x / 2 ^ n.toNat), .nilIface] := by unfold shrR; rw [if_pos ⟨h0, h⟩]; rfl
theorem shrR_neg {x n : Int} (h : ¬ (0 ≤ n ∧ n < 128)) : shrR x n = .tuple #[.agg #[.int .i64 0, .int .u64 0], .iface 129 (.int .i64 1)] := by unfold shrR; rw [if_neg h]; rfl
theorem wide_Shr_out (x n : Int) (hx : in128 x) (hn : ¬ (0 ≤ n ∧ n < 128)) (w : World) :
  Calls Tryz.prog 169 #[wv x, .int .i64 n] w fun e w' => e = .returned (shrR x n) ∧ Below w.heap.size w w' := by
 rw [shrR_neg hn]
 obtain ⟨xh, xl, ex, rfl, x1, x2, x3, x4⟩ := wv_open x hx
 rw [ex]
 clear ex hx x1 x2 x3 x4
 rcases Int.lt_or_le n 0 with h | h
 ·clear hn
  go_enter Tryz.func169, Tryz.ntmps169
  go_wp2_with fail
  refine bp_ret ⟨?_, ?_, ?_, ?_⟩ rfl; rotate_left
  ·(simp [results, Tryz.results169, go_sem, *]; rfl)
  rotate_left
  ·repeat (first | exact Below.refl _ _ | assumption | (refine Below.alloc ?_ (by first | omega | (simp; done) | (simp; omega) | (simp at *; omega)) _) | (refine Below.setCell ?_ (by first | omega | (simp; done) | (simp; omega) | (simp at *; omega)) _) | (refine Below.trans ?_ (below_drewN _ _ _)) | (refine Below.drew ?_) | (refine Below.trans ?_ (Below.mono (by assumption) (by first | omega | (simp; done) | (simp; omega) | (simp at *; omega)))))
  ·rfl
 ·have h2 : 128 ≤ n := by omega
  clear hn
  go_enter Tryz.func169, Tryz.ntmps169
  go_wp2_with fail
  refine bp_ret ⟨?_, ?_, ?_, ?_⟩ rfl; rotate_left
  ·(simp [results, Tryz.results169, go_sem, *]; rfl)
  rotate_left
  ·repeat (first | exact Below.refl _ _ | assumption | (refine Below.alloc ?_ (by first | omega | (simp; done) | (simp; omega) | (simp at *; omega)) _) | (refine Below.setCell ?_ (by first | omega | (simp; done) | (simp; omega) | (simp at *; omega)) _) | (refine Below.trans ?_ (below_drewN _ _ _)) | (refine Below.drew ?_) | (refine Below.trans ?_ (Below.mono (by assumption) (by first | omega | (simp; done) | (simp; omega) | (simp at *; omega)))))
  ·rfl
set_option maxRecDepth 100000 in
theorem wide_Shr_high (x : Int) (n : Nat) (hx : in128 x) (h1 : 64 ≤ n) (h2 : n < 128) (w : World) :
  Calls Tryz.prog 169 #[wv x, .int .i64 n] w fun e w' => e = .returned (shrR x n) ∧ Below w.heap.size w w' := by
 rw [shrR_pos (by omega) (by omega)]
 obtain ⟨xh, xl, ex, rfl, x1, x2, x3, x4⟩ := wv_open x hx
 rw [ex]
 have hB := Lib.hid (And.intro (And.intro x1 x2) (And.intro x3 x4))
 clear ex hx x1 x2 x3 x4
 have a1 : (0 : Int) ≤ n := by omega
 have a2 : (n : Int) < 128 := by omega
 have a3 : 64 ≤ (n : Int) := by omega
 go_enter Tryz.func169, Tryz.ntmps169
 go_wp2_with fail
 go_region
 all_goals
  go_wp2
  refine bp_ret ⟨?_, ?_, ?_, ?_⟩ rfl; rotate_left
  ·(simp [results, Tryz.results169, go_sem, *]; rfl)
  rotate_left
  ·repeat (first | exact Below.refl _ _ | assumption | (refine Below.alloc ?_ (by first | omega | (simp; done) | (simp; omega) | (simp at *; omega)) _) | (refine Below.setCell ?_ (by first | omega | (simp; done) | (simp; omega) | (simp at *; omega)) _) | (refine Below.trans ?_ (below_drewN _ _ _)) | (refine Below.drew ?_) | (refine Below.trans ?_ (Below.mono (by assumption) (by first | omega | (simp; done) | (simp; omega) | (simp at *; omega)))))
  ·obtain ⟨⟨x1, x2⟩, x3, x4⟩ := hB.out
   refine ret_eq (congrArg (fun v => Value.tuple #[v, .nilIface]) ?_)
   have hs := shr_high xh xl n h1 x1 x2 x3 x4
   rw [Int.toNat_natCast]
   exact wv_of (by rw [hs]; exact shr_top x1 x2) (by rw [hs, IntKind.wrap_u64])
set_option maxRecDepth 100000 in
theorem wide_Shr_low (x : Int) (n : Nat) (hx : in128 x) (h2 : n < 64) (w : World) :
  Calls Tryz.prog 169 #[wv x, .int .i64 n] w fun e w' => e = .returned (shrR x n) ∧ Below w.heap.size w w' := by
 rw [shrR_pos (by omega) (by omega)]
 obtain ⟨xh, xl, ex, rfl, x1, x2, x3, x4⟩ := wv_open x hx
 rw [ex]
 have hB := Lib.hid (And.intro (And.intro x1 x2) (And.intro x3 x4))
 clear ex hx x1 x2 x3 x4
 have a1 : (0 : Int) ≤ n := by omega
 have a2 : (n : Int) < 128 := by omega
 have a3 : ¬ 64 ≤ (n : Int) := by omega
 go_enter Tryz.func169, Tryz.ntmps169
 go_wp2_with fail
 go_region
 all_goals
  go_wp2
  refine bp_ret ⟨?_, ?_, ?_, ?_⟩ rfl; rotate_left
  ·(simp [results, Tryz.results169, go_sem, *]; rfl)
  rotate_left
  ·repeat (first | exact Below.refl _ _ | assumption | (refine Below.alloc ?_ (by first | omega | (simp; done) | (simp; omega) | (simp at *; omega)) _) | (refine Below.setCell ?_ (by first | omega | (simp; done) | (simp; omega) | (simp at *; omega)) _) | (refine Below.trans ?_ (below_drewN _ _ _)) | (refine Below.drew ?_) | (refine Below.trans ?_ (Below.mono (by assumption) (by first | omega | (simp; done) | (simp; omega) | (simp at *; omega)))))
  ·obtain ⟨⟨x1, x2⟩, x3, x4⟩ := hB.out
   obtain ⟨s1, s2⟩ := shr_low xh xl n h2 x3 x4
   refine ret_eq (congrArg (fun v => Value.tuple #[v, .nilIface]) ?_)
   rw [Int.toNat_natCast]
   exact wv_of s1 s2
theorem wide_Shr (x n : Int) (hx : in128 x) (w : World) :
  Calls Tryz.prog 169 #[wv x, .int .i64 n] w fun e w' => e = .returned (shrR x n) ∧ Below w.heap.size w w' := by
 by_cases h : 0 ≤ n ∧ n < 128
 ·obtain ⟨n, rfl⟩ := Int.eq_ofNat_of_zero_le h.1
  rcases Nat.lt_or_ge n 64 with h1 | h1
  ·exact wide_Shr_low x n hx h1 w
  ·exact wide_Shr_high x n hx h1 (by omega) w
 ·exact wide_Shr_out x n hx h w
end Go.Proofs.YthpljlpokmoeeaaGreatDoor
namespace Go.Proofs.YthpljlpokmoeeaaGreatDoor
open Go.RowKit
theorem div_parts (xh xl d : Int) (hd : 0 < d) (x3 : 0 ≤ xl) (x4 : xl < 18446744073709551616) :
  (xh * 18446744073709551616 + xl) / d = xh / d * 18446744073709551616 + (xh % d * 18446744073709551616 + xl) / d ∧ (xh * 18446744073709551616 + xl) % d = (xh % d * 18446744073709551616 + xl) % d ∧ 0 ≤ (xh % d * 18446744073709551616 + xl) / d ∧ (xh % d * 18446744073709551616 + xl) / d < 18446744073709551616 := by
 have h := Int.mul_ediv_add_emod xh d
 have h0 := Int.emod_nonneg xh (b := d) (by omega)
 have h1 := Int.emod_lt_of_pos xh hd
 generalize xh % d = r at *
 generalize xh / d = q at *
 have e : xh * 18446744073709551616 + xl = r * 18446744073709551616 + xl + d * (q * 18446744073709551616) := by subst h; grind
 rw [e, Int.add_mul_ediv_left _ _ (by omega), Int.add_mul_emod_self_left]
 refine ⟨by omega, rfl, Int.ediv_nonneg (by omega) (by omega), ?_⟩
 refine Int.ediv_lt_of_lt_mul hd ?_
 have : r * 18446744073709551616 ≤ (d - 1) * 18446744073709551616 := by omega
 have e2 : 18446744073709551616 * d = d * 18446744073709551616 := Int.mul_comm _ _
 omega
set_option maxRecDepth 100000 in
theorem wide_Div_pos (x d : Int) (hx : in128 x) (h0 : 0 ≤ x) (hd : 1 ≤ d) (hd2 : d < 9223372036854775808) (w : World) :
  Calls Tryz.prog 111 #[wv x, .int .i64 d] w fun e w' => e = .returned (.tuple #[wv (x / d), .int .i64 (x % d), .nilIface]) ∧ Below w.heap.size w w' := by
 obtain ⟨xh, xl, ex, rfl, x1, x2, x3, x4⟩ := wv_open x hx
 rw [ex]
 have xh0 : 0 ≤ xh := by omega
 obtain ⟨q1, q2, q3, q4⟩ := div_parts xh xl d (by omega) x3 x4
 have r0 := Int.emod_nonneg xh (b := d) (by omega)
 have r1 := Int.emod_lt_of_pos xh (b := d) (by omega)
 have hQ := Lib.hid (And.intro q1 q2)
 have hR := Lib.hid (And.intro q3 q4)
 clear ex hx x1 h0 q1 q2 q3 q4
 have c1 := fun w => div64 0 xh d (by omega) (by omega) (by omega) xh0 (by omega) w
 have c2 := fun w => div64 (xh % d) xl d r0 r1 (by omega) x3 x4 w
 rw [Int.zero_mul, Int.zero_add] at c1
 have c1H := Lib.hid c1
 have c2H := Lib.hid c2
 clear c1 c2
 go_enter Tryz.func111, Tryz.ntmps111
 go_wp2_with fail
 refine (c1H.out _).mono ?_
 rintro e1 w1 ⟨rfl, hb1⟩
 obtain ⟨hc1, hf1⟩ := bcell hb1
 have hz1 := hb1.size
 try simp at hz1
 have hz1_0 : w.heap.size < w1.heap.size := by omega
 have hz1_1 : w.heap.size + 1 < w1.heap.size := by omega
 go_wp2_with fail
 refine (c2H.out _).mono ?_
 rintro e2 w2 ⟨rfl, hb2⟩
 obtain ⟨hc2, hf2⟩ := bcell hb2
 have hz2 := hb2.size
 try simp at hz2
 have hz2_0 : w.heap.size < w2.heap.size := by omega
 have hz2_1 : w.heap.size + 1 < w2.heap.size := by omega
 go_wp2_with fail
 refine bp_ret ⟨?_, ?_, ?_, ?_⟩ rfl; rotate_left
 ·(simp [results, Tryz.results111, go_sem, *]; rfl)
 rotate_left
 ·repeat (first | exact Below.refl _ _ | assumption | (refine Below.alloc ?_ (by first | omega | (simp; done) | (simp; omega) | (simp at *; omega)) _) | (refine Below.setCell ?_ (by first | omega | (simp; done) | (simp; omega) | (simp at *; omega)) _) | (refine Below.trans ?_ (below_drewN _ _ _)) | (refine Below.drew ?_) | (refine Below.trans ?_ (Below.mono (by assumption) (by first | omega | (simp; done) | (simp; omega) | (simp at *; omega)))))
 ·obtain ⟨q1, q2⟩ := hQ.out
  obtain ⟨q3, q4⟩ := hR.out
  rw [q1, q2]
  have p0 : 0 ≤ xh / d := Int.ediv_nonneg xh0 (by omega)
  have p1 : xh / d ≤ xh := Int.ediv_le_self _ xh0
  have m0 := Int.emod_nonneg (xh % d * 18446744073709551616 + xl) (b := d) (by omega)
  have m1 := Int.emod_lt_of_pos (xh % d * 18446744073709551616 + xl) (b := d) (by omega)
  have s1 : wrap64 (xh / d) = xh / d := by unfold wrap64; omega
  have s2 : wrap64 ((xh % d * 18446744073709551616 + xl) % d) = (xh % d * 18446744073709551616 + xl) % d := by unfold wrap64; omega
  rw [s1, s2, wv_hl _ _ q3 q4]
theorem not_i64 (a : Int) (h0 : -9223372036854775808 ≤ a) (h1 : a < 9223372036854775808) : bits .xor .i64 (-1) a = -a - 1 := by
 show IntKind.i64.wrap ((BitVec.ofInt 64 (-1) ^^^ BitVec.ofInt 64 a).toNat : Int) = _
 have e1 : BitVec.ofInt 64 (-1) = BitVec.allOnes 64 := by decide
 rw [e1, BitVec.allOnes_xor, BitVec.toNat_not, BitVec.toNat_ofInt]
 rw [i64_wrap64]
 unfold wrap64
 omega
theorem not_u64 (a : Int) (h0 : 0 ≤ a) (h1 : a < 18446744073709551616) : bits .xor .u64 18446744073709551615 a = 18446744073709551615 - a := by
 show IntKind.u64.wrap ((BitVec.ofInt 64 18446744073709551615 ^^^ BitVec.ofInt 64 a).toNat : Int) = _
 have e1 : BitVec.ofInt 64 18446744073709551615 = BitVec.allOnes 64 := by decide
 rw [e1, BitVec.allOnes_xor, BitVec.toNat_not, BitVec.toNat_ofInt, IntKind.wrap_u64]
 omega
theorem not_parts (xh xl : Int) (x1 : -9223372036854775808 ≤ xh) (x2 : xh < 9223372036854775808) (x3 : 0 ≤ xl) (x4 : xl < 18446744073709551616) :
  Value.agg #[.int .i64 (-xh - 1), .int .u64 (18446744073709551615 - xl)] = wv (-(xh * 18446744073709551616 + xl) - 1) ∧ in128 (-(xh * 18446744073709551616 + xl) - 1) := by
 refine ⟨wv_of (by omega) (by omega), ?_⟩
 unfold in128; omega
set_option maxRecDepth 100000 in
theorem wide_Div_neg (x d : Int) (hx : in128 x) (h0 : x < 0) (hd : 1 ≤ d) (hd2 : d < 9223372036854775808) (w : World) :
  Calls Tryz.prog 111 #[wv x, .int .i64 d] w fun e w' => e = .returned (.tuple #[wv (x / d), .int .i64 (x % d), .nilIface]) ∧ Below w.heap.size w w' := by
 obtain ⟨xh, xl, ex, rfl, x1, x2, x3, x4⟩ := wv_open x hx
 rw [ex]
 obtain ⟨n1, n2⟩ := not_parts xh xl x1 x2 x3 x4
 have c1 := fun w => wide_Div_pos _ d n2 (by omega) hd hd2 w
 rw [← n1] at c1
 have md0 : 0 ≤ (-(xh * 18446744073709551616 + xl) - 1) / d := Int.ediv_nonneg (by omega) (by omega)
 have md1 : (-(xh * 18446744073709551616 + xl) - 1) / d ≤ -(xh * 18446744073709551616 + xl) - 1 := Int.ediv_le_self _ (by omega)
 obtain ⟨qh, ql, ew, ev, v1, v2, v3, v4⟩ := wv_open ((-(xh * 18446744073709551616 + xl) - 1) / d) (by unfold in128; omega)
 rw [ew] at c1
 have rr0 := Int.emod_nonneg (-(xh * 18446744073709551616 + xl) - 1) (b := d) (by omega)
 have rr1 := Int.emod_lt_of_pos (-(xh * 18446744073709551616 + xl) - 1) (b := d) (by omega)
 have eV := Int.mul_ediv_add_emod (-(xh * 18446744073709551616 + xl) - 1) d
 rw [ev] at eV
 generalize (-(xh * 18446744073709551616 + xl) - 1) % d = rr at *
 have hE := Lib.hid (And.intro ev (And.intro eV (And.intro rr0 rr1)))
 have t3 := not_i64 qh v1 v2
 have t4 := not_u64 ql v3 v4
 have hV := Lib.hid (And.intro (And.intro v1 v2) (And.intro v3 v4))
 clear ev eV ew md0 md1 v1 v2 v3 v4
 have c1H := Lib.hid c1
 have xh0 : xh < 0 := by omega
 have hB := Lib.hid (And.intro (And.intro x1 x2) (And.intro x3 x4))
 have sI : IntKind.i64.signed = true := rfl
 have sU : IntKind.u64.signed = false := rfl
 have mU : IntKind.u64.max = 18446744073709551615 := by decide
 have t1 := not_i64 xh x1 x2
 have t2 := not_u64 xl x3 x4
 clear ex hx x1 h0 c1 n1 n2
 go_enter Tryz.func111, Tryz.ntmps111
 go_wp2_with fail
 refine (c1H.out _).mono ?_
 rintro e1 w1 ⟨rfl, hb1⟩
 obtain ⟨hc1, hf1⟩ := bcell hb1
 have hz1 := hb1.size
 try simp at hz1
 have hz1_0 : w.heap.size < w1.heap.size := by omega
 have hz1_1 : w.heap.size + 1 < w1.heap.size := by omega
 go_wp2_with fail
 refine bp_ret ⟨?_, ?_, ?_, ?_⟩ rfl; rotate_left
 ·(simp [results, Tryz.results111, go_sem, *]; rfl)
 rotate_left
 ·repeat (first | exact Below.refl _ _ | assumption | (refine Below.alloc ?_ (by first | omega | (simp; done) | (simp; omega) | (simp at *; omega)) _) | (refine Below.setCell ?_ (by first | omega | (simp; done) | (simp; omega) | (simp at *; omega)) _) | (refine Below.trans ?_ (below_drewN _ _ _)) | (refine Below.drew ?_) | (refine Below.trans ?_ (Below.mono (by assumption) (by first | omega | (simp; done) | (simp; omega) | (simp at *; omega)))))
 ·obtain ⟨ev, eV, _, _⟩ := hE.out
  obtain ⟨⟨v1, v2⟩, v3, v4⟩ := hV.out
  clear t1 t2 t3 t4 mU sI sU hc1 hf1
  obtain ⟨e1, e2⟩ := (Int.ediv_emod_unique (a := xh * 18446744073709551616 + xl) (b := d) (r := d - 1 - rr) (q := -(qh * 18446744073709551616 + ql) - 1) (by omega)).mpr ⟨by
   have : d * (-(qh * 18446744073709551616 + ql) - 1) = -(d * (qh * 18446744073709551616 + ql)) - d := by grind
   omega, by omega, by omega⟩
  rw [e1, e2]
  exact ret_eq (congrArg (fun v => Value.tuple #[v, .int .i64 (d - 1 - rr), .nilIface]) (not_parts qh ql v1 v2 v3 v4).1)
theorem wide_Div_err (x d : Int) (hx : in128 x) (hd : d < 1) (w : World) :
  Calls Tryz.prog 111 #[wv x, .int .i64 d] w fun e w' => e = .returned (.tuple #[.agg #[.int .i64 0, .int .u64 0], .int .i64 0, .iface 129 (.int .i64 1)]) ∧ Below w.heap.size w w' := by
 obtain ⟨xh, xl, ex, rfl, x1, x2, x3, x4⟩ := wv_open x hx
 rw [ex]
 clear ex hx x1 x2 x3 x4
 go_enter Tryz.func111, Tryz.ntmps111
 go_wp2_with fail
 refine bp_ret ⟨?_, ?_, ?_, ?_⟩ rfl; rotate_left
 ·(simp [results, Tryz.results111, go_sem, *]; rfl)
 rotate_left
 ·repeat (first | exact Below.refl _ _ | assumption | (refine Below.alloc ?_ (by first | omega | (simp; done) | (simp; omega) | (simp at *; omega)) _) | (refine Below.setCell ?_ (by first | omega | (simp; done) | (simp; omega) | (simp at *; omega)) _) | (refine Below.trans ?_ (below_drewN _ _ _)) | (refine Below.drew ?_) | (refine Below.trans ?_ (Below.mono (by assumption) (by first | omega | (simp; done) | (simp; omega) | (simp at *; omega)))))
 ·rfl
theorem wide_Div_ok (x d : Int) (hx : in128 x) (hd : 1 ≤ d) (hd2 : d < 9223372036854775808) (w : World) :
  Calls Tryz.prog 111 #[wv x, .int .i64 d] w fun e w' => e = .returned (.tuple #[wv (x / d), .int .i64 (x % d), .nilIface]) ∧ Below w.heap.size w w' := by
 rcases Int.lt_or_le x 0 with h | h
 ·exact wide_Div_neg x d hx h hd hd2 w
 ·exact wide_Div_pos x d hx h hd hd2 w
theorem ediv_in128 {x d : Int} (hx : in128 x) (hd : 1 ≤ d) : in128 (x / d) := by
 have e := Int.mul_ediv_add_emod x d
 have r0 := Int.emod_nonneg x (b := d) (by omega)
 have r1 := Int.emod_lt_of_pos x (b := d) (by omega)
 unfold in128 at *
 rcases Int.lt_or_le x 0 with h | h
 ·have a : x / d < 0 := Int.ediv_neg_of_neg_of_pos h (by omega)
  have b := Int.mul_le_mul_of_nonpos_right (show 1 ≤ d from hd) (show x / d + 1 ≤ 0 by omega)
  rw [Int.mul_add, Int.mul_one] at b
  omega
 ·have a : 0 ≤ x / d := Int.ediv_nonneg h (by omega)
  have b : x / d ≤ x := Int.ediv_le_self _ h
  omega
def mulDivR (a b c : Int) : Value := if c < 1 then pairV (.int .i64 0) (some 1) else fitI (a * b / c)
set_option maxRecDepth 100000 in
theorem wide_MulDiv (a b c : Int) (ha : in64 a) (hb : in64 b) (hc : in64 c) (w : World) :
  Calls Tryz.prog 51 #[.int .i64 a, .int .i64 b, .int .i64 c] w fun e w' => e = .returned (mulDivR a b c) ∧ Below w.heap.size w w' := by
 have hp := mul_in128 ha hb
 have hM := Lib.hid (fun w => wide_Mul a b ha hb w)
 unfold mulDivR
 by_cases h1 : c < 1
 ·rw [if_pos h1]
  have hD := Lib.hid (fun w => wide_Div_err (a * b) c hp h1 w)
  clear ha hb hc hp
  go_enter Tryz.func51, Tryz.ntmps51
  go_wp2_with fail
  refine (hM.out _).mono ?_
  rintro e1 w1 ⟨rfl, hb1⟩
  obtain ⟨hc1, hf1⟩ := bcell hb1
  have hz1 := hb1.size
  try simp at hz1
  go_wp2_with fail
  refine (hD.out _).mono ?_
  rintro e2 w2 ⟨rfl, hb2⟩
  obtain ⟨hc2, hf2⟩ := bcell hb2
  have hz2 := hb2.size
  try simp at hz2
  go_wp2_with fail
  refine bp_ret ⟨?_, ?_, ?_, ?_⟩ rfl; rotate_left
  ·(simp [results, Tryz.results51, go_sem, *]; rfl)
  rotate_left
  ·repeat (first | exact Below.refl _ _ | assumption | (refine Below.alloc ?_ (by first | omega | (simp; done) | (simp; omega) | (simp at *; omega)) _) | (refine Below.setCell ?_ (by first | omega | (simp; done) | (simp; omega) | (simp at *; omega)) _) | (refine Below.trans ?_ (below_drewN _ _ _)) | (refine Below.drew ?_) | (refine Below.trans ?_ (Below.mono (by assumption) (by first | omega | (simp; done) | (simp; omega) | (simp at *; omega)))))
  ·rfl
 ·rw [if_neg h1]
  have hq := ediv_in128 (d := c) hp (by omega)
  have hD := fun w => wide_Div_ok (a * b) c hp (by omega) hc.2 w
  have hI := fun w => wide_Int (a * b / c) hq w
  obtain ⟨qh, ql, ew, ev, v1, v2, v3, v4⟩ := wv_open _ hq
  rw [ew] at hD hI
  clear ha hb hc hp hq ew ev v1 v2 v3 v4
  have hDH := Lib.hid hD
  have hIH := Lib.hid hI
  clear hD hI
  by_cases h2 : in64 (a * b / c)
  ·rw [fitI_pos h2] at hIH ⊢
   clear h2
   go_enter Tryz.func51, Tryz.ntmps51
   go_wp2_with fail
   refine (hM.out _).mono ?_
   rintro e1 w1 ⟨rfl, hb1⟩
   obtain ⟨hc1, hf1⟩ := bcell hb1
   have hz1 := hb1.size
   try simp at hz1
   go_wp2_with fail
   refine (hDH.out _).mono ?_
   rintro e2 w2 ⟨rfl, hb2⟩
   obtain ⟨hc2, hf2⟩ := bcell hb2
   have hz2 := hb2.size
   try simp at hz2
   go_wp2_with fail
   refine (hIH.out _).mono ?_
   rintro e3 w3 ⟨rfl, hb3⟩
   obtain ⟨hc3, hf3⟩ := bcell hb3
   have hz3 := hb3.size
   try simp at hz3
   go_wp2_with fail
   refine bp_ret ⟨?_, ?_, ?_, ?_⟩ rfl; rotate_left
   ·(simp [results, Tryz.results51, go_sem, *]; rfl)
   rotate_left
   ·repeat (first | exact Below.refl _ _ | assumption | (refine Below.alloc ?_ (by first | omega | (simp; done) | (simp; omega) | (simp at *; omega)) _) | (refine Below.setCell ?_ (by first | omega | (simp; done) | (simp; omega) | (simp at *; omega)) _) | (refine Below.trans ?_ (below_drewN _ _ _)) | (refine Below.drew ?_) | (refine Below.trans ?_ (Below.mono (by assumption) (by first | omega | (simp; done) | (simp; omega) | (simp at *; omega)))))
   ·rfl
  ·rw [fitI_neg h2] at hIH ⊢
   clear h2
   go_enter Tryz.func51, Tryz.ntmps51
   go_wp2_with fail
   refine (hM.out _).mono ?_
   rintro e1 w1 ⟨rfl, hb1⟩
   obtain ⟨hc1, hf1⟩ := bcell hb1
   have hz1 := hb1.size
   try simp at hz1
   go_wp2_with fail
   refine (hDH.out _).mono ?_
   rintro e2 w2 ⟨rfl, hb2⟩
   obtain ⟨hc2, hf2⟩ := bcell hb2
   have hz2 := hb2.size
   try simp at hz2
   go_wp2_with fail
   refine (hIH.out _).mono ?_
   rintro e3 w3 ⟨rfl, hb3⟩
   obtain ⟨hc3, hf3⟩ := bcell hb3
   have hz3 := hb3.size
   try simp at hz3
   go_wp2_with fail
   refine bp_ret ⟨?_, ?_, ?_, ?_⟩ rfl; rotate_left
   ·(simp [results, Tryz.results51, go_sem, *]; rfl)
   rotate_left
   ·repeat (first | exact Below.refl _ _ | assumption | (refine Below.alloc ?_ (by first | omega | (simp; done) | (simp; omega) | (simp at *; omega)) _) | (refine Below.setCell ?_ (by first | omega | (simp; done) | (simp; omega) | (simp at *; omega)) _) | (refine Below.trans ?_ (below_drewN _ _ _)) | (refine Below.drew ?_) | (refine Below.trans ?_ (Below.mono (by assumption) (by first | omega | (simp; done) | (simp; omega) | (simp at *; omega)))))
   ·rfl
def mulShiftR (a m s : Int) : Value := if s < 0 ∨ 31 < s then pairV (.int .i64 0) (some 1) else fitI (a * m / 2 ^ s.toNat)
theorem shr_in128 {x : Int} (n : Nat) (hx : in128 x) : in128 (x / 2 ^ n) := by
 have hp : (0 : Int) < 2 ^ n := by rw [natPow]; have := Nat.two_pow_pos n; omega
 exact ediv_in128 hx (by omega)
set_option maxRecDepth 100000 in
theorem wide_MulShift (a m s : Int) (ha : in64 a) (hm : 0 ≤ m) (hm2 : m < 4294967296) (w : World) :
  Calls Tryz.prog 110 #[.int .i64 a, .int .u32 m, .int .i64 s] w fun e w' => e = .returned (mulShiftR a m s) ∧ Below w.heap.size w w' := by
 unfold mulShiftR
 by_cases h1 : s < 0 ∨ 31 < s
 ·rw [if_pos h1]
  clear ha
  rcases h1 with h | h
  ·go_enter Tryz.func110, Tryz.ntmps110
   go_wp2_with fail
   refine bp_ret ⟨?_, ?_, ?_, ?_⟩ rfl; rotate_left
   ·(simp [results, Tryz.results110, go_sem, *]; rfl)
   rotate_left
   ·repeat (first | exact Below.refl _ _ | assumption | (refine Below.alloc ?_ (by first | omega | (simp; done) | (simp; omega) | (simp at *; omega)) _) | (refine Below.setCell ?_ (by first | omega | (simp; done) | (simp; omega) | (simp at *; omega)) _) | (refine Below.trans ?_ (below_drewN _ _ _)) | (refine Below.drew ?_) | (refine Below.trans ?_ (Below.mono (by assumption) (by first | omega | (simp; done) | (simp; omega) | (simp at *; omega)))))
   ·rfl
  ·have h' : ¬ s < 0 := by omega
   go_enter Tryz.func110, Tryz.ntmps110
   go_wp2_with fail
   refine bp_ret ⟨?_, ?_, ?_, ?_⟩ rfl; rotate_left
   ·(simp [results, Tryz.results110, go_sem, *]; rfl)
   rotate_left
   ·repeat (first | exact Below.refl _ _ | assumption | (refine Below.alloc ?_ (by first | omega | (simp; done) | (simp; omega) | (simp at *; omega)) _) | (refine Below.setCell ?_ (by first | omega | (simp; done) | (simp; omega) | (simp at *; omega)) _) | (refine Below.trans ?_ (below_drewN _ _ _)) | (refine Below.drew ?_) | (refine Below.trans ?_ (Below.mono (by assumption) (by first | omega | (simp; done) | (simp; omega) | (simp at *; omega)))))
   ·rfl
 ·rw [if_neg h1]
  have s0 : 0 ≤ s := by omega
  have s1 : s ≤ 31 := by omega
  clear h1
  have hb : in64 m := by unfold in64; omega
  have hp := mul_in128 ha hb
  have hM := Lib.hid (fun w => wide_Mul a m ha hb w)
  have hS := fun w => wide_Shr (a * m) s hp w
  rw [shrR_pos s0 (by omega)] at hS
  have hq := shr_in128 s.toNat hp
  have hI := fun w => wide_Int (a * m / 2 ^ s.toNat) hq w
  obtain ⟨qh, ql, ew, ev, v1, v2, v3, v4⟩ := wv_open _ hq
  rw [ew] at hS hI
  clear ha hb hp hq ew ev v1 v2 v3 v4
  have hSH := Lib.hid hS
  have hIH := Lib.hid hI
  clear hS hI
  generalize a * m / 2 ^ s.toNat = X at *
  by_cases h2 : in64 X
  ·rw [fitI_pos h2] at hIH ⊢
   clear h2
   go_enter Tryz.func110, Tryz.ntmps110
   go_wp2_with fail
   refine (hM.out _).mono ?_
   rintro e1 w1 ⟨rfl, hb1⟩
   obtain ⟨hc1, hf1⟩ := bcell hb1
   have hz1 := hb1.size
   try simp at hz1
   go_wp2_with fail
   refine (hSH.out _).mono ?_
   rintro e2 w2 ⟨rfl, hb2⟩
   obtain ⟨hc2, hf2⟩ := bcell hb2
   have hz2 := hb2.size
   try simp at hz2
   go_wp2_with fail
   refine (hIH.out _).mono ?_
   rintro e3 w3 ⟨rfl, hb3⟩
   obtain ⟨hc3, hf3⟩ := bcell hb3
   have hz3 := hb3.size
   try simp at hz3
   go_wp2_with fail
   refine bp_ret ⟨?_, ?_, ?_, ?_⟩ rfl; rotate_left
   ·(simp [results, Tryz.results110, go_sem, *]; rfl)
   rotate_left
   ·repeat (first | exact Below.refl _ _ | assumption | (refine Below.alloc ?_ (by first | omega | (simp; done) | (simp; omega) | (simp at *; omega)) _) | (refine Below.setCell ?_ (by first | omega | (simp; done) | (simp; omega) | (simp at *; omega)) _) | (refine Below.trans ?_ (below_drewN _ _ _)) | (refine Below.drew ?_) | (refine Below.trans ?_ (Below.mono (by assumption) (by first | omega | (simp; done) | (simp; omega) | (simp at *; omega)))))
   ·rfl
  ·rw [fitI_neg h2] at hIH ⊢
   clear h2
   go_enter Tryz.func110, Tryz.ntmps110
   go_wp2_with fail
   refine (hM.out _).mono ?_
   rintro e1 w1 ⟨rfl, hb1⟩
   obtain ⟨hc1, hf1⟩ := bcell hb1
   have hz1 := hb1.size
   try simp at hz1
   go_wp2_with fail
   refine (hSH.out _).mono ?_
   rintro e2 w2 ⟨rfl, hb2⟩
   obtain ⟨hc2, hf2⟩ := bcell hb2
   have hz2 := hb2.size
   try simp at hz2
   go_wp2_with fail
   refine (hIH.out _).mono ?_
   rintro e3 w3 ⟨rfl, hb3⟩
   obtain ⟨hc3, hf3⟩ := bcell hb3
   have hz3 := hb3.size
   try simp at hz3
   go_wp2_with fail
   refine bp_ret ⟨?_, ?_, ?_, ?_⟩ rfl; rotate_left
   ·(simp [results, Tryz.results110, go_sem, *]; rfl)
   rotate_left
   ·repeat (first | exact Below.refl _ _ | assumption | (refine Below.alloc ?_ (by first | omega | (simp; done) | (simp; omega) | (simp at *; omega)) _) | (refine Below.setCell ?_ (by first | omega | (simp; done) | (simp; omega) | (simp at *; omega)) _) | (refine Below.trans ?_ (below_drewN _ _ _)) | (refine Below.drew ?_) | (refine Below.trans ?_ (Below.mono (by assumption) (by first | omega | (simp; done) | (simp; omega) | (simp at *; omega)))))
   ·rfl
end Go.Proofs.YthpljlpokmoeeaaGreatDoor
namespace Go.Proofs.YthpljlpokmoeeaaGreatDoor
open Go.RowKit
theorem setRow_other {w : World} {b b' : Nat} {c' : Array Value} {x : Option Obj} (h : w.heap[b]? = x) (hn : b ≠ b') : (w.setRow b' c').heap[b]? = x := by
 rw [← h]
 simp [World.setRow, Array.getElem?_modify, Ne.symm hn]
end Go.Proofs.YthpljlpokmoeeaaGreatDoor
namespace Go.Proofs.YthpljlpokmoeeaaGreatDoor
open Go.RowKit
end Go.Proofs.YthpljlpokmoeeaaGreatDoor
namespace Go.Proofs.YthpljlpokmoeeaaGreatDoor
open Go.RowKit
theorem blk {B : Nat} {w w' : World} {k : Nat} {x : Option Obj} (hb : Below B w w') (h : w.heap[k]? = x) (hk : k < B) : w'.heap[k]? = x := by rw [hb.block k hk, h]
end Go.Proofs.YthpljlpokmoeeaaGreatDoor
namespace Go.Proofs.YthpljlpokmoeeaaGreatDoor
open Go.RowKit
end Go.Proofs.YthpljlpokmoeeaaGreatDoor
namespace Go.Proofs.YthpljlpokmoeeaaGreatDoor
open Go.RowKit
end Go.Proofs.YthpljlpokmoeeaaGreatDoor
namespace Go.Proofs.YthpljlpokmoeeaaGreatDoor
open Go.RowKit
end Go.Proofs.YthpljlpokmoeeaaGreatDoor
namespace Go.Proofs.YthpljlpokmoeeaaGreatDoor
open Go.RowKit
end Go.Proofs.YthpljlpokmoeeaaGreatDoor
namespace Go.Proofs.YthpljlpokmoeeaaGreatDoor
open Go.RowKit
end Go.Proofs.YthpljlpokmoeeaaGreatDoor
namespace Go.Proofs.YthpljlpokmoeeaaGreatDoor.Mir
open Go Go.RowKit
set_option maxRecDepth 100000
abbrev shE : ShA := .one (.d (.err 129))
def i64B (x : Int) : Bool := decide (-9223372036854775808 ≤ x ∧ x < 9223372036854775808)
theorem i64B_iff {x : Int} : i64B x = true ↔ in64 x := by simp [i64B, in64]
def fitP (s : Int) : Int × Option Int := bif i64B s then (s, none) else (0, some 2)
theorem fitP_rep {g : Gh} (s : Int) : RepV g (retV 2 (encAs 0 [.one (.d (.int .i64)), shE] (fitP s))) (fitI s) := by
 unfold fitP fitI
 by_cases h : in64 s
 ·rw [if_pos h, i64B_iff.2 h]; exact ⟨_, rfl, _, _, rfl, rfl, _, _, rfl, rfl, rfl⟩
 ·rw [if_neg h, Bool.eq_false_iff.2 (fun e => h (i64B_iff.1 e))]; exact ⟨_, rfl, _, _, rfl, rfl, _, _, rfl, rfl, rfl⟩
def mdF (a b c : Int) : Option (TAs [.one (.d (.int .i64)), shE]) := bif i64B a && (i64B b && i64B c) then some (bif decide (c < 1) then (0, some 1) else fitP (a * b / c)) else none
def mdS : Sum := fnSum 3 0 2 [.one (.d (.int .i64)), .one (.d (.int .i64)), .one (.d (.int .i64))] [.one (.d (.int .i64)), shE] (fun p => mdF p.1 p.2.1 p.2.2)
theorem mdS_ok : SumOk Tryz.prog laidL 51 mdS := by
 refine bridge rfl (fun _ => rfl) ?_
 rintro ⟨a, b, c⟩ r h g w vs _ ⟨_, _, rfl, ha, _, _, rfl, hb, _, _, rfl, hc, rfl⟩
 simp only [mdF] at h
 cases hk : (i64B a && (i64B b && i64B c)) with
 | false => rw [hk] at h; cases h
 | true =>
  rw [hk] at h
  obtain rfl := Option.some.inj h
  simp only [Bool.and_eq_true, i64B_iff] at hk
  cases ha; cases hb; cases hc
  refine invokes_of_calls Tryz.func51 (by kernel_rfl) (by kernel_rfl) ((wide_MulDiv a b c hk.1 hk.2.1 hk.2.2 w).mono ?_)
  rintro e w' ⟨rfl, hw⟩
  refine ⟨_, rfl, ?_, hw⟩
  unfold mulDivR
  by_cases h : c < 1
  ·rw [if_pos h, decide_eq_true h]; exact ⟨_, rfl, _, _, rfl, rfl, _, _, rfl, rfl, rfl⟩
  ·rw [if_neg h, decide_eq_false h]; exact fitP_rep _
abbrev shW : ShA := .agg [.d (.int .i64), .d (.int .u64)]
def hlV (p : Int × Int) : Int := p.1 * 18446744073709551616 + p.2
def hlD (v : Int) : Int × Int := (v / 18446744073709551616, v % 18446744073709551616)
theorem hlD_hlV (v : Int) : hlV (hlD v) = v := by unfold hlV hlD; simp only; omega
theorem hl_rep {g : Gh} {p : Int × Int} {x : Value} (h2 : u64B p.2 = true) (h : RepA g (encA 0 shW p) x) : x = wv (hlV p) := by
 obtain ⟨l, rfl, _, _, rfl, hx, _, _, rfl, hy, rfl⟩ := h
 cases hx; cases hy
 exact wv_hl p.1 p.2 (u64B_iff.1 h2).1 (u64B_iff.1 h2).2
theorem rep_hl {g : Gh} (v : Int) : RepA g (encA 0 shW (hlD v)) (wv v) := ⟨_, rfl, _, _, rfl, rfl, _, _, rfl, rfl, rfl⟩
theorem hlV_in {p : Int × Int} (h1 : in64 p.1) (h2 : u64B p.2 = true) : in128 (hlV p) := by
 have := u64B_iff.1 h2
 unfold in64 at h1
 unfold in128 hlV
 omega
def wmulF (a b : Int) : Option (TAs [shW]) := bif i64B a && i64B b then some (hlD (a * b)) else none
def wmulS : Sum := fnSum 2 0 1 [.one (.d (.int .i64)), .one (.d (.int .i64))] [shW] (fun p => wmulF p.1 p.2)
theorem wmulS_ok : SumOk Tryz.prog laidL 112 wmulS := by
 refine bridge rfl (fun _ => rfl) ?_
 rintro ⟨a, b⟩ r h g w vs _ ⟨_, _, rfl, ha, _, _, rfl, hb, rfl⟩
 simp only [wmulF] at h
 cases hk : (i64B a && i64B b) with
 | false => rw [hk] at h; cases h
 | true =>
  rw [hk] at h
  obtain rfl := Option.some.inj h
  simp only [Bool.and_eq_true, i64B_iff] at hk
  cases ha; cases hb
  refine invokes_of_calls Tryz.func112 (by kernel_rfl) (by kernel_rfl) ((wide_Mul a b hk.1 hk.2 w).mono ?_)
  rintro e w' ⟨rfl, hw⟩
  exact ⟨_, rfl, rep_hl _, hw⟩
def wintF (p : TAs [shW]) : Option (TAs [.one (.d (.int .i64)), shE]) := bif i64B p.1 && u64B p.2 then some (fitP (hlV p)) else none
def wintS : Sum := fnSum 1 0 2 [shW] [.one (.d (.int .i64)), shE] wintF
theorem wintS_ok : SumOk Tryz.prog laidL 113 wintS := by
 refine bridge rfl (fun _ => rfl) ?_
 rintro p r h g w vs _ ⟨_, _, rfl, ha, rfl⟩
 simp only [wintF] at h
 cases hk : (i64B p.1 && u64B p.2) with
 | false => rw [hk] at h; cases h
 | true =>
  rw [hk] at h
  obtain rfl := Option.some.inj h
  simp only [Bool.and_eq_true, i64B_iff] at hk
  obtain rfl := hl_rep hk.2 ha
  refine invokes_of_calls Tryz.func113 (by kernel_rfl) (by kernel_rfl) ((wide_Int (hlV p) (hlV_in hk.1 hk.2) w).mono ?_)
  rintro e w' ⟨rfl, hw⟩
  exact ⟨_, rfl, fitP_rep _, hw⟩
def wdivF (p : TAs [shW, .one (.d (.int .i64))]) : Option (TAs [shW, .one (.d (.int .i64)), shE]) := bif i64B p.1.1 && (u64B p.1.2 && i64B p.2) then some (bif decide (p.2 < 1) then ((0, 0), 0, some 1) else (hlD (hlV p.1 / p.2), hlV p.1 % p.2, none)) else none
def wdivS : Sum := fnSum 2 0 3 [shW, .one (.d (.int .i64))] [shW, .one (.d (.int .i64)), shE] wdivF
theorem wdivS_ok : SumOk Tryz.prog laidL 111 wdivS := by
 refine bridge rfl (fun _ => rfl) ?_
 rintro ⟨p, d⟩ r h g w vs _ ⟨_, _, rfl, ha, _, _, rfl, hd, rfl⟩
 simp only [wdivF] at h
 cases hk : (i64B p.1 && (u64B p.2 && i64B d)) with
 | false => rw [hk] at h; cases h
 | true =>
  rw [hk] at h
  obtain rfl := Option.some.inj h
  simp only [Bool.and_eq_true, i64B_iff] at hk
  obtain rfl := hl_rep hk.2.1 ha
  cases hd
  have hin := hlV_in hk.1 hk.2.1
  by_cases h : d < 1
  ·refine invokes_of_calls Tryz.func111 (by kernel_rfl) (by kernel_rfl) ((wide_Div_err (hlV p) d hin h w).mono ?_)
   rintro e w' ⟨rfl, hw⟩
   refine ⟨_, rfl, ?_, hw⟩
   rw [decide_eq_true h]
   exact ⟨_, rfl, _, _, rfl, rep_hl 0, _, _, rfl, rfl, _, _, rfl, rfl, rfl⟩
  ·have hd2 := hk.2.2
   unfold in64 at hd2
   have hd1 : (1 : Int) ≤ d := Int.not_lt.1 h
   refine invokes_of_calls Tryz.func111 (by kernel_rfl) (by kernel_rfl) ((wide_Div_ok (hlV p) d hin hd1 hd2.2 w).mono ?_)
   rintro e w' ⟨rfl, hw⟩
   refine ⟨_, rfl, ?_, hw⟩
   rw [decide_eq_false h]
   exact ⟨_, rfl, _, _, rfl, rep_hl _, _, _, rfl, rfl, _, _, rfl, rfl, rfl⟩
end Go.Proofs.YthpljlpokmoeeaaGreatDoor.Mir
namespace Go.Proofs.YthpljlpokmoeeaaGreatDoor
open Go.ChangeShapes Go.WideShapes Go.ChangeAt Go.RowKit
def Leaves (R : TypeId → Value → Prop) : List TypeId → List Value → Prop
 | [], [] => True
 | u :: us, c :: cs => R u c ∧ Leaves R us cs
 | _, _ => False
theorem Leaves.length {R : TypeId → Value → Prop} : ∀ {us cs}, Leaves R us cs → us.length = cs.length
 | [], [], _ => rfl
 | _ :: _, _ :: _, h => by simp [Leaves.length h.2]
 | [], _ :: _, h => h.elim
 | _ :: _, [], h => h.elim
theorem Leaves.append {R : TypeId → Value → Prop} : ∀ {a b x y}, Leaves R a x → Leaves R b y → Leaves R (a ++ b) (x ++ y)
 | [], _, [], _, _, h => h
 | _ :: _, _, _ :: _, _, h, k => ⟨h.1, Leaves.append h.2 k⟩
 | [], _, _ :: _, _, h, _ => h.elim
 | _ :: _, _, [], _, h, _ => h.elim
section
variable {H : Type} {enc : TypeId × Value → H} {P : Program} {w : World} {base : Nat} {spare : Nat → Bool} {held : Bool}
def Reads1 (enc : TypeId × Value → H) (P : Program) (w : World) (base : Nat) (spare : Nat → Bool) (held : Bool) (u : TypeId) (c : Value) : Prop :=
 ∃ (m : Nat) (y : DataW H × List MemPlace), DataW.trod enc P w base spare held m u [c] = some y
theorem Reads1.int {u : TypeId} {k : IntKind} {c : Value} (ht : P.underlying u = some (.int k)) (h : Reads1 enc P w base spare held u c) : ∃ n, c = .int k n ∧ (Lit.int k n).wf = true := by
 obtain ⟨m, y, h⟩ := h
 obtain ⟨n, e, _, hw⟩ := DataW.trod_int ht h
 exact ⟨n, (List.cons.inj e).1, hw⟩
theorem Reads1.bool {u : TypeId} {c : Value} (ht : P.underlying u = some .bool) (h : Reads1 enc P w base spare held u c) : ∃ b, c = .bool b := by
 obtain ⟨m, y, h⟩ := h
 obtain ⟨n, e, _⟩ := DataW.trod_bool ht h
 exact ⟨n, (List.cons.inj e).1⟩
theorem Reads1.string {u : TypeId} {c : Value} (ht : P.underlying u = some .string) (h : Reads1 enc P w base spare held u c) : ∃ s : ByteArray, c = .string s ∧ s.size ≤ maxLen := by
 obtain ⟨m, y, h⟩ := h
 obtain ⟨n, e, _, hw⟩ := DataW.trod_string ht h
 exact ⟨n, (List.cons.inj e).1, hw⟩
theorem trodAll_stays (hl : laidOutB P = true) {W W' : World} (hb : Below W.heap.size W W') : ∀ {ts : List TypeId} {vs : List Value} {ds : List (DataW H)} {ps : List MemPlace}, (∀ t ∈ ts, P.readableRec t = true ∧ t < P.types.size) →
  DataW.TrodAll enc P W 0 (fun _ => true) true ts vs ds ps → DataW.TrodAll enc P W' 0 (fun b => decide (b < W.heap.size)) true ts vs ds ps
 | [], [], [], _, _, h => h
 | t :: ts, v :: vs, d :: ds, ps, hr, h => by
  obtain ⟨p, q, h1, h2, e⟩ := h
  have lt : ∀ x ∈ p, x.block < W.heap.size := by obtain ⟨m, hm⟩ := h1; exact DataW.trod_lt m _ _ _ hm
  exact ⟨p, q, Below.trod hl (hr t (List.mem_cons_self ..)).1 (hr t (List.mem_cons_self ..)).2 h1 hb lt, trodAll_stays hl hb (fun u hu => hr u (List.mem_cons_of_mem _ hu)) h2, e⟩
 | [], _ :: _, _, _, _, h => by simp [DataW.TrodAll] at h
 | [], [], _ :: _, _, _, h => by simp [DataW.TrodAll] at h
 | _ :: _, [], _, _, _, h => by simp [DataW.TrodAll] at h
 | _ :: _, _ :: _, [], _, _, h => by simp [DataW.TrodAll] at h
end
theorem Tryz.own : ownKnob Tryz.prog.godebug = none := by kernel_rfl
theorem Tryz.laidOut : laidOutB Tryz.prog = true := by kernel_rfl
theorem Tryz.et : Tryz.prog.globalNamed "errors.errorType" = some 0 := by kernel_rfl
theorem Tryz.rt : (Tryz.prog.cutTypes.find? (·.1 == "internal/reflectlite.rtype")).map (·.2) = some 272 := by kernel_rfl
theorem Tryz.oneRow : ((List.range 383).filter fun t => Tryz.prog.rowNamed t [101, 114, 114, 111, 114]) = [54] := by kernel_rfl
theorem Tryz.size : Tryz.prog.types.size = 383 := by kernel_rfl
def laidL : List (String × DataW Unit) := [("errors.errorType", Rows.laid_errors_errorType)]
theorem laid_of {W : World} (h : laidMetH Tryz.prog laidL W) : LaidW W := by
 have h' : laidMet Tryz.prog [] W ∧ handlesMet Tryz.prog laidL W := h
 obtain ⟨name, u, ty, e1, e2, e3, e4, e5⟩ := h'.2 _ (List.mem_singleton.2 rfl)
 have en : name = [101, 114, 114, 111, 114] := (Option.some.inj e1).symm
 subst en
 obtain rfl := Option.some.inj (Tryz.rt.symm.trans e2)
 have hm : ty ∈ (List.range 383).filter fun t => Tryz.prog.rowNamed t [101, 114, 114, 111, 114] := List.mem_filter.2 ⟨List.mem_range.2 (by rw [← Tryz.size]; exact e3), e4⟩
 rw [Tryz.oneRow] at hm
 obtain rfl := List.mem_singleton.1 hm
 have hh : typeHandle Tryz.prog 54 = .pointer (some ⟨6, 54, none⟩) := by kernel_rfl
 rw [hh] at e5
 have := World.var?_cell Tryz.et e5 0
 unfold LaidW
 simpa using this
noncomputable def laidWorld (os : Os) : World :=
 let w0 := World.holding Tryz.prog os ⟨#[], #[], []⟩
 { w0 with heap := w0.heap.modify 0 fun
   | .cells _ t frozen => .cells #[.iface 272 (.agg #[.pointer (some ⟨6, 54, none⟩)])] t frozen
   | o => o }
end Go.Proofs.YthpljlpokmoeeaaGreatDoor
namespace Go.Proofs.YthpljlpokmoeeaaGreatDoor
open Go.ChangeShapes Go.WideShapes Go.ChangeAt Go.RowKit
def laidU : List (String × DataW Unit) := [("unicode/utf8.acceptRanges", Rows.laid_unicode_utf8_acceptRanges), ("errors.errorType", Rows.laid_errors_errorType), ("unicode/utf8.first", Rows.laid_unicode_utf8_first)]
def laidD : List (String × DataW Unit) := [("unicode/utf8.acceptRanges", Rows.laid_unicode_utf8_acceptRanges), ("unicode/utf8.first", Rows.laid_unicode_utf8_first)]
theorem laidU_of {W : World} (h : laidMetH Tryz.prog laidU W) : laidMetH Tryz.prog laidL W := h.filter fun x => x.1 == "errors.errorType"
noncomputable def laidWorldU (os : Os) : World := (laidWorld os).layVars Tryz.prog laidD
theorem laidWorldU_met (os : Os) (args : Array Value) : laidMetH Tryz.prog laidU ((laidWorldU os).forCall (fun _ _ => 0) ⟨#[], args, []⟩).memory :=
 laidMetH_of_parts (laidMet_layVars (w0 := laidWorld os) ["unicode/utf8.acceptRanges", "unicode/utf8.first"] [] (by show _ = ((laidWorld os).layVars Tryz.prog laidD).heap; simp [World.memory, World.forCall, Input.heap]; rfl) (by kernel_rfl) (by kernel_rfl) LaidIn.none) (by kernel_rfl)
end Go.Proofs.YthpljlpokmoeeaaGreatDoor
