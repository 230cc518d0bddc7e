/- Texts joined. -/
import Derived.RangeFuncBox
import Derived.RangeFuncNested
import Derived.RangeFuncBound
import Derived.RangeFuncCalls
import Derived.RangeFuncLeaves
import Derived.Shelf.Abstract
import Derived.WalkKit
import Derived.OwnWalkIn
import Derived.TacticsInMore
import Derived.LoopNIn
import Derived.LoopIn
import Derived.Test.YthpljlpokmoeeaaGreatDoorProg
import Derived.Test.YthpljlpokmoeeaaGreatDoorKx0dc9f9
import Derived.Test.YthpljlpokmoeeaaGreatDoorKx7ec6e0
import Derived.Shelf.Strings.SlTrimAscii
import Derived.Test.YthpljlpokmoeeaaGreatDoorKxe8fd3d
namespace Go.Proofs.YthpljlpokmoeeaaGreatDoor
open Go Go.RowKit Go.Shelf Go.Proofs
attribute [local go_sem] Oper.semAt_some
def upTo {α : Type} (f : Nat → α) (k : Nat) : List α := (List.range k).map f
def backAt (zs : List Int) (len k : Nat) : Int × Int := ((len : Int) - 1 - k, zs[len - 1 - k]?.getD 0)
def KeepB (Bs n₀ : Nat) (W W' : World) : Prop := (∀ v, W.cell? ⟨Bs, 0, none⟩ = some v → W'.cell? ⟨Bs, 0, none⟩ = some v) ∧ Below n₀ W W'
theorem KeepB.trans {Bs n₀ : Nat} {A B C : World} (h : KeepB Bs n₀ A B) (k : KeepB Bs n₀ B C) : KeepB Bs n₀ A C := ⟨fun v e => k.1 v (h.1 v e), h.2.trans k.2⟩
def numStep (v : Int) (x : Int × Int) : Int := bits .or .u64 (IntKind.u64.wrap (v * 256)) (IntKind.u64.wrap x.2)
end Go.Proofs.YthpljlpokmoeeaaGreatDoor
namespace Go.Proofs.YthpljlpokmoeeaaGreatDoor.Mir
open Go Go.RowKit
def numV (zs : List Int) : Int := (upTo (backAt zs zs.length) zs.length).foldl numStep 0
end Go.Proofs.YthpljlpokmoeeaaGreatDoor.Mir
namespace Go.Proofs.YthpljlpokmoeeaaGreatDoor.Mir
open Go Go.RowKit
set_option maxRecDepth 1000000
def trimF (s c : ByteArray) : Option (TAs [.one (.d .str)]) := bif Nat.blt c.size 4294967281 && c.data.toList.all (fun b => Nat.blt b.toNat 128) then some ⟨(Lib.trimLeftS s.data.toList c.data.toList).toArray⟩ else none
def trimS : Sum := fnSum 2 0 1 [.one (.d .str), .one (.d .str)] [.one (.d .str)] (fun p => trimF p.1 p.2)
theorem trimS_ok : SumOk Tryz.prog laidL 70 trimS := by
 refine bridge rfl (fun _ => rfl) ?_
 rintro ⟨s, c⟩ r h g w vs _ ⟨_, _, rfl, hs, _, _, rfl, hc, rfl⟩
 simp only [trimF] at h
 cases hk : (Nat.blt c.size 4294967281 && c.data.toList.all (fun b => Nat.blt b.toNat 128)) with
 | false => rw [hk] at h; cases h
 | true =>
  rw [hk] at h
  obtain rfl := Option.some.inj h
  simp only [Bool.and_eq_true] at hk
  cases hs; cases hc
  refine invokes_of_calls Tryz.func70 (by kernel_rfl) (by kernel_rfl) ((Any.strings_TrimLeft_laid Tryz.lays161 (by kernel_rfl) s c w (Nat.le_of_ble_eq_true hk.1) (fun j b hb => ?_)).mono ?_)
  ·exact Nat.le_of_ble_eq_true (List.all_eq_true.1 hk.2 b (List.mem_of_getElem? hb))
  ·rintro e w' ⟨rfl, hw⟩
   exact ⟨_, rfl, rfl, hw⟩
end Go.Proofs.YthpljlpokmoeeaaGreatDoor.Mir
namespace Go.Proofs.YthpljlpokmoeeaaGreatDoor.Mir
open Go Go.RowKit
set_option maxRecDepth 100000
def msP (a m s : Int) : Int × Option Int := if s < 0 ∨ 31 < s then (0, some 1) else fitP (a * m / 2 ^ s.toNat)
def u32B (m : Int) : Bool := decide (0 ≤ m) && decide (m < 4294967296)
theorem u32B_iff {m : Int} : u32B m = true ↔ 0 ≤ m ∧ m < 4294967296 := by simp [u32B]
def msF (a m s : Int) : Option (TAs [.one (.d (.int .i64)), shE]) := bif i64B a && u32B m then some (msP a m s) else none
def msS : Sum := fnSum 3 0 2 [.one (.d (.int .i64)), .one (.d (.int .u32)), .one (.d (.int .i64))] [.one (.d (.int .i64)), shE] (fun p => msF p.1 p.2.1 p.2.2)
theorem msS_ok : SumOk Tryz.prog laidL 110 msS := by
 refine bridge rfl (fun _ => rfl) ?_
 rintro ⟨a, m, s⟩ r h g w vs _ ⟨_, _, rfl, ha, _, _, rfl, hb, _, _, rfl, hc, rfl⟩
 simp only [msF] at h
 cases hk : (i64B a && u32B m) with
 | false => rw [hk] at h; cases h
 | true =>
  rw [hk] at h
  obtain rfl := Option.some.inj h
  simp only [Bool.and_eq_true, i64B_iff, u32B_iff] at hk
  cases ha; cases hb; cases hc
  refine invokes_of_calls Tryz.func110 (by kernel_rfl) (by kernel_rfl) ((wide_MulShift a m s hk.1 hk.2.1 hk.2.2 w).mono ?_)
  rintro e w' ⟨rfl, hw⟩
  refine ⟨_, rfl, ?_, hw⟩
  unfold mulShiftR msP
  by_cases h : s < 0 ∨ 31 < s
  ·rw [if_pos h, if_pos h]; exact ⟨_, rfl, _, _, rfl, rfl, _, _, rfl, rfl, rfl⟩
  ·rw [if_neg h, if_neg h]; exact fitP_rep _
def rP (p : Int × Option Int) : Int × Int := (p.1, match p.2 with | none => 0 | some e => e)
def rmsF (a m s : Int) : Option (TAs [.one (.d (.int .i64)), .one (.d (.int .i64))]) := bif i64B a && (u32B m && i64B s) then some (rP (msP a m s)) else none
def rmsS : Sum := fnSum 3 0 2 [.one (.d (.int .i64)), .one (.d (.int .u32)), .one (.d (.int .i64))] [.one (.d (.int .i64)), .one (.d (.int .i64))] (fun p => rmsF p.1 p.2.1 p.2.2)
theorem rmsS_ok : SumOk Tryz.prog laidL 124 rmsS := by
 refine bridge rfl (fun _ => rfl) ?_
 rintro ⟨a, m, s⟩ r h g w vs _ ⟨_, _, rfl, ha, _, _, rfl, hb, _, _, rfl, hc, rfl⟩
 simp only [rmsF] at h
 cases hk : (i64B a && (u32B m && i64B s)) with
 | false => rw [hk] at h; cases h
 | true =>
  rw [hk] at h
  obtain rfl := Option.some.inj h
  simp only [Bool.and_eq_true, i64B_iff, u32B_iff] at hk
  cases ha; cases hb; cases hc
  refine invokes_of_calls Tryz.func124 (by kernel_rfl) (by kernel_rfl) ((ref_MulShift a m s hk.1 hk.2.1.1 hk.2.1.2 hk.2.2 w).mono ?_)
  rintro e w' ⟨rfl, hw⟩
  refine ⟨_, rfl, ?_, hw⟩
  unfold refP msX msP
  by_cases h : s < 0 ∨ 31 < s
  ·rw [if_pos h, if_pos h]; exact ⟨_, rfl, _, _, rfl, rfl, _, _, rfl, rfl, rfl⟩
  ·rw [if_neg h, if_neg h]
   unfold mdX
   have h1 : ¬ (2 : Int) ^ s.toNat < 1 := by rw [natPow]; have := Nat.two_pow_pos s.toNat; omega
   rw [if_neg h1]
   unfold fitP
   by_cases h2 : in64 (a * m / 2 ^ s.toNat)
   ·rw [if_pos h2, i64B_iff.2 h2]; exact ⟨_, rfl, _, _, rfl, rfl, _, _, rfl, rfl, rfl⟩
   ·rw [if_neg h2, Bool.eq_false_iff.2 (fun e => h2 (i64B_iff.1 e))]; exact ⟨_, rfl, _, _, rfl, rfl, _, _, rfl, rfl, rfl⟩
def dl (m : Int) : List Int := [dgI m 0, dgI m 1, dgI m 2, dgI m 3, dgI m 4, dgI m 5, dgI m 6, dgI m 7]
def eB (v : Int) : Bool × List Int := (decide (v < 0), dl (absZ v))
abbrev lB : List Lf := [.d .bool, .d (.arr .u64 8)]
theorem repB {g : Gh} {s : Bool} {m : Int} {x : Value} (h : RepA g (encA 0 (.agg lB) (s, dl m)) x) : x = .agg (bigA s (dgI m)) := by
 obtain ⟨l, rfl, _, _, rfl, hx, r, _, rfl, hr⟩ := h
 cases hx
 have hr : r = [] := hr
 subst hr; rfl
theorem bRep {g : Gh} {s : Bool} {m : Int} : RepA g (encA 0 (.agg lB) (s, dl m)) (.agg (bigA s (dgI m))) := ⟨_, rfl, _, _, rfl, rfl, [], rfl, rfl, rfl⟩
theorem repD {g : Gh} {m : Int} {x : Value} (h : RepA g (encA 0 (.agg [.d (.arr .u64 8)]) (dl m)) x) : x = .agg (dgs m) := by
 obtain ⟨l, rfl, r, _, rfl, hr⟩ := h
 have hr : r = [] := hr
 subst hr; rfl
theorem rep1 {g : Gh} {a : A} {vs : List Value} (h : RepAs g [a] vs) : ∃ x, vs = [x] ∧ RepA g a x := by
 obtain ⟨x, _, rfl, h1, rfl⟩ := h; exact ⟨x, rfl, h1⟩
theorem rep2 {g : Gh} {a b : A} {vs : List Value} (h : RepAs g [a, b] vs) : ∃ x y, vs = [x, y] ∧ RepA g a x ∧ RepA g b y := by
 obtain ⟨x, _, rfl, h1, y, _, rfl, h2, rfl⟩ := h; exact ⟨x, y, rfl, h1, h2⟩
theorem dl_inj {m n : Int} (m0 : 0 ≤ m) (m1 : m < 4294967296 ^ 8) (n0 : 0 ≤ n) (n1 : n < 4294967296 ^ 8) (h : dl m = dl n) : m = n := by
 have key : ∀ (x : Int), 0 ≤ x → x < 4294967296 ^ 8 → x = dgI x 0 + 4294967296 * (dgI x 1 + 4294967296 * (dgI x 2 + 4294967296 * (dgI x 3 + 4294967296 * (dgI x 4 + 4294967296 * (dgI x 5 + 4294967296 * (dgI x 6 + 4294967296 * dgI x 7)))))) := by
  intro x x0 x1
  have e : ∀ k : Nat, x / 4294967296 ^ (k + 1) = x / 4294967296 ^ k / 4294967296 := fun k => by rw [Int.pow_succ, Int.ediv_ediv_of_nonneg (Int.pow_nonneg (by decide))]
  have h8 : x / 4294967296 ^ 8 = 0 := Int.ediv_eq_zero_of_lt x0 x1
  have e0 := e 0; have e1 := e 1; have e2 := e 2; have e3 := e 3; have e4 := e 4; have e5 := e 5; have e6 := e 6; have e7 := e 7
  rw [Int.pow_zero, Int.ediv_one] at e0
  simp only [Nat.zero_add, Nat.reduceAdd] at e0 e1 e2 e3 e4 e5 e6 e7
  have z : x / 4294967296 ^ 0 = x := by rw [Int.pow_zero, Int.ediv_one]
  unfold dgI
  rw [z]
  generalize x / 4294967296 ^ 1 = x1 at *
  generalize x / 4294967296 ^ 2 = x2 at *
  generalize x / 4294967296 ^ 3 = x3 at *
  generalize x / 4294967296 ^ 4 = x4 at *
  generalize x / 4294967296 ^ 5 = x5 at *
  generalize x / 4294967296 ^ 6 = x6 at *
  generalize x / 4294967296 ^ 7 = x7 at *
  generalize x / 4294967296 ^ 8 = x8 at *
  omega
 unfold dl at h
 injection h with h0 h; injection h with h1 h; injection h with h2 h; injection h with h3 h; injection h with h4 h; injection h with h5 h; injection h with h6 h; injection h with h7 h
 rw [key m m0 m1, key n n0 n1, h0, h1, h2, h3, h4, h5, h6, h7]
theorem eB_inj {x y : Int} (x0 : -(4294967296 ^ 8) < x) (x1 : x < 4294967296 ^ 8) (y0 : -(4294967296 ^ 8) < y) (y1 : y < 4294967296 ^ 8) (h : eB x = eB y) : x = y := by
 have h1 := congrArg Prod.fst h
 have h2 : dl (absZ x) = dl (absZ y) := congrArg Prod.snd h
 have h3 := dl_inj (absZ_nn x) (absZ_lt x0 x1) (absZ_nn y) (absZ_lt y0 y1) h2
 have h1' : decide (x < 0) = decide (y < 0) := h1
 rw [decide_eq_decide] at h1'
 unfold absZ at h3
 split at h3 <;> split at h3 <;> omega
def inB (v : Int) : Prop := -(4294967296 ^ 8) < v ∧ v < 4294967296 ^ 8
def numD (v : Int) : Int × Bool := if in64 v then (v, true) else (0, false)
noncomputable def numbF (p : TAs [.agg lB]) : Option (TAs [.one (.d (.int .i64)), .one (.d .bool)]) := relF (α := Int) (T := TAs [.agg lB]) (R := TAs [.one (.d (.int .i64)), .one (.d .bool)]) eB inB numD p
noncomputable def numbS : Sum := fnSum 1 0 2 [.agg lB] [.one (.d (.int .i64)), .one (.d .bool)] numbF
theorem numbS_ok : SumOk Tryz.prog laidL 62 numbS :=
 rel_ok (PS := [.agg lB]) (RS := [.one (.d (.int .i64)), .one (.d .bool)]) eB inB numD (fun v => [.agg (bigV v)]) numR Tryz.func62 (by kernel_rfl) (by kernel_rfl) rfl (fun _ => rfl)
  (fun v g vs _ h => by obtain ⟨x, rfl, h1⟩ := rep1 h; rw [repB h1]; rfl)
  (fun v g _ => by
   unfold numD numR
   by_cases h : in64 v
   ·rw [if_pos h, if_pos h]; exact ⟨_, rfl, _, _, rfl, rfl, _, _, rfl, rfl, rfl⟩
   ·rw [if_neg h, if_neg h]; exact ⟨_, rfl, _, _, rfl, rfl, _, _, rfl, rfl, rfl⟩) (fun v w hv _ => ref_Number v hv.1 hv.2 w)
theorem numbF_at {v : Int} (h : inB v) : numbF (eB v) = some (numD v) := relF_at (fun a b ha hb e => by rw [eB_inj ha.1 ha.2 hb.1 hb.2 e]) h
noncomputable def zeroF (p : TAs [.agg [.d (.arr .u64 8)]]) : Option (TAs [.one (.d .bool)]) := relF (α := Int) (T := TAs [.agg [.d (.arr .u64 8)]]) (R := TAs [.one (.d .bool)]) dl (fun m => 0 ≤ m ∧ m < 4294967296 ^ 8) (fun m => decide (m = 0)) p
noncomputable def zeroS : Sum := fnSum 1 0 1 [.agg [.d (.arr .u64 8)]] [.one (.d .bool)] zeroF
theorem zeroS_ok : SumOk Tryz.prog laidL 63 zeroS :=
 rel_ok (PS := [.agg [.d (.arr .u64 8)]]) (RS := [.one (.d .bool)]) dl (fun m => 0 ≤ m ∧ m < 4294967296 ^ 8) (fun m => decide (m = 0)) (fun m => [.agg (dgs m)]) (fun m => .bool (decide (m = 0))) Tryz.func63 (by kernel_rfl) (by kernel_rfl) rfl (fun _ => rfl)
  (fun v g vs _ h => by obtain ⟨x, rfl, h1⟩ := rep1 h; rw [repD h1]) (fun v g _ => rfl) (fun v w hv _ => ref_Zero v hv.1 hv.2 w)
theorem zeroF_at {m : Int} (h0 : 0 ≤ m) (h1 : m < 4294967296 ^ 8) : zeroF (dl m) = some (decide (m = 0)) := relF_at (fun a b ha hb e => by rw [dl_inj ha.1 ha.2 hb.1 hb.2 e]) ⟨h0, h1⟩
noncomputable def rIntF (p : TAs [.one (.d (.int .i64))]) : Option (TAs [.agg lB]) := relF (α := Int) (T := TAs [.one (.d (.int .i64))]) (R := TAs [.agg lB]) (fun a => a) in64 eB p
noncomputable def rIntS : Sum := fnSum 1 0 1 [.one (.d (.int .i64))] [.agg lB] rIntF
theorem rIntS_ok : SumOk Tryz.prog laidL 59 rIntS :=
 rel_ok (PS := [.one (.d (.int .i64))]) (RS := [.agg lB]) (fun a : Int => a) in64 eB (fun a => [.int .i64 a]) (fun a => .agg (bigV a)) Tryz.func59 (by kernel_rfl) (by kernel_rfl) rfl (fun _ => rfl)
  (fun v g vs _ h => by obtain ⟨x, rfl, h1⟩ := rep1 h; cases h1; rfl) (fun v g _ => bRep) (fun v w hv _ => ref_Int v hv w)
theorem rIntF_at {a : Int} (h : in64 a) : rIntF a = some (eB a) := relF_at (enc := fun a => a) (fun a b _ _ e => by rw [e]) h
def in4 (u : Int) : Prop := -(4294967296 ^ 4) < u ∧ u < 4294967296 ^ 4
noncomputable def rMulF (p : TAs [.agg lB, .agg lB]) : Option (TAs [.agg lB]) := relF (α := Int × Int) (T := TAs [.agg lB, .agg lB]) (R := TAs [.agg lB]) (fun a => (eB a.1, eB a.2)) (fun a => in4 a.1 ∧ in4 a.2) (fun a => eB (a.1 * a.2)) p
noncomputable def rMulS : Sum := fnSum 2 0 1 [.agg lB, .agg lB] [.agg lB] rMulF
theorem rMulS_ok : SumOk Tryz.prog laidL 58 rMulS :=
 rel_ok (PS := [.agg lB, .agg lB]) (RS := [.agg lB]) (fun a : Int × Int => (eB a.1, eB a.2)) (fun a => in4 a.1 ∧ in4 a.2) (fun a => eB (a.1 * a.2)) (fun a => [.agg (bigV a.1), .agg (bigV a.2)]) (fun a => .agg (bigV (a.1 * a.2))) Tryz.func58 (by kernel_rfl) (by kernel_rfl) rfl (fun _ => rfl)
  (fun v g vs _ h => by obtain ⟨x, y, rfl, h1, h2⟩ := rep2 h; rw [repB h1, repB h2]; rfl) (fun v g _ => bRep) (fun v w hv _ => ref_Mul v.1 v.2 hv.1.1 hv.1.2 hv.2.1 hv.2.2 w)
theorem in4_B {u : Int} (h : in4 u) : inB u := by unfold in4 at h; unfold inB; omega
theorem rMulF_at {a b : Int} (ha : in4 a) (hb : in4 b) : rMulF (eB a, eB b) = some (eB (a * b)) := relF_at (a := (a, b)) (fun a b ha hb e => by
 rw [eB_inj (in4_B ha.1).1 (in4_B ha.1).2 (in4_B hb.1).1 (in4_B hb.1).2 (congrArg Prod.fst e), eB_inj (in4_B ha.2).1 (in4_B ha.2).2 (in4_B hb.2).1 (in4_B hb.2).2 (congrArg Prod.snd e)]) ⟨ha, hb⟩
def inD (v : Int) : Prop := -(2 ^ 254) < v ∧ v < 2 ^ 254
noncomputable def rDivF (p : TAs [.agg lB, .agg lB]) : Option (TAs [.agg lB, .agg lB]) := relF (α := Int × Int) (T := TAs [.agg lB, .agg lB]) (R := TAs [.agg lB, .agg lB]) (fun a => (eB a.1, eB a.2)) (fun a => inD a.1 ∧ 0 < a.2 ∧ a.2 < 2 ^ 255) (fun a => (eB (a.1 / a.2), eB (a.1 % a.2))) p
noncomputable def rDivS : Sum := fnSum 2 0 2 [.agg lB, .agg lB] [.agg lB, .agg lB] rDivF
theorem rDivS_ok : SumOk Tryz.prog laidL 57 rDivS :=
 rel_ok (PS := [.agg lB, .agg lB]) (RS := [.agg lB, .agg lB]) (fun a : Int × Int => (eB a.1, eB a.2)) (fun a => inD a.1 ∧ 0 < a.2 ∧ a.2 < 2 ^ 255) (fun a => (eB (a.1 / a.2), eB (a.1 % a.2))) (fun a => [.agg (bigV a.1), .agg (bigV a.2)]) (fun a => .tuple #[.agg (bigV (a.1 / a.2)), .agg (bigV (a.1 % a.2))]) Tryz.func57 (by kernel_rfl) (by kernel_rfl) rfl (fun _ => rfl)
  (fun v g vs _ h => by obtain ⟨x, y, rfl, h1, h2⟩ := rep2 h; rw [repB h1, repB h2]; rfl) (fun v g _ => ⟨_, rfl, _, _, rfl, bRep, _, _, rfl, bRep, rfl⟩) (fun v w hv _ => ref_Div v.1 v.2 hv.1.1 hv.1.2 hv.2.1 hv.2.2 w)
theorem rDivF_at {a b : Int} (ha : inD a) (hb : 0 < b) (hb2 : b < 2 ^ 255) : rDivF (eB a, eB b) = some (eB (a / b), eB (a % b)) := relF_at (a := (a, b)) (fun a b ha hb e => by
 have a1 := ha.1; have b1 := hb.1
 unfold inD at a1 b1
 rw [eB_inj (by omega) (by omega) (by omega) (by omega) (congrArg Prod.fst e), eB_inj (by omega) (by omega) (by omega) (by omega) (congrArg Prod.snd e)]) ⟨ha, hb, hb2⟩
noncomputable def rPowF (p : TAs [.one (.d (.int .i64))]) : Option (TAs [.agg lB]) := relF (α := Nat) (T := TAs [.one (.d (.int .i64))]) (R := TAs [.agg lB]) (fun n => (n : Int)) (fun n => n ≤ 127) (fun n => eB (2 ^ n)) p
noncomputable def rPowS : Sum := fnSum 1 0 1 [.one (.d (.int .i64))] [.agg lB] rPowF
theorem rPowS_ok : SumOk Tryz.prog laidL 61 rPowS :=
 rel_ok (PS := [.one (.d (.int .i64))]) (RS := [.agg lB]) (fun n : Nat => (n : Int)) (fun n => n ≤ 127) (fun n => eB (2 ^ n)) (fun n => [.int .i64 n]) (fun n => .agg (bigV (2 ^ n))) Tryz.func61 (by kernel_rfl) (by kernel_rfl) rfl (fun _ => rfl)
  (fun v g vs _ h => by obtain ⟨x, rfl, h1⟩ := rep1 h; cases h1; rfl) (fun v g _ => bRep) (fun v w hv _ => ref_Power v hv w)
theorem rPowF_at {n : Nat} (h : n ≤ 127) : rPowF (n : Int) = some (eB (2 ^ n)) := relF_at (enc := fun n : Nat => (n : Int)) (fun a b _ _ e => by
 have e : (a : Int) = b := e
 rw [show a = b by omega]) h
end Go.Proofs.YthpljlpokmoeeaaGreatDoor.Mir
namespace Go.Proofs.YthpljlpokmoeeaaGreatDoor.Mir
open Go Go.RowKit
set_option maxRecDepth 100000
def ti_2 : TI := ⟨.int .i64, 1, 8, [int .i64 0], [.int .i64]⟩
theorem tk_2 : TyOk1 Go.Proofs.Tryz.prog 2 ti_2 := ⟨by kernel_rfl, fieldsNone (fun fs h => by cases h), ⟨Go.Proofs.Tryz.t2, (Go.Proofs.Tryz.t2.zero).getD .nilIface, by kernel_rfl, by kernel_rfl, by kernel_rfl, by kernel_rfl, by kernel_rfl⟩⟩
def ti_3 : TI := ⟨.int .i64, 1, 8, [int .i64 0], [.int .i64]⟩
theorem tk_3 : TyOk1 Go.Proofs.Tryz.prog 3 ti_3 := ⟨by kernel_rfl, fieldsNone (fun fs h => by cases h), ⟨Go.Proofs.Tryz.t3, (Go.Proofs.Tryz.t3.zero).getD .nilIface, by kernel_rfl, by kernel_rfl, by kernel_rfl, by kernel_rfl, by kernel_rfl⟩⟩
def ti_4 : TI := ⟨.bool, 1, 1, [boolC false], [.bool]⟩
theorem tk_4 : TyOk1 Go.Proofs.Tryz.prog 4 ti_4 := ⟨by kernel_rfl, fieldsNone (fun fs h => by cases h), ⟨Go.Proofs.Tryz.t4, (Go.Proofs.Tryz.t4.zero).getD .nilIface, by kernel_rfl, by kernel_rfl, by kernel_rfl, by kernel_rfl, by kernel_rfl⟩⟩
def ti_5 : TI := ⟨.int .u8, 1, 1, [int .u8 0], [.int .u8]⟩
theorem tk_5 : TyOk1 Go.Proofs.Tryz.prog 5 ti_5 := ⟨by kernel_rfl, fieldsNone (fun fs h => by cases h), ⟨Go.Proofs.Tryz.t5, (Go.Proofs.Tryz.t5.zero).getD .nilIface, by kernel_rfl, by kernel_rfl, by kernel_rfl, by kernel_rfl, by kernel_rfl⟩⟩
def ti_9 : TI := ⟨.string, 1, 16, [.lit (.string ByteArray.empty)], [.str]⟩
theorem tk_9 : TyOk1 Go.Proofs.Tryz.prog 9 ti_9 := ⟨by kernel_rfl, fieldsNone (fun fs h => by cases h), ⟨Go.Proofs.Tryz.t9, (Go.Proofs.Tryz.t9.zero).getD .nilIface, by kernel_rfl, by kernel_rfl, by kernel_rfl, by kernel_rfl, by kernel_rfl⟩⟩
def ti_22 : TI := ⟨.int .u32, 1, 4, [int .u32 0], [.int .u32]⟩
theorem tk_22 : TyOk1 Go.Proofs.Tryz.prog 22 ti_22 := ⟨by kernel_rfl, fieldsNone (fun fs h => by cases h), ⟨Go.Proofs.Tryz.t22, (Go.Proofs.Tryz.t22.zero).getD .nilIface, by kernel_rfl, by kernel_rfl, by kernel_rfl, by kernel_rfl, by kernel_rfl⟩⟩
def ti_24 : TI := ⟨.struct #[{ name := "Mult", type := 22, offset := 0, embedded := false, tag := "", pkgPath := "", byteOffset := 0 }, { name := "Shift", type := 3, offset := 1, embedded := false, tag := "", pkgPath := "", byteOffset := 8 }], 2, 16, [int .u32 0, int .i64 0], [.int .u32, .int .i64]⟩
theorem tk_24 : TyOk1 Go.Proofs.Tryz.prog 24 ti_24 := ⟨by kernel_rfl, fieldsSome rfl (by kernel_rfl), ⟨Go.Proofs.Tryz.t24, (Go.Proofs.Tryz.t24.zero).getD .nilIface, by kernel_rfl, by kernel_rfl, by kernel_rfl, by kernel_rfl, by kernel_rfl⟩⟩
def ti_26 : TI := ⟨.struct #[{ name := "Epoch", type := 2, offset := 0, embedded := false, tag := "", pkgPath := "", byteOffset := 0 }, { name := "Base", type := 2, offset := 1, embedded := false, tag := "", pkgPath := "", byteOffset := 8 }, { name := "Tai", type := 2, offset := 2, embedded := false, tag := "", pkgPath := "", byteOffset := 16 }, { name := "Err", type := 2, offset := 3, embedded := false, tag := "", pkgPath := "", byteOffset := 24 }, { name := "Go", type := 24, offset := 4, embedded := false, tag := "", pkgPath := "", byteOffset := 32 }, { name := "Plain", type := 24, offset := 6, embedded := false, tag := "", pkgPath := "", byteOffset := 48 }, { name := "Parts", type := 2, offset := 8, embedded := false, tag := "", pkgPath := "", byteOffset := 64 }, { name := "Cap", type := 2, offset := 9, embedded := false, tag := "", pkgPath := "", byteOffset := 72 }], 10, 80, [int .i64 0, int .i64 0, int .i64 0, int .i64 0, int .u32 0, int .i64 0, int .u32 0, int .i64 0, int .i64 0, int .i64 0], [.int .i64, .int .i64, .int .i64, .int .i64, .int .u32, .int .i64, .int .u32, .int .i64, .int .i64, .int .i64]⟩
theorem tk_26 : TyOk1 Go.Proofs.Tryz.prog 26 ti_26 := ⟨by kernel_rfl, fieldsSome rfl (by kernel_rfl), ⟨Go.Proofs.Tryz.t26, (Go.Proofs.Tryz.t26.zero).getD .nilIface, by kernel_rfl, by kernel_rfl, by kernel_rfl, by kernel_rfl, by kernel_rfl⟩⟩
def ti_28 : TI := ⟨.struct #[{ name := "Kind", type := 3, offset := 0, embedded := false, tag := "", pkgPath := "", byteOffset := 0 }, { name := "Before", type := 2, offset := 1, embedded := false, tag := "", pkgPath := "", byteOffset := 8 }, { name := "After", type := 2, offset := 2, embedded := false, tag := "", pkgPath := "", byteOffset := 16 }], 3, 24, [int .i64 0, int .i64 0, int .i64 0], [.int .i64, .int .i64, .int .i64]⟩
theorem tk_28 : TyOk1 Go.Proofs.Tryz.prog 28 ti_28 := ⟨by kernel_rfl, fieldsSome rfl (by kernel_rfl), ⟨Go.Proofs.Tryz.t28, (Go.Proofs.Tryz.t28.zero).getD .nilIface, by kernel_rfl, by kernel_rfl, by kernel_rfl, by kernel_rfl, by kernel_rfl⟩⟩
def ti_30 : TI := ⟨.struct #[{ name := "Width", type := 2, offset := 0, embedded := false, tag := "", pkgPath := "", byteOffset := 0 }, { name := "Cell", type := 2, offset := 1, embedded := false, tag := "", pkgPath := "", byteOffset := 8 }], 2, 16, [int .i64 0, int .i64 0], [.int .i64, .int .i64]⟩
theorem tk_30 : TyOk1 Go.Proofs.Tryz.prog 30 ti_30 := ⟨by kernel_rfl, fieldsSome rfl (by kernel_rfl), ⟨Go.Proofs.Tryz.t30, (Go.Proofs.Tryz.t30.zero).getD .nilIface, by kernel_rfl, by kernel_rfl, by kernel_rfl, by kernel_rfl, by kernel_rfl⟩⟩
def ti_31 : TI := ⟨.slice 124, 1, 24, [.lit (.slice none 0 0)], [.sl [.int .i64, .int .i64, .str]]⟩
theorem tk_31 : TyOk1 Go.Proofs.Tryz.prog 31 ti_31 := ⟨by kernel_rfl, fieldsNone (fun fs h => by cases h), ⟨Go.Proofs.Tryz.t31, (Go.Proofs.Tryz.t31.zero).getD .nilIface, by kernel_rfl, by kernel_rfl, by kernel_rfl, by kernel_rfl, by kernel_rfl⟩⟩
def ti_33 : TI := ⟨.struct #[{ name := "Name", type := 9, offset := 0, embedded := false, tag := "", pkgPath := "", byteOffset := 0 }, { name := "First", type := 2, offset := 1, embedded := false, tag := "", pkgPath := "", byteOffset := 16 }, { name := "L", type := 31, offset := 2, embedded := false, tag := "", pkgPath := "", byteOffset := 24 }], 3, 48, [.lit (.string ByteArray.empty), int .i64 0, .lit (.slice none 0 0)], [.str, .int .i64, .sl [.int .i64, .int .i64, .str]]⟩
theorem tk_33 : TyOk1 Go.Proofs.Tryz.prog 33 ti_33 := ⟨by kernel_rfl, fieldsSome rfl (by kernel_rfl), ⟨Go.Proofs.Tryz.t33, (Go.Proofs.Tryz.t33.zero).getD .nilIface, by kernel_rfl, by kernel_rfl, by kernel_rfl, by kernel_rfl, by kernel_rfl⟩⟩
def ti_35 : TI := ⟨.struct #[{ name := "Smear", type := 28, offset := 0, embedded := false, tag := "", pkgPath := "", byteOffset := 0 }, { name := "Quantum", type := 2, offset := 3, embedded := false, tag := "", pkgPath := "", byteOffset := 24 }, { name := "Fuzz", type := 30, offset := 4, embedded := false, tag := "", pkgPath := "", byteOffset := 32 }, { name := "Jump", type := 4, offset := 6, embedded := false, tag := "", pkgPath := "", byteOffset := 48 }, { name := "Zone", type := 33, offset := 7, embedded := false, tag := "", pkgPath := "", byteOffset := 56 }], 10, 104, [int .i64 0, int .i64 0, int .i64 0, int .i64 0, int .i64 0, int .i64 0, boolC false, .lit (.string ByteArray.empty), int .i64 0, .lit (.slice none 0 0)], [.int .i64, .int .i64, .int .i64, .int .i64, .int .i64, .int .i64, .bool, .str, .int .i64, .sl [.int .i64, .int .i64, .str]]⟩
theorem tk_35 : TyOk1 Go.Proofs.Tryz.prog 35 ti_35 := ⟨by kernel_rfl, fieldsSome rfl (by kernel_rfl), ⟨Go.Proofs.Tryz.t35, (Go.Proofs.Tryz.t35.zero).getD .nilIface, by kernel_rfl, by kernel_rfl, by kernel_rfl, by kernel_rfl, by kernel_rfl⟩⟩
def ti_36 : TI := ⟨.array 3 2, 3, 24, [.arr .i64 3 (List.replicate 3 0)], [.arr .i64 3]⟩
theorem tk_36 : TyOk1 Go.Proofs.Tryz.prog 36 ti_36 := ⟨by kernel_rfl, fieldsNone (fun fs h => by cases h), ⟨Go.Proofs.Tryz.t36, (Go.Proofs.Tryz.t36.zero).getD .nilIface, by kernel_rfl, by kernel_rfl, by kernel_rfl, by kernel_rfl, by kernel_rfl⟩⟩
def ti_39 : TI := ⟨.struct #[{ name := "Mult", type := 22, offset := 0, embedded := false, tag := "", pkgPath := "", byteOffset := 0 }, { name := "Shift", type := 3, offset := 1, embedded := false, tag := "", pkgPath := "", byteOffset := 8 }], 2, 16, [int .u32 0, int .i64 0], [.int .u32, .int .i64]⟩
theorem tk_39 : TyOk1 Go.Proofs.Tryz.prog 39 ti_39 := ⟨by kernel_rfl, fieldsSome rfl (by kernel_rfl), ⟨Go.Proofs.Tryz.t39, (Go.Proofs.Tryz.t39.zero).getD .nilIface, by kernel_rfl, by kernel_rfl, by kernel_rfl, by kernel_rfl, by kernel_rfl⟩⟩
def ti_41 : TI := ⟨.struct #[{ name := "Epoch", type := 2, offset := 0, embedded := false, tag := "", pkgPath := "", byteOffset := 0 }, { name := "Base", type := 2, offset := 1, embedded := false, tag := "", pkgPath := "", byteOffset := 8 }, { name := "Tai", type := 2, offset := 2, embedded := false, tag := "", pkgPath := "", byteOffset := 16 }, { name := "Err", type := 2, offset := 3, embedded := false, tag := "", pkgPath := "", byteOffset := 24 }, { name := "Go", type := 39, offset := 4, embedded := false, tag := "", pkgPath := "", byteOffset := 32 }, { name := "Plain", type := 39, offset := 6, embedded := false, tag := "", pkgPath := "", byteOffset := 48 }, { name := "Parts", type := 2, offset := 8, embedded := false, tag := "", pkgPath := "", byteOffset := 64 }, { name := "Cap", type := 2, offset := 9, embedded := false, tag := "", pkgPath := "", byteOffset := 72 }], 10, 80, [int .i64 0, int .i64 0, int .i64 0, int .i64 0, int .u32 0, int .i64 0, int .u32 0, int .i64 0, int .i64 0, int .i64 0], [.int .i64, .int .i64, .int .i64, .int .i64, .int .u32, .int .i64, .int .u32, .int .i64, .int .i64, .int .i64]⟩
theorem tk_41 : TyOk1 Go.Proofs.Tryz.prog 41 ti_41 := ⟨by kernel_rfl, fieldsSome rfl (by kernel_rfl), ⟨Go.Proofs.Tryz.t41, (Go.Proofs.Tryz.t41.zero).getD .nilIface, by kernel_rfl, by kernel_rfl, by kernel_rfl, by kernel_rfl, by kernel_rfl⟩⟩
def ti_43 : TI := ⟨.struct #[{ name := "Kind", type := 3, offset := 0, embedded := false, tag := "", pkgPath := "", byteOffset := 0 }, { name := "Before", type := 2, offset := 1, embedded := false, tag := "", pkgPath := "", byteOffset := 8 }, { name := "After", type := 2, offset := 2, embedded := false, tag := "", pkgPath := "", byteOffset := 16 }], 3, 24, [int .i64 0, int .i64 0, int .i64 0], [.int .i64, .int .i64, .int .i64]⟩
theorem tk_43 : TyOk1 Go.Proofs.Tryz.prog 43 ti_43 := ⟨by kernel_rfl, fieldsSome rfl (by kernel_rfl), ⟨Go.Proofs.Tryz.t43, (Go.Proofs.Tryz.t43.zero).getD .nilIface, by kernel_rfl, by kernel_rfl, by kernel_rfl, by kernel_rfl, by kernel_rfl⟩⟩
def ti_44 : TI := ⟨.struct #[{ name := "Width", type := 2, offset := 0, embedded := false, tag := "", pkgPath := "", byteOffset := 0 }, { name := "Cell", type := 2, offset := 1, embedded := false, tag := "", pkgPath := "", byteOffset := 8 }], 2, 16, [int .i64 0, int .i64 0], [.int .i64, .int .i64]⟩
theorem tk_44 : TyOk1 Go.Proofs.Tryz.prog 44 ti_44 := ⟨by kernel_rfl, fieldsSome rfl (by kernel_rfl), ⟨Go.Proofs.Tryz.t44, (Go.Proofs.Tryz.t44.zero).getD .nilIface, by kernel_rfl, by kernel_rfl, by kernel_rfl, by kernel_rfl, by kernel_rfl⟩⟩
def ti_45 : TI := ⟨.slice 195, 1, 24, [.lit (.slice none 0 0)], [.sl [.int .i64, .int .i64, .str]]⟩
theorem tk_45 : TyOk1 Go.Proofs.Tryz.prog 45 ti_45 := ⟨by kernel_rfl, fieldsNone (fun fs h => by cases h), ⟨Go.Proofs.Tryz.t45, (Go.Proofs.Tryz.t45.zero).getD .nilIface, by kernel_rfl, by kernel_rfl, by kernel_rfl, by kernel_rfl, by kernel_rfl⟩⟩
def ti_47 : TI := ⟨.struct #[{ name := "Name", type := 9, offset := 0, embedded := false, tag := "", pkgPath := "", byteOffset := 0 }, { name := "First", type := 2, offset := 1, embedded := false, tag := "", pkgPath := "", byteOffset := 16 }, { name := "L", type := 45, offset := 2, embedded := false, tag := "", pkgPath := "", byteOffset := 24 }], 3, 48, [.lit (.string ByteArray.empty), int .i64 0, .lit (.slice none 0 0)], [.str, .int .i64, .sl [.int .i64, .int .i64, .str]]⟩
theorem tk_47 : TyOk1 Go.Proofs.Tryz.prog 47 ti_47 := ⟨by kernel_rfl, fieldsSome rfl (by kernel_rfl), ⟨Go.Proofs.Tryz.t47, (Go.Proofs.Tryz.t47.zero).getD .nilIface, by kernel_rfl, by kernel_rfl, by kernel_rfl, by kernel_rfl, by kernel_rfl⟩⟩
def ti_49 : TI := ⟨.struct #[{ name := "Smear", type := 43, offset := 0, embedded := false, tag := "", pkgPath := "", byteOffset := 0 }, { name := "Quantum", type := 2, offset := 3, embedded := false, tag := "", pkgPath := "", byteOffset := 24 }, { name := "Fuzz", type := 44, offset := 4, embedded := false, tag := "", pkgPath := "", byteOffset := 32 }, { name := "Jump", type := 4, offset := 6, embedded := false, tag := "", pkgPath := "", byteOffset := 48 }, { name := "Zone", type := 47, offset := 7, embedded := false, tag := "", pkgPath := "", byteOffset := 56 }], 10, 104, [int .i64 0, int .i64 0, int .i64 0, int .i64 0, int .i64 0, int .i64 0, boolC false, .lit (.string ByteArray.empty), int .i64 0, .lit (.slice none 0 0)], [.int .i64, .int .i64, .int .i64, .int .i64, .int .i64, .int .i64, .bool, .str, .int .i64, .sl [.int .i64, .int .i64, .str]]⟩
theorem tk_49 : TyOk1 Go.Proofs.Tryz.prog 49 ti_49 := ⟨by kernel_rfl, fieldsSome rfl (by kernel_rfl), ⟨Go.Proofs.Tryz.t49, (Go.Proofs.Tryz.t49.zero).getD .nilIface, by kernel_rfl, by kernel_rfl, by kernel_rfl, by kernel_rfl, by kernel_rfl⟩⟩
def ti_52 : TI := ⟨.struct #[{ name := "Set", type := 2, offset := 0, embedded := false, tag := "", pkgPath := "", byteOffset := 0 }, { name := "Age", type := 2, offset := 1, embedded := false, tag := "", pkgPath := "", byteOffset := 8 }, { name := "Fit", type := 2, offset := 2, embedded := false, tag := "", pkgPath := "", byteOffset := 16 }, { name := "Fuzz", type := 2, offset := 3, embedded := false, tag := "", pkgPath := "", byteOffset := 24 }, { name := "Step", type := 2, offset := 4, embedded := false, tag := "", pkgPath := "", byteOffset := 32 }, { name := "Leap", type := 2, offset := 5, embedded := false, tag := "", pkgPath := "", byteOffset := 40 }, { name := "Raise", type := 2, offset := 6, embedded := false, tag := "", pkgPath := "", byteOffset := 48 }], 7, 56, [int .i64 0, int .i64 0, int .i64 0, int .i64 0, int .i64 0, int .i64 0, int .i64 0], [.int .i64, .int .i64, .int .i64, .int .i64, .int .i64, .int .i64, .int .i64]⟩
theorem tk_52 : TyOk1 Go.Proofs.Tryz.prog 52 ti_52 := ⟨by kernel_rfl, fieldsSome rfl (by kernel_rfl), ⟨Go.Proofs.Tryz.t52, (Go.Proofs.Tryz.t52.zero).getD .nilIface, by kernel_rfl, by kernel_rfl, by kernel_rfl, by kernel_rfl, by kernel_rfl⟩⟩
def ti_54 : TI := ⟨.interface #[("Error", 349)], 1, 16, [.lit .nilIface], [.err 129]⟩
theorem tk_54 : TyOk1 Go.Proofs.Tryz.prog 54 ti_54 := ⟨by kernel_rfl, fieldsNone (fun fs h => by cases h), ⟨Go.Proofs.Tryz.t54, (Go.Proofs.Tryz.t54.zero).getD .nilIface, by kernel_rfl, by kernel_rfl, by kernel_rfl, by kernel_rfl, by kernel_rfl⟩⟩
def ti_57 : TI := ⟨.struct #[{ name := "Set", type := 2, offset := 0, embedded := false, tag := "", pkgPath := "", byteOffset := 0 }, { name := "Age", type := 2, offset := 1, embedded := false, tag := "", pkgPath := "", byteOffset := 8 }, { name := "Fit", type := 2, offset := 2, embedded := false, tag := "", pkgPath := "", byteOffset := 16 }, { name := "Fuzz", type := 2, offset := 3, embedded := false, tag := "", pkgPath := "", byteOffset := 24 }, { name := "Step", type := 2, offset := 4, embedded := false, tag := "", pkgPath := "", byteOffset := 32 }, { name := "Leap", type := 2, offset := 5, embedded := false, tag := "", pkgPath := "", byteOffset := 40 }, { name := "Raise", type := 2, offset := 6, embedded := false, tag := "", pkgPath := "", byteOffset := 48 }], 7, 56, [int .i64 0, int .i64 0, int .i64 0, int .i64 0, int .i64 0, int .i64 0, int .i64 0], [.int .i64, .int .i64, .int .i64, .int .i64, .int .i64, .int .i64, .int .i64]⟩
theorem tk_57 : TyOk1 Go.Proofs.Tryz.prog 57 ti_57 := ⟨by kernel_rfl, fieldsSome rfl (by kernel_rfl), ⟨Go.Proofs.Tryz.t57, (Go.Proofs.Tryz.t57.zero).getD .nilIface, by kernel_rfl, by kernel_rfl, by kernel_rfl, by kernel_rfl, by kernel_rfl⟩⟩
def ti_65 : TI := ⟨.struct #[{ name := "Value", type := 2, offset := 0, embedded := false, tag := "", pkgPath := "", byteOffset := 0 }, { name := "Bound", type := 2, offset := 1, embedded := false, tag := "", pkgPath := "", byteOffset := 8 }, { name := "Raised", type := 2, offset := 2, embedded := false, tag := "", pkgPath := "", byteOffset := 16 }, { name := "Host", type := 2, offset := 3, embedded := false, tag := "", pkgPath := "", byteOffset := 24 }], 4, 32, [int .i64 0, int .i64 0, int .i64 0, int .i64 0], [.int .i64, .int .i64, .int .i64, .int .i64]⟩
theorem tk_65 : TyOk1 Go.Proofs.Tryz.prog 65 ti_65 := ⟨by kernel_rfl, fieldsSome rfl (by kernel_rfl), ⟨Go.Proofs.Tryz.t65, (Go.Proofs.Tryz.t65.zero).getD .nilIface, by kernel_rfl, by kernel_rfl, by kernel_rfl, by kernel_rfl, by kernel_rfl⟩⟩
def ti_71 : TI := ⟨.array 16 5, 16, 16, [.arr .u8 16 (List.replicate 16 0)], [.arr .u8 16]⟩
theorem tk_71 : TyOk1 Go.Proofs.Tryz.prog 71 ti_71 := ⟨by kernel_rfl, fieldsNone (fun fs h => by cases h), ⟨Go.Proofs.Tryz.t71, (Go.Proofs.Tryz.t71.zero).getD .nilIface, by kernel_rfl, by kernel_rfl, by kernel_rfl, by kernel_rfl, by kernel_rfl⟩⟩
def ti_73 : TI := ⟨.struct #[{ name := "On", type := 4, offset := 0, embedded := false, tag := "", pkgPath := "", byteOffset := 0 }, { name := "At", type := 2, offset := 1, embedded := false, tag := "", pkgPath := "", byteOffset := 8 }, { name := "Lost", type := 2, offset := 2, embedded := false, tag := "", pkgPath := "", byteOffset := 16 }], 3, 24, [boolC false, int .i64 0, int .i64 0], [.bool, .int .i64, .int .i64]⟩
theorem tk_73 : TyOk1 Go.Proofs.Tryz.prog 73 ti_73 := ⟨by kernel_rfl, fieldsSome rfl (by kernel_rfl), ⟨Go.Proofs.Tryz.t73, (Go.Proofs.Tryz.t73.zero).getD .nilIface, by kernel_rfl, by kernel_rfl, by kernel_rfl, by kernel_rfl, by kernel_rfl⟩⟩
def ti_75 : TI := ⟨.struct #[{ name := "Set", type := 4, offset := 0, embedded := false, tag := "", pkgPath := "", byteOffset := 0 }, { name := "At", type := 2, offset := 1, embedded := false, tag := "", pkgPath := "", byteOffset := 8 }], 2, 16, [boolC false, int .i64 0], [.bool, .int .i64]⟩
theorem tk_75 : TyOk1 Go.Proofs.Tryz.prog 75 ti_75 := ⟨by kernel_rfl, fieldsSome rfl (by kernel_rfl), ⟨Go.Proofs.Tryz.t75, (Go.Proofs.Tryz.t75.zero).getD .nilIface, by kernel_rfl, by kernel_rfl, by kernel_rfl, by kernel_rfl, by kernel_rfl⟩⟩
def ti_77 : TI := ⟨.struct #[{ name := "Name", type := 9, offset := 0, embedded := false, tag := "", pkgPath := "", byteOffset := 0 }, { name := "Key", type := 71, offset := 1, embedded := false, tag := "", pkgPath := "", byteOffset := 16 }, { name := "P", type := 35, offset := 17, embedded := false, tag := "", pkgPath := "", byteOffset := 32 }, { name := "Pause", type := 73, offset := 27, embedded := false, tag := "", pkgPath := "", byteOffset := 136 }, { name := "Floor", type := 75, offset := 30, embedded := false, tag := "", pkgPath := "", byteOffset := 160 }, { name := "Epoch", type := 2, offset := 32, embedded := false, tag := "", pkgPath := "", byteOffset := 176 }], 33, 184, [.lit (.string ByteArray.empty), .arr .u8 16 (List.replicate 16 0), int .i64 0, int .i64 0, int .i64 0, int .i64 0, int .i64 0, int .i64 0, boolC false, .lit (.string ByteArray.empty), int .i64 0, .lit (.slice none 0 0), boolC false, int .i64 0, int .i64 0, boolC false, int .i64 0, int .i64 0], [.str, .arr .u8 16, .int .i64, .int .i64, .int .i64, .int .i64, .int .i64, .int .i64, .bool, .str, .int .i64, .sl [.int .i64, .int .i64, .str], .bool, .int .i64, .int .i64, .bool, .int .i64, .int .i64]⟩
theorem tk_77 : TyOk1 Go.Proofs.Tryz.prog 77 ti_77 := ⟨by kernel_rfl, fieldsSome rfl (by kernel_rfl), ⟨Go.Proofs.Tryz.t77, (Go.Proofs.Tryz.t77.zero).getD .nilIface, by kernel_rfl, by kernel_rfl, by kernel_rfl, by kernel_rfl, by kernel_rfl⟩⟩
def ti_78 : TI := ⟨.slice 2, 1, 24, [.lit (.slice none 0 0)], [.sl [.int .i64]]⟩
theorem tk_78 : TyOk1 Go.Proofs.Tryz.prog 78 ti_78 := ⟨by kernel_rfl, fieldsNone (fun fs h => by cases h), ⟨Go.Proofs.Tryz.t78, (Go.Proofs.Tryz.t78.zero).getD .nilIface, by kernel_rfl, by kernel_rfl, by kernel_rfl, by kernel_rfl, by kernel_rfl⟩⟩
def ti_80 : TI := ⟨.struct #[{ name := "Base", type := 2, offset := 0, embedded := false, tag := "", pkgPath := "", byteOffset := 0 }, { name := "Last", type := 2, offset := 1, embedded := false, tag := "", pkgPath := "", byteOffset := 8 }, { name := "L", type := 78, offset := 2, embedded := false, tag := "", pkgPath := "", byteOffset := 16 }], 3, 40, [int .i64 0, int .i64 0, .lit (.slice none 0 0)], [.int .i64, .int .i64, .sl [.int .i64]]⟩
theorem tk_80 : TyOk1 Go.Proofs.Tryz.prog 80 ti_80 := ⟨by kernel_rfl, fieldsSome rfl (by kernel_rfl), ⟨Go.Proofs.Tryz.t80, (Go.Proofs.Tryz.t80.zero).getD .nilIface, by kernel_rfl, by kernel_rfl, by kernel_rfl, by kernel_rfl, by kernel_rfl⟩⟩
def ti_81 : TI := ⟨.array 16 5, 16, 16, [.arr .u8 16 (List.replicate 16 0)], [.arr .u8 16]⟩
theorem tk_81 : TyOk1 Go.Proofs.Tryz.prog 81 ti_81 := ⟨by kernel_rfl, fieldsNone (fun fs h => by cases h), ⟨Go.Proofs.Tryz.t81, (Go.Proofs.Tryz.t81.zero).getD .nilIface, by kernel_rfl, by kernel_rfl, by kernel_rfl, by kernel_rfl, by kernel_rfl⟩⟩
def ti_82 : TI := ⟨.struct #[{ name := "On", type := 4, offset := 0, embedded := false, tag := "", pkgPath := "", byteOffset := 0 }, { name := "At", type := 2, offset := 1, embedded := false, tag := "", pkgPath := "", byteOffset := 8 }, { name := "Lost", type := 2, offset := 2, embedded := false, tag := "", pkgPath := "", byteOffset := 16 }], 3, 24, [boolC false, int .i64 0, int .i64 0], [.bool, .int .i64, .int .i64]⟩
theorem tk_82 : TyOk1 Go.Proofs.Tryz.prog 82 ti_82 := ⟨by kernel_rfl, fieldsSome rfl (by kernel_rfl), ⟨Go.Proofs.Tryz.t82, (Go.Proofs.Tryz.t82.zero).getD .nilIface, by kernel_rfl, by kernel_rfl, by kernel_rfl, by kernel_rfl, by kernel_rfl⟩⟩
def ti_83 : TI := ⟨.struct #[{ name := "Set", type := 4, offset := 0, embedded := false, tag := "", pkgPath := "", byteOffset := 0 }, { name := "At", type := 2, offset := 1, embedded := false, tag := "", pkgPath := "", byteOffset := 8 }], 2, 16, [boolC false, int .i64 0], [.bool, .int .i64]⟩
theorem tk_83 : TyOk1 Go.Proofs.Tryz.prog 83 ti_83 := ⟨by kernel_rfl, fieldsSome rfl (by kernel_rfl), ⟨Go.Proofs.Tryz.t83, (Go.Proofs.Tryz.t83.zero).getD .nilIface, by kernel_rfl, by kernel_rfl, by kernel_rfl, by kernel_rfl, by kernel_rfl⟩⟩
def ti_85 : TI := ⟨.struct #[{ name := "Name", type := 9, offset := 0, embedded := false, tag := "", pkgPath := "", byteOffset := 0 }, { name := "Key", type := 81, offset := 1, embedded := false, tag := "", pkgPath := "", byteOffset := 16 }, { name := "P", type := 49, offset := 17, embedded := false, tag := "", pkgPath := "", byteOffset := 32 }, { name := "Pause", type := 82, offset := 27, embedded := false, tag := "", pkgPath := "", byteOffset := 136 }, { name := "Floor", type := 83, offset := 30, embedded := false, tag := "", pkgPath := "", byteOffset := 160 }, { name := "Epoch", type := 2, offset := 32, embedded := false, tag := "", pkgPath := "", byteOffset := 176 }], 33, 184, [.lit (.string ByteArray.empty), .arr .u8 16 (List.replicate 16 0), int .i64 0, int .i64 0, int .i64 0, int .i64 0, int .i64 0, int .i64 0, boolC false, .lit (.string ByteArray.empty), int .i64 0, .lit (.slice none 0 0), boolC false, int .i64 0, int .i64 0, boolC false, int .i64 0, int .i64 0], [.str, .arr .u8 16, .int .i64, .int .i64, .int .i64, .int .i64, .int .i64, .int .i64, .bool, .str, .int .i64, .sl [.int .i64, .int .i64, .str], .bool, .int .i64, .int .i64, .bool, .int .i64, .int .i64]⟩
theorem tk_85 : TyOk1 Go.Proofs.Tryz.prog 85 ti_85 := ⟨by kernel_rfl, fieldsSome rfl (by kernel_rfl), ⟨Go.Proofs.Tryz.t85, (Go.Proofs.Tryz.t85.zero).getD .nilIface, by kernel_rfl, by kernel_rfl, by kernel_rfl, by kernel_rfl, by kernel_rfl⟩⟩
def ti_87 : TI := ⟨.struct #[{ name := "Base", type := 2, offset := 0, embedded := false, tag := "", pkgPath := "", byteOffset := 0 }, { name := "Last", type := 2, offset := 1, embedded := false, tag := "", pkgPath := "", byteOffset := 8 }, { name := "L", type := 78, offset := 2, embedded := false, tag := "", pkgPath := "", byteOffset := 16 }], 3, 40, [int .i64 0, int .i64 0, .lit (.slice none 0 0)], [.int .i64, .int .i64, .sl [.int .i64]]⟩
theorem tk_87 : TyOk1 Go.Proofs.Tryz.prog 87 ti_87 := ⟨by kernel_rfl, fieldsSome rfl (by kernel_rfl), ⟨Go.Proofs.Tryz.t87, (Go.Proofs.Tryz.t87.zero).getD .nilIface, by kernel_rfl, by kernel_rfl, by kernel_rfl, by kernel_rfl, by kernel_rfl⟩⟩
def ti_95 : TI := ⟨.struct #[{ name := "Tai", type := 2, offset := 0, embedded := false, tag := "", pkgPath := "", byteOffset := 0 }, { name := "Off", type := 2, offset := 1, embedded := false, tag := "", pkgPath := "", byteOffset := 8 }, { name := "P", type := 35, offset := 2, embedded := false, tag := "", pkgPath := "", byteOffset := 16 }, { name := "Kind", type := 3, offset := 12, embedded := false, tag := "", pkgPath := "", byteOffset := 120 }], 13, 128, [int .i64 0, int .i64 0, int .i64 0, int .i64 0, int .i64 0, int .i64 0, int .i64 0, int .i64 0, boolC false, .lit (.string ByteArray.empty), int .i64 0, .lit (.slice none 0 0), int .i64 0], [.int .i64, .int .i64, .int .i64, .int .i64, .int .i64, .int .i64, .int .i64, .int .i64, .bool, .str, .int .i64, .sl [.int .i64, .int .i64, .str], .int .i64]⟩
theorem tk_95 : TyOk1 Go.Proofs.Tryz.prog 95 ti_95 := ⟨by kernel_rfl, fieldsSome rfl (by kernel_rfl), ⟨Go.Proofs.Tryz.t95, (Go.Proofs.Tryz.t95.zero).getD .nilIface, by kernel_rfl, by kernel_rfl, by kernel_rfl, by kernel_rfl, by kernel_rfl⟩⟩
def ti_96 : TI := ⟨.struct #[{ name := "Value", type := 2, offset := 0, embedded := false, tag := "", pkgPath := "", byteOffset := 0 }, { name := "Bound", type := 2, offset := 1, embedded := false, tag := "", pkgPath := "", byteOffset := 8 }, { name := "Raised", type := 2, offset := 2, embedded := false, tag := "", pkgPath := "", byteOffset := 16 }, { name := "Host", type := 2, offset := 3, embedded := false, tag := "", pkgPath := "", byteOffset := 24 }], 4, 32, [int .i64 0, int .i64 0, int .i64 0, int .i64 0], [.int .i64, .int .i64, .int .i64, .int .i64]⟩
theorem tk_96 : TyOk1 Go.Proofs.Tryz.prog 96 ti_96 := ⟨by kernel_rfl, fieldsSome rfl (by kernel_rfl), ⟨Go.Proofs.Tryz.t96, (Go.Proofs.Tryz.t96.zero).getD .nilIface, by kernel_rfl, by kernel_rfl, by kernel_rfl, by kernel_rfl, by kernel_rfl⟩⟩
def ti_108 : TI := ⟨.struct #[{ name := "Day", type := 2, offset := 0, embedded := false, tag := "", pkgPath := "", byteOffset := 0 }, { name := "Second", type := 2, offset := 1, embedded := false, tag := "", pkgPath := "", byteOffset := 8 }], 2, 16, [int .i64 0, int .i64 0], [.int .i64, .int .i64]⟩
theorem tk_108 : TyOk1 Go.Proofs.Tryz.prog 108 ti_108 := ⟨by kernel_rfl, fieldsSome rfl (by kernel_rfl), ⟨Go.Proofs.Tryz.t108, (Go.Proofs.Tryz.t108.zero).getD .nilIface, by kernel_rfl, by kernel_rfl, by kernel_rfl, by kernel_rfl, by kernel_rfl⟩⟩
def ti_111 : TI := ⟨.struct #[{ name := "Day", type := 2, offset := 0, embedded := false, tag := "", pkgPath := "", byteOffset := 0 }, { name := "Second", type := 2, offset := 1, embedded := false, tag := "", pkgPath := "", byteOffset := 8 }], 2, 16, [int .i64 0, int .i64 0], [.int .i64, .int .i64]⟩
theorem tk_111 : TyOk1 Go.Proofs.Tryz.prog 111 ti_111 := ⟨by kernel_rfl, fieldsSome rfl (by kernel_rfl), ⟨Go.Proofs.Tryz.t111, (Go.Proofs.Tryz.t111.zero).getD .nilIface, by kernel_rfl, by kernel_rfl, by kernel_rfl, by kernel_rfl, by kernel_rfl⟩⟩
def ti_116 : TI := ⟨.slice 95, 1, 24, [.lit (.slice none 0 0)], [.sl [.int .i64, .int .i64, .int .i64, .int .i64, .int .i64, .int .i64, .int .i64, .int .i64, .bool, .str, .int .i64, .sl [.int .i64, .int .i64, .str], .int .i64]]⟩
theorem tk_116 : TyOk1 Go.Proofs.Tryz.prog 116 ti_116 := ⟨by kernel_rfl, fieldsNone (fun fs h => by cases h), ⟨Go.Proofs.Tryz.t116, (Go.Proofs.Tryz.t116.zero).getD .nilIface, by kernel_rfl, by kernel_rfl, by kernel_rfl, by kernel_rfl, by kernel_rfl⟩⟩
def ti_118 : TI := ⟨.array 2 2, 2, 16, [.arr .i64 2 (List.replicate 2 0)], [.arr .i64 2]⟩
theorem tk_118 : TyOk1 Go.Proofs.Tryz.prog 118 ti_118 := ⟨by kernel_rfl, fieldsNone (fun fs h => by cases h), ⟨Go.Proofs.Tryz.t118, (Go.Proofs.Tryz.t118.zero).getD .nilIface, by kernel_rfl, by kernel_rfl, by kernel_rfl, by kernel_rfl, by kernel_rfl⟩⟩
def ti_124 : TI := ⟨.struct #[{ name := "At", type := 2, offset := 0, embedded := false, tag := "", pkgPath := "", byteOffset := 0 }, { name := "Off", type := 2, offset := 1, embedded := false, tag := "", pkgPath := "", byteOffset := 8 }, { name := "Name", type := 9, offset := 2, embedded := false, tag := "", pkgPath := "", byteOffset := 16 }], 3, 32, [int .i64 0, int .i64 0, .lit (.string ByteArray.empty)], [.int .i64, .int .i64, .str]⟩
theorem tk_124 : TyOk1 Go.Proofs.Tryz.prog 124 ti_124 := ⟨by kernel_rfl, fieldsSome rfl (by kernel_rfl), ⟨Go.Proofs.Tryz.t124, (Go.Proofs.Tryz.t124.zero).getD .nilIface, by kernel_rfl, by kernel_rfl, by kernel_rfl, by kernel_rfl, by kernel_rfl⟩⟩
def ti_129 : TI := ⟨.int .i64, 1, 8, [int .i64 0], [.int .i64]⟩
theorem tk_129 : TyOk1 Go.Proofs.Tryz.prog 129 ti_129 := ⟨by kernel_rfl, fieldsNone (fun fs h => by cases h), ⟨Go.Proofs.Tryz.t129, (Go.Proofs.Tryz.t129.zero).getD .nilIface, by kernel_rfl, by kernel_rfl, by kernel_rfl, by kernel_rfl, by kernel_rfl⟩⟩
def ti_138 : TI := ⟨.int .u64, 1, 8, [int .u64 0], [.int .u64]⟩
theorem tk_138 : TyOk1 Go.Proofs.Tryz.prog 138 ti_138 := ⟨by kernel_rfl, fieldsNone (fun fs h => by cases h), ⟨Go.Proofs.Tryz.t138, (Go.Proofs.Tryz.t138.zero).getD .nilIface, by kernel_rfl, by kernel_rfl, by kernel_rfl, by kernel_rfl, by kernel_rfl⟩⟩
def ti_139 : TI := ⟨.array 8 138, 8, 64, [.arr .u64 8 (List.replicate 8 0)], [.arr .u64 8]⟩
theorem tk_139 : TyOk1 Go.Proofs.Tryz.prog 139 ti_139 := ⟨by kernel_rfl, fieldsNone (fun fs h => by cases h), ⟨Go.Proofs.Tryz.t139, (Go.Proofs.Tryz.t139.zero).getD .nilIface, by kernel_rfl, by kernel_rfl, by kernel_rfl, by kernel_rfl, by kernel_rfl⟩⟩
def ti_141 : TI := ⟨.struct #[{ name := "Neg", type := 4, offset := 0, embedded := false, tag := "", pkgPath := "", byteOffset := 0 }, { name := "B", type := 139, offset := 1, embedded := false, tag := "", pkgPath := "", byteOffset := 8 }], 9, 72, [boolC false, .arr .u64 8 (List.replicate 8 0)], [.bool, .arr .u64 8]⟩
theorem tk_141 : TyOk1 Go.Proofs.Tryz.prog 141 ti_141 := ⟨by kernel_rfl, fieldsSome rfl (by kernel_rfl), ⟨Go.Proofs.Tryz.t141, (Go.Proofs.Tryz.t141.zero).getD .nilIface, by kernel_rfl, by kernel_rfl, by kernel_rfl, by kernel_rfl, by kernel_rfl⟩⟩
def ti_156 : TI := ⟨.pointer 129, 1, 8, [.lit (Value.pointer none)], []⟩
theorem tk_156 : TyOk1 Go.Proofs.Tryz.prog 156 ti_156 := ⟨by kernel_rfl, fieldsNone (fun fs h => by cases h), ⟨Go.Proofs.Tryz.t156, (Go.Proofs.Tryz.t156.zero).getD .nilIface, by kernel_rfl, by kernel_rfl, by kernel_rfl, by kernel_rfl, by kernel_rfl⟩⟩
def ti_195 : TI := ⟨.struct #[{ name := "At", type := 2, offset := 0, embedded := false, tag := "", pkgPath := "", byteOffset := 0 }, { name := "Off", type := 2, offset := 1, embedded := false, tag := "", pkgPath := "", byteOffset := 8 }, { name := "Name", type := 9, offset := 2, embedded := false, tag := "", pkgPath := "", byteOffset := 16 }], 3, 32, [int .i64 0, int .i64 0, .lit (.string ByteArray.empty)], [.int .i64, .int .i64, .str]⟩
theorem tk_195 : TyOk1 Go.Proofs.Tryz.prog 195 ti_195 := ⟨by kernel_rfl, fieldsSome rfl (by kernel_rfl), ⟨Go.Proofs.Tryz.t195, (Go.Proofs.Tryz.t195.zero).getD .nilIface, by kernel_rfl, by kernel_rfl, by kernel_rfl, by kernel_rfl, by kernel_rfl⟩⟩
def ti_200 : TI := ⟨.array 4 54, 4, 64, [.lit .nilIface, .lit .nilIface, .lit .nilIface, .lit .nilIface], [.err 129, .err 129, .err 129, .err 129]⟩
theorem tk_200 : TyOk1 Go.Proofs.Tryz.prog 200 ti_200 := ⟨by kernel_rfl, fieldsNone (fun fs h => by cases h), ⟨Go.Proofs.Tryz.t200, (Go.Proofs.Tryz.t200.zero).getD .nilIface, by kernel_rfl, by kernel_rfl, by kernel_rfl, by kernel_rfl, by kernel_rfl⟩⟩
def ti_203 : TI := ⟨.struct #[{ name := "Hi", type := 2, offset := 0, embedded := false, tag := "", pkgPath := "", byteOffset := 0 }, { name := "Lo", type := 138, offset := 1, embedded := false, tag := "", pkgPath := "", byteOffset := 8 }], 2, 16, [int .i64 0, int .u64 0], [.int .i64, .int .u64]⟩
theorem tk_203 : TyOk1 Go.Proofs.Tryz.prog 203 ti_203 := ⟨by kernel_rfl, fieldsSome rfl (by kernel_rfl), ⟨Go.Proofs.Tryz.t203, (Go.Proofs.Tryz.t203.zero).getD .nilIface, by kernel_rfl, by kernel_rfl, by kernel_rfl, by kernel_rfl, by kernel_rfl⟩⟩
def ti_217 : TI := ⟨.int .u64, 1, 8, [int .u64 0], [.int .u64]⟩
theorem tk_217 : TyOk1 Go.Proofs.Tryz.prog 217 ti_217 := ⟨by kernel_rfl, fieldsNone (fun fs h => by cases h), ⟨Go.Proofs.Tryz.t217, (Go.Proofs.Tryz.t217.zero).getD .nilIface, by kernel_rfl, by kernel_rfl, by kernel_rfl, by kernel_rfl, by kernel_rfl⟩⟩
def ti_254 : TI := ⟨.struct #[{ name := "Day", type := 2, offset := 0, embedded := false, tag := "", pkgPath := "", byteOffset := 0 }, { name := "Second", type := 2, offset := 1, embedded := false, tag := "", pkgPath := "", byteOffset := 8 }, { name := "Nano", type := 2, offset := 2, embedded := false, tag := "", pkgPath := "", byteOffset := 16 }], 3, 24, [int .i64 0, int .i64 0, int .i64 0], [.int .i64, .int .i64, .int .i64]⟩
theorem tk_254 : TyOk1 Go.Proofs.Tryz.prog 254 ti_254 := ⟨by kernel_rfl, fieldsSome rfl (by kernel_rfl), ⟨Go.Proofs.Tryz.t254, (Go.Proofs.Tryz.t254.zero).getD .nilIface, by kernel_rfl, by kernel_rfl, by kernel_rfl, by kernel_rfl, by kernel_rfl⟩⟩
def ti_290 : TI := ⟨.struct #[{ name := "Day", type := 2, offset := 0, embedded := false, tag := "", pkgPath := "", byteOffset := 0 }, { name := "Second", type := 2, offset := 1, embedded := false, tag := "", pkgPath := "", byteOffset := 8 }, { name := "Nano", type := 2, offset := 2, embedded := false, tag := "", pkgPath := "", byteOffset := 16 }], 3, 24, [int .i64 0, int .i64 0, int .i64 0], [.int .i64, .int .i64, .int .i64]⟩
theorem tk_290 : TyOk1 Go.Proofs.Tryz.prog 290 ti_290 := ⟨by kernel_rfl, fieldsSome rfl (by kernel_rfl), ⟨Go.Proofs.Tryz.t290, (Go.Proofs.Tryz.t290.zero).getD .nilIface, by kernel_rfl, by kernel_rfl, by kernel_rfl, by kernel_rfl, by kernel_rfl⟩⟩
def ti_305 : TI := ⟨.slice 5, 1, 24, [.lit (.slice none 0 0)], [.sl [.int .u8]]⟩
theorem tk_305 : TyOk1 Go.Proofs.Tryz.prog 305 ti_305 := ⟨by kernel_rfl, fieldsNone (fun fs h => by cases h), ⟨Go.Proofs.Tryz.t305, (Go.Proofs.Tryz.t305.zero).getD .nilIface, by kernel_rfl, by kernel_rfl, by kernel_rfl, by kernel_rfl, by kernel_rfl⟩⟩
def ti_323 : TI := ⟨.array 4 138, 4, 32, [.arr .u64 4 (List.replicate 4 0)], [.arr .u64 4]⟩
theorem tk_323 : TyOk1 Go.Proofs.Tryz.prog 323 ti_323 := ⟨by kernel_rfl, fieldsNone (fun fs h => by cases h), ⟨Go.Proofs.Tryz.t323, (Go.Proofs.Tryz.t323.zero).getD .nilIface, by kernel_rfl, by kernel_rfl, by kernel_rfl, by kernel_rfl, by kernel_rfl⟩⟩
def ti_327 : TI := ⟨.struct #[{ name := "a", type := 138, offset := 0, embedded := false, tag := "", pkgPath := "fusee/prf", byteOffset := 0 }, { name := "b", type := 138, offset := 1, embedded := false, tag := "", pkgPath := "fusee/prf", byteOffset := 8 }, { name := "c", type := 138, offset := 2, embedded := false, tag := "", pkgPath := "fusee/prf", byteOffset := 16 }, { name := "d", type := 138, offset := 3, embedded := false, tag := "", pkgPath := "fusee/prf", byteOffset := 24 }], 4, 32, [int .u64 0, int .u64 0, int .u64 0, int .u64 0], [.int .u64, .int .u64, .int .u64, .int .u64]⟩
theorem tk_327 : TyOk1 Go.Proofs.Tryz.prog 327 ti_327 := ⟨by kernel_rfl, fieldsSome rfl (by kernel_rfl), ⟨Go.Proofs.Tryz.t327, (Go.Proofs.Tryz.t327.zero).getD .nilIface, by kernel_rfl, by kernel_rfl, by kernel_rfl, by kernel_rfl, by kernel_rfl⟩⟩
def ti_329 : TI := ⟨.array 8 5, 8, 8, [.arr .u8 8 (List.replicate 8 0)], [.arr .u8 8]⟩
theorem tk_329 : TyOk1 Go.Proofs.Tryz.prog 329 ti_329 := ⟨by kernel_rfl, fieldsNone (fun fs h => by cases h), ⟨Go.Proofs.Tryz.t329, (Go.Proofs.Tryz.t329.zero).getD .nilIface, by kernel_rfl, by kernel_rfl, by kernel_rfl, by kernel_rfl, by kernel_rfl⟩⟩
def ti_332 : TI := ⟨.struct #[{ name := "B", type := 305, offset := 0, embedded := false, tag := "", pkgPath := "", byteOffset := 0 }, { name := "Bad", type := 4, offset := 1, embedded := false, tag := "", pkgPath := "", byteOffset := 24 }], 2, 32, [.lit (.slice none 0 0), boolC false], [.sl [.int .u8], .bool]⟩
theorem tk_332 : TyOk1 Go.Proofs.Tryz.prog 332 ti_332 := ⟨by kernel_rfl, fieldsSome rfl (by kernel_rfl), ⟨Go.Proofs.Tryz.t332, (Go.Proofs.Tryz.t332.zero).getD .nilIface, by kernel_rfl, by kernel_rfl, by kernel_rfl, by kernel_rfl, by kernel_rfl⟩⟩
def ti_341 : TI := ⟨.struct #[{ name := "b", type := 305, offset := 0, embedded := false, tag := "", pkgPath := "fusee/fields", byteOffset := 0 }, { name := "bad", type := 4, offset := 1, embedded := false, tag := "", pkgPath := "fusee/fields", byteOffset := 24 }], 2, 32, [.lit (.slice none 0 0), boolC false], [.sl [.int .u8], .bool]⟩
theorem tk_341 : TyOk1 Go.Proofs.Tryz.prog 341 ti_341 := ⟨by kernel_rfl, fieldsSome rfl (by kernel_rfl), ⟨Go.Proofs.Tryz.t341, (Go.Proofs.Tryz.t341.zero).getD .nilIface, by kernel_rfl, by kernel_rfl, by kernel_rfl, by kernel_rfl, by kernel_rfl⟩⟩
def tab : List (Nat × TI) := [(2, ti_2), (3, ti_3), (4, ti_4), (5, ti_5), (9, ti_9), (22, ti_22), (24, ti_24), (26, ti_26), (28, ti_28), (30, ti_30), (31, ti_31), (33, ti_33), (35, ti_35), (36, ti_36), (39, ti_39), (41, ti_41), (43, ti_43), (44, ti_44), (45, ti_45), (47, ti_47), (49, ti_49), (52, ti_52), (54, ti_54), (57, ti_57), (65, ti_65), (71, ti_71), (73, ti_73), (75, ti_75), (77, ti_77), (78, ti_78), (80, ti_80), (81, ti_81), (82, ti_82), (83, ti_83), (85, ti_85), (87, ti_87), (95, ti_95), (96, ti_96), (108, ti_108), (111, ti_111), (116, ti_116), (118, ti_118), (124, ti_124), (129, ti_129), (138, ti_138), (139, ti_139), (141, ti_141), (156, ti_156), (195, ti_195), (200, ti_200), (203, ti_203), (217, ti_217), (254, ti_254), (290, ti_290), (305, ti_305), (323, ti_323), (327, ti_327), (329, ti_329), (332, ti_332), (341, ti_341)]
def tyT : TypeId → Option TI := lookT tab
theorem tyOk : TyOk Go.Proofs.Tryz.prog tyT := TysOk.ok (tysOk_cons tk_2 (tysOk_cons tk_3 (tysOk_cons tk_4 (tysOk_cons tk_5 (tysOk_cons tk_9 (tysOk_cons tk_22 (tysOk_cons tk_24 (tysOk_cons tk_26 (tysOk_cons tk_28 (tysOk_cons tk_30 (tysOk_cons tk_31 (tysOk_cons tk_33 (tysOk_cons tk_35 (tysOk_cons tk_36 (tysOk_cons tk_39 (tysOk_cons tk_41 (tysOk_cons tk_43 (tysOk_cons tk_44 (tysOk_cons tk_45 (tysOk_cons tk_47 (tysOk_cons tk_49 (tysOk_cons tk_52 (tysOk_cons tk_54 (tysOk_cons tk_57 (tysOk_cons tk_65 (tysOk_cons tk_71 (tysOk_cons tk_73 (tysOk_cons tk_75 (tysOk_cons tk_77 (tysOk_cons tk_78 (tysOk_cons tk_80 (tysOk_cons tk_81 (tysOk_cons tk_82 (tysOk_cons tk_83 (tysOk_cons tk_85 (tysOk_cons tk_87 (tysOk_cons tk_95 (tysOk_cons tk_96 (tysOk_cons tk_108 (tysOk_cons tk_111 (tysOk_cons tk_116 (tysOk_cons tk_118 (tysOk_cons tk_124 (tysOk_cons tk_129 (tysOk_cons tk_138 (tysOk_cons tk_139 (tysOk_cons tk_141 (tysOk_cons tk_156 (tysOk_cons tk_195 (tysOk_cons tk_200 (tysOk_cons tk_203 (tysOk_cons tk_217 (tysOk_cons tk_254 (tysOk_cons tk_290 (tysOk_cons tk_305 (tysOk_cons tk_323 (tysOk_cons tk_327 (tysOk_cons tk_329 (tysOk_cons tk_332 (tysOk_cons tk_341 tysOk_nil))))))))))))))))))))))))))))))))))))))))))))))))))))))))))))
theorem ek_43 : EqOk Go.Proofs.Tryz.prog 43 (eqQ [.int .i64, .int .i64, .int .i64]) := eqQ_ok (d := 9) (by kernel_rfl) (by omega) (by kernel_rfl) (by kernel_rfl)
theorem ek_44 : EqOk Go.Proofs.Tryz.prog 44 (eqQ [.int .i64, .int .i64]) := eqQ_ok (d := 9) (by kernel_rfl) (by omega) (by kernel_rfl) (by kernel_rfl)
theorem ek_52 : EqOk Go.Proofs.Tryz.prog 52 (eqQ [.int .i64, .int .i64, .int .i64, .int .i64, .int .i64, .int .i64, .int .i64]) := eqQ_ok (d := 9) (by kernel_rfl) (by omega) (by kernel_rfl) (by kernel_rfl)
theorem ek_65 : EqOk Go.Proofs.Tryz.prog 65 (eqQ [.int .i64, .int .i64, .int .i64, .int .i64]) := eqQ_ok (d := 9) (by kernel_rfl) (by omega) (by kernel_rfl) (by kernel_rfl)
theorem ek_81 : EqOk Go.Proofs.Tryz.prog 81 (eqQ [.arr .u8 16]) := eqQ_ok (d := 9) (by kernel_rfl) (by omega) (by kernel_rfl) (by kernel_rfl)
theorem ek_82 : EqOk Go.Proofs.Tryz.prog 82 (eqQ [.bool, .int .i64, .int .i64]) := eqQ_ok (d := 9) (by kernel_rfl) (by omega) (by kernel_rfl) (by kernel_rfl)
theorem ek_83 : EqOk Go.Proofs.Tryz.prog 83 (eqQ [.bool, .int .i64]) := eqQ_ok (d := 9) (by kernel_rfl) (by omega) (by kernel_rfl) (by kernel_rfl)
theorem ek_108 : EqOk Go.Proofs.Tryz.prog 108 (eqQ [.int .i64, .int .i64]) := eqQ_ok (d := 9) (by kernel_rfl) (by omega) (by kernel_rfl) (by kernel_rfl)
theorem ek_195 : EqOk Go.Proofs.Tryz.prog 195 (eqQ [.int .i64, .int .i64, .str]) := eqQ_ok (d := 9) (by kernel_rfl) (by omega) (by kernel_rfl) (by kernel_rfl)
def eqT : TypeId → Option (List C → List C → Option Bool) := lookE [(43, eqQ [.int .i64, .int .i64, .int .i64]), (44, eqQ [.int .i64, .int .i64]), (52, eqQ [.int .i64, .int .i64, .int .i64, .int .i64, .int .i64, .int .i64, .int .i64]), (65, eqQ [.int .i64, .int .i64, .int .i64, .int .i64]), (81, eqQ [.arr .u8 16]), (82, eqQ [.bool, .int .i64, .int .i64]), (83, eqQ [.bool, .int .i64]), (108, eqQ [.int .i64, .int .i64]), (195, eqQ [.int .i64, .int .i64, .str])]
theorem eqOk : ∀ t q, eqT t = some q → EqOk Go.Proofs.Tryz.prog t q := (eqsOk_cons ek_43 (eqsOk_cons ek_44 (eqsOk_cons ek_52 (eqsOk_cons ek_65 (eqsOk_cons ek_81 (eqsOk_cons ek_82 (eqsOk_cons ek_83 (eqsOk_cons ek_108 (eqsOk_cons ek_195 eqsOk_nil)))))))))
theorem mix0 : Tryz.prog.follows .mixedOrders = true := by kernel_rfl
def h0 : Nat → Bool := fun _ => false
theorem fz : FnsOk Tryz.prog laidL [] := fnsOk_nil
theorem fk {g : Nat} {S : Sum} {l : List (Nat × Sum)} (h : SumOk Tryz.prog laidL g S) (t : FnsOk Tryz.prog laidL l) : FnsOk Tryz.prog laidL ((g, S) :: l) := fnsOk_cons h t
def cX (l : List (Nat × Sum)) (h : Nat → Bool) : Ctx := ⟨tyT, lookF l, eqT, h⟩
theorem cx {l : List (Nat × Sum)} (h : Nat → Bool) (H : FnsOk Tryz.prog laidL l) : CtxOk Tryz.prog laidL (cX l h) := ⟨tyOk, eqOk, fun _ _ => H.get, mix0⟩
theorem fn_x {l : List (Nat × Sum)} (h : Nat → Bool) (H : FnsOk Tryz.prog laidL l) {f : FuncId} {fn : Func} (hf : Tryz.prog.funcs[f]? = some fn) {n nOut nr : Nat} {PS RS : List ShA} {F : TAs PS → Option (TAs RS)} {ls : List (Nat × LSum)} (hl : LksOk Tryz.prog laidL nOut fn.ntmps 0 (bodyOf fn) ls)
  (hF : ∀ p, F p = exec (cX l h) fn.ntmps (lookL ls) (bodyOf fn) 0 (fnK (cX l h) fn.results.toList nOut RS) (fnSt n nOut PS p) := by intro _; kernel_rfl)
  (hb : fn.body = some (bodyOf fn) := by kernel_rfl) (hname : (fn.name == "runtime.NumGoroutine") = false := by kernel_rfl) (hnr : fn.results.size = nr := by exact rfl) (hn : nodupB ((loopsIn 0 (bodyOf fn)).map (·.1)) = true := by kernel_rfl) : SumOk Tryz.prog laidL f (fnSum n nOut nr PS RS F) :=
 fn_ok (cx h H) hf hb hname hnr hF (loopsAll hn hl)
theorem lp_x {l : List (Nat × Sum)} (h : Nat → Bool) (H : FnsOk Tryz.prog laidL l) {nOut NT cur k : Nat} {θ : Type} {live bl : List Nat} {sh : List ShA} {O : OutK nOut θ} {c : Code} {b : (TAs sh → Option θ) → TAs sh → Option θ} {N : Nat} {ls : List (Nat × LSum)} (hl : LksOk Tryz.prog laidL nOut NT k (unloop (loopAt cur k c)) ls)
  (hs : ∀ ih p, b ih p = exec (cX l h) NT (lookL ls) (unloop (loopAt cur k c)) k (roundK live bl sh O ih) (stOf live bl sh p) := by intro _ _; kernel_rfl)
  (hne : loopAt cur k c = .loop (unloop (loopAt cur k c)) := by kernel_rfl) (hn : nodupB ((loopsIn k (unloop (loopAt cur k c))).map (·.1)) = true := by kernel_rfl) : SegOk Tryz.prog laidL nOut NT (loopAt cur k c) (loopSum live bl sh O (iter b N)) :=
 (congrArg (fun c => SegOk Tryz.prog laidL nOut NT c (loopSum live bl sh O (iter b N))) hne).mpr (loop_ok (cx h H) (fun n => iter b n) (fun _ => rfl) (fun n p => hs (iter b n) p) (loopsAll hn hl) N)
abbrev zg2 : ShA := .agg [.d (.int .i64), .d (.int .i64), .d (.int .i64), .d (.int .i64), .d (.int .i64), .d (.int .i64), .d (.bool), .d (.str), .d (.int .i64), .slt [.int .i64, .int .i64, .str] 195 3]
abbrev zg3 : ShA := .agg [.d (.int .i64), .d (.int .i64), .d (.int .i64), .d (.int .i64), .d (.int .i64), .d (.int .i64), .d (.bool), .d (.str), .d (.int .i64), .d (.sl [.int .i64, .int .i64, .str])]
abbrev zg4 : ShA := .agg [.d (.int .i64), .d (.int .i64), .d (.int .i64), .d (.int .i64), .d (.int .u32), .d (.int .i64), .d (.int .u32), .d (.int .i64), .d (.int .i64), .d (.int .i64)]
abbrev zg5 : ShA := .agg [.d (.int .i64), .d (.int .i64), .d (.int .i64), .d (.int .i64), .d (.int .i64), .d (.int .i64), .d (.int .i64)]
abbrev zg6 : ShA := .agg [.d (.str), .d (.int .i64), .slt [.int .i64, .int .i64, .str] 195 3]
abbrev zg7 : ShA := .agg [.d (.str), .d (.int .i64), .d (.sl [.int .i64, .int .i64, .str])]
abbrev zg9 : ShA := .agg [.d (.int .i64), .d (.int .i64), .d (.int .i64), .d (.int .i64)]
abbrev zg11 : ShA := .agg [.d (.int .i64), .d (.int .i64), .d (.int .i64)]
abbrev zg15 : ShA := .agg [.d (.int .i64), .d (.int .i64)]
abbrev zg16 : ShA := .agg [.d (.int .u32), .d (.int .i64)]
end Go.Proofs.YthpljlpokmoeeaaGreatDoor.Mir
namespace Go.Proofs.YthpljlpokmoeeaaGreatDoor.Mir
open Go Go.RowKit
set_option maxRecDepth 100000
noncomputable section
def f_47 (_ : Nat) : Option (TAs [zg2]) :=
 (some (0, 0, 0, 1, 0, 1, false, ⟨#[85, 84, 67]⟩, 0, ([] : List (Int × Int × ByteArray))))
def S_47 (N : Nat) : Sum := fnSum 0 0 1 [] [zg2] (fun _ => f_47 N)
theorem s_47 (N : Nat) : SumOk Tryz.prog laidL 47 (S_47 N) := fn_x h0 fz Tryz.func47 (lookOk_nil)
def f_56 (_ : Nat) (x1 x2 : Int) : Option (TAs [.one (.d (.int .i64)), .one (.d (.int .i64))]) :=
 (bif (decide (x2 > 0)) then (bif (decide (x1 > (IntKind.i64.wrap (9223372036854775807 - x2)))) then (some (0, 1)) else (bif (decide (x2 < 0)) then (bif (decide (x1 < (IntKind.i64.wrap ((-9223372036854775808) - x2)))) then (some (0, (-1))) else (some ((IntKind.i64.wrap (x1 + x2)), 0))) else (some ((IntKind.i64.wrap (x1 + x2)), 0)))) else (bif (decide (x2 < 0)) then (bif (decide (x1 < (IntKind.i64.wrap ((-9223372036854775808) - x2)))) then (some (0, (-1))) else (some ((IntKind.i64.wrap (x1 + x2)), 0))) else (some ((IntKind.i64.wrap (x1 + x2)), 0))))
def S_56 (N : Nat) : Sum := fnSum 2 0 2 [.one (.d (.int .i64)), .one (.d (.int .i64))] [.one (.d (.int .i64)), .one (.d (.int .i64))] (fun (x1, x2) => f_56 N x1 x2)
theorem s_56 (N : Nat) : SumOk Tryz.prog laidL 56 (S_56 N) := fn_x h0 fz Tryz.func56 (lookOk_nil)
def f_60 (_ : Nat) (x1 x2 : Int) : Option (TAs [.one (.d (.int .i64))]) :=
 (bif (decide (x2 > 0)) then (some 9223372036854775807) else (bif (decide (x2 < 0)) then (some (-9223372036854775808)) else (some x1)))
def S_60 (N : Nat) : Sum := fnSum 2 0 1 [.one (.d (.int .i64)), .one (.d (.int .i64))] [.one (.d (.int .i64))] (fun (x1, x2) => f_60 N x1 x2)
theorem s_60 (N : Nat) : SumOk Tryz.prog laidL 60 (S_60 N) := fn_x h0 fz Tryz.func60 (lookOk_nil)
def f_106 (_ : Nat) (x1 x2 x3 : Int) : Option (TAs [.one (.d (.err 129))]) :=
 (bif (decide (x2 < 0)) then (some (some 1)) else (bif (decide (x2 > 43200)) then (some (some 1)) else (bif (decide (x3 < 0)) then (some (some 1)) else (bif (decide (x3 > 43200)) then (some (some 1)) else (bif (x1 == 0) then (bif ((IntKind.i64.wrap (x2 + x3)) == 0) then (some none) else (some (some 1))) else (bif (x1 == 1) then (bif (decide ((IntKind.i64.wrap (x2 + x3)) > 0)) then (some none) else (some (some 1))) else (bif (x1 == 2) then (bif (decide ((IntKind.i64.wrap (x2 + x3)) ≥ 3600)) then (some none) else (some (some 1))) else (some (some 1)))))))))
def S_106 (N : Nat) : Sum := fnSum 1 0 1 [zg11] [.one (.d (.err 129))] (fun (x1, x2, x3) => f_106 N x1 x2 x3)
theorem s_106 (N : Nat) : SumOk Tryz.prog laidL 106 (S_106 N) := fn_x h0 fz Tryz.func106 (lookOk_nil)
def f_107 (_ : Nat) (x1 : Int) : Option (TAs [.one (.d (.err 129))]) :=
 (bif (decide (x1 < 1)) then (some (some 1)) else (bif (decide (x1 > 68719476736)) then (some (some 1)) else (some none)))
def S_107 (N : Nat) : Sum := fnSum 1 0 1 [.one (.d (.int .i64))] [.one (.d (.err 129))] (fun x1 => f_107 N x1)
theorem s_107 (N : Nat) : SumOk Tryz.prog laidL 107 (S_107 N) := fn_x h0 fz Tryz.func107 (lookOk_nil)
def f_108 (_ : Nat) (x1 x2 : Int) : Option (TAs [.one (.d (.err 129))]) :=
 (bif (decide (x1 < 0)) then (some (some 1)) else (bif (decide (x1 > 1099511627776)) then (some (some 1)) else (bif (decide (x2 < 1)) then (some (some 1)) else (bif (decide (x2 > 1125899906842624)) then (some (some 1)) else (some none)))))
def S_108 (N : Nat) : Sum := fnSum 1 0 1 [zg15] [.one (.d (.err 129))] (fun (x1, x2) => f_108 N x1 x2)
theorem s_108 (N : Nat) : SumOk Tryz.prog laidL 108 (S_108 N) := fn_x h0 fz Tryz.func108 (lookOk_nil)
def f_114 (_ : Nat) (x1 x2 : Int) : Option (TAs [.one (.d (.int .i64)), .one (.d (.err 129))]) :=
 (bif (!((decide ((IntKind.i64.wrap (x1 - x2)) > x1)) == (decide (x2 < 0)))) then (some (0, (some 2))) else (some ((IntKind.i64.wrap (x1 - x2)), none)))
def S_114 (N : Nat) : Sum := fnSum 2 0 2 [.one (.d (.int .i64)), .one (.d (.int .i64))] [.one (.d (.int .i64)), .one (.d (.err 129))] (fun (x1, x2) => f_114 N x1 x2)
theorem s_114 (N : Nat) : SumOk Tryz.prog laidL 114 (S_114 N) := fn_x h0 fz Tryz.func114 (lookOk_nil)
def f_115 (_ : Nat) (x1 : Bool) : Option (TAs [.one (.d (.int .i64))]) :=
 (bif x1 then (some (-9223372036854775808)) else (some 9223372036854775807))
def S_115 (N : Nat) : Sum := fnSum 1 0 1 [.one (.d (.bool))] [.one (.d (.int .i64))] (fun x1 => f_115 N x1)
theorem s_115 (N : Nat) : SumOk Tryz.prog laidL 115 (S_115 N) := fn_x h0 fz Tryz.func115 (lookOk_nil)
def f_116 (_ : Nat) (x1 x2 x3 : Int) : Option (TAs [.one (.d (.bool))]) :=
 (bif (decide (x2 < 0)) then (some false) else (bif (decide (x2 > 43200)) then (some false) else (bif (decide (x3 < 0)) then (some false) else (bif (decide (x3 > 43200)) then (some false) else (bif (x1 == 0) then (bif ((IntKind.i64.wrap (x2 + x3)) == 0) then (some true) else (bif (x1 == 1) then (bif (decide ((IntKind.i64.wrap (x2 + x3)) ≥ 1)) then (some true) else (bif (x1 == 2) then (some (decide ((IntKind.i64.wrap (x2 + x3)) ≥ 3600))) else (some false))) else (bif (x1 == 2) then (some (decide ((IntKind.i64.wrap (x2 + x3)) ≥ 3600))) else (some false)))) else (bif (x1 == 1) then (bif (decide ((IntKind.i64.wrap (x2 + x3)) ≥ 1)) then (some true) else (bif (x1 == 2) then (some (decide ((IntKind.i64.wrap (x2 + x3)) ≥ 3600))) else (some false))) else (bif (x1 == 2) then (some (decide ((IntKind.i64.wrap (x2 + x3)) ≥ 3600))) else (some false))))))))
def S_116 (N : Nat) : Sum := fnSum 1 0 1 [zg11] [.one (.d (.bool))] (fun (x1, x2, x3) => f_116 N x1 x2 x3)
theorem s_116 (N : Nat) : SumOk Tryz.prog laidL 116 (S_116 N) := fn_x h0 fz Tryz.func116 (lookOk_nil)
def f_117 (_ : Nat) (x1 : Int) : Option (TAs [.one (.d (.bool))]) :=
 (bif (decide (x1 ≥ 1)) then (some (decide (x1 ≤ 68719476736))) else (some false))
def S_117 (N : Nat) : Sum := fnSum 1 0 1 [.one (.d (.int .i64))] [.one (.d (.bool))] (fun x1 => f_117 N x1)
theorem s_117 (N : Nat) : SumOk Tryz.prog laidL 117 (S_117 N) := fn_x h0 fz Tryz.func117 (lookOk_nil)
def f_118 (_ : Nat) (x1 x2 : Int) : Option (TAs [.one (.d (.bool))]) :=
 (bif (decide (x1 ≥ 0)) then (bif (decide (x1 ≤ 1099511627776)) then (bif (decide (x2 ≥ 1)) then (some (decide (x2 ≤ 1125899906842624))) else (some false)) else (some false)) else (some false))
def S_118 (N : Nat) : Sum := fnSum 1 0 1 [zg15] [.one (.d (.bool))] (fun (x1, x2) => f_118 N x1 x2)
theorem s_118 (N : Nat) : SumOk Tryz.prog laidL 118 (S_118 N) := fn_x h0 fz Tryz.func118 (lookOk_nil)
def f_164 (_ : Nat) (x1 x2 : Int) : Option (TAs [.one (.d (.int .i64)), .one (.d (.err 129))]) :=
 (bif (!((decide ((IntKind.i64.wrap (x1 + x2)) < x1)) == (decide (x2 < 0)))) then (some (0, (some 2))) else (some ((IntKind.i64.wrap (x1 + x2)), none)))
def S_164 (N : Nat) : Sum := fnSum 2 0 2 [.one (.d (.int .i64)), .one (.d (.int .i64))] [.one (.d (.int .i64)), .one (.d (.err 129))] (fun (x1, x2) => f_164 N x1 x2)
theorem s_164 (N : Nat) : SumOk Tryz.prog laidL 164 (S_164 N) := fn_x h0 fz Tryz.func164 (lookOk_nil)
def f_167 (_ : Nat) (x1 : ByteArray) : Option (TAs [.one (.d (.bool))]) :=
 (bif (!((ByteArray.toList x1) == (ByteArray.toList (⟨#[]⟩ : ByteArray)))) then (bif (decide ((ByteArray.size x1 : Int) ≤ 12)) then ((trimF x1 (⟨#[65, 66, 67, 68, 69, 70, 71, 72, 73, 74, 75, 76, 77, 78, 79, 80, 81, 82, 83, 84, 85, 86, 87, 88, 89, 90, 97, 98, 99, 100, 101, 102, 103, 104, 105, 106, 107, 108, 109, 110, 111, 112, 113, 114, 115, 116, 117, 118, 119, 120, 121, 122, 48, 49, 50, 51, 52, 53, 54, 55, 56, 57, 47, 95, 43, 45]⟩)).bind fun r2 => (some ((ByteArray.toList r2) == (ByteArray.toList (⟨#[]⟩ : ByteArray))))) else (some false)) else (some false))
def S_167 (N : Nat) : Sum := fnSum 1 0 1 [.one (.d (.str))] [.one (.d (.bool))] (fun x1 => f_167 N x1)
theorem s_167 (N : Nat) : SumOk Tryz.prog laidL 167 (S_167 N) := fn_x h0 (fk trimS_ok fz) Tryz.func167 (lookOk_nil)
def f_168 (_ : Nat) (x1 : Int) : Option (TAs [.one (.d (.bool))]) :=
 (bif (decide (x1 ≥ (-86399))) then (some (decide (x1 ≤ 86399))) else (some false))
def S_168 (N : Nat) : Sum := fnSum 1 0 1 [.one (.d (.int .i64))] [.one (.d (.bool))] (fun x1 => f_168 N x1)
theorem s_168 (N : Nat) : SumOk Tryz.prog laidL 168 (S_168 N) := fn_x h0 fz Tryz.func168 (lookOk_nil)
def X_173 (_ : Nat) : List (Nat × Sum) := []
theorem x_173 (N : Nat) : FnsOk Tryz.prog laidL (X_173 N) := fz
def sh_173_0 : List ShA := [.one (.d (.str)), .one (.d (.int .i64))]
abbrev T_173_0 := ((TAs [.one (.d (.bool))]) ⊕ (TAs [.one (.d (.str))]))
def o_173_0 : OutK 0 T_173_0 := (outTwo (outOne 0 .ret [2] [] [.one (.d (.bool))]) (outOne 0 (.exit 0) [0] [] [.one (.d (.str))]))
def b_173_0 (_ : Nat) (ih : TAs sh_173_0 → Option T_173_0) : TAs sh_173_0 → Option T_173_0 := fun (y2, y3) =>
 (bif (decide (y3 < (ByteArray.size y2 : Int))) then (bif (decide (0 ≤ y3 ∧ y3 < (ByteArray.size y2 : Int))) then (bif (decide ((byteAt y2 (Int.toNat y3)) ≥ 97)) then (bif (decide ((byteAt y2 (Int.toNat y3)) ≤ 122)) then (ih (y2, (IntKind.i64.wrap (y3 + 1)))) else (bif (decide ((byteAt y2 (Int.toNat y3)) ≥ 65)) then (bif (decide ((byteAt y2 (Int.toNat y3)) ≤ 90)) then (ih (y2, (IntKind.i64.wrap (y3 + 1)))) else (bif (decide ((byteAt y2 (Int.toNat y3)) ≥ 48)) then (bif (decide ((byteAt y2 (Int.toNat y3)) ≤ 57)) then (ih (y2, (IntKind.i64.wrap (y3 + 1)))) else (bif ((byteAt y2 (Int.toNat y3)) == 47) then (ih (y2, (IntKind.i64.wrap (y3 + 1)))) else (bif ((byteAt y2 (Int.toNat y3)) == 95) then (ih (y2, (IntKind.i64.wrap (y3 + 1)))) else (bif ((byteAt y2 (Int.toNat y3)) == 43) then (ih (y2, (IntKind.i64.wrap (y3 + 1)))) else (bif (!((byteAt y2 (Int.toNat y3)) == 45)) then (some (.inl false)) else (ih (y2, (IntKind.i64.wrap (y3 + 1))))))))) else (bif ((byteAt y2 (Int.toNat y3)) == 47) then (ih (y2, (IntKind.i64.wrap (y3 + 1)))) else (bif ((byteAt y2 (Int.toNat y3)) == 95) then (ih (y2, (IntKind.i64.wrap (y3 + 1)))) else (bif ((byteAt y2 (Int.toNat y3)) == 43) then (ih (y2, (IntKind.i64.wrap (y3 + 1)))) else (bif (!((byteAt y2 (Int.toNat y3)) == 45)) then (some (.inl false)) else (ih (y2, (IntKind.i64.wrap (y3 + 1)))))))))) else (bif (decide ((byteAt y2 (Int.toNat y3)) ≥ 48)) then (bif (decide ((byteAt y2 (Int.toNat y3)) ≤ 57)) then (ih (y2, (IntKind.i64.wrap (y3 + 1)))) else (bif ((byteAt y2 (Int.toNat y3)) == 47) then (ih (y2, (IntKind.i64.wrap (y3 + 1)))) else (bif ((byteAt y2 (Int.toNat y3)) == 95) then (ih (y2, (IntKind.i64.wrap (y3 + 1)))) else (bif ((byteAt y2 (Int.toNat y3)) == 43) then (ih (y2, (IntKind.i64.wrap (y3 + 1)))) else (bif (!((byteAt y2 (Int.toNat y3)) == 45)) then (some (.inl false)) else (ih (y2, (IntKind.i64.wrap (y3 + 1))))))))) else (bif ((byteAt y2 (Int.toNat y3)) == 47) then (ih (y2, (IntKind.i64.wrap (y3 + 1)))) else (bif ((byteAt y2 (Int.toNat y3)) == 95) then (ih (y2, (IntKind.i64.wrap (y3 + 1)))) else (bif ((byteAt y2 (Int.toNat y3)) == 43) then (ih (y2, (IntKind.i64.wrap (y3 + 1)))) else (bif (!((byteAt y2 (Int.toNat y3)) == 45)) then (some (.inl false)) else (ih (y2, (IntKind.i64.wrap (y3 + 1))))))))))) else (bif (decide ((byteAt y2 (Int.toNat y3)) ≥ 65)) then (bif (decide ((byteAt y2 (Int.toNat y3)) ≤ 90)) then (ih (y2, (IntKind.i64.wrap (y3 + 1)))) else (bif (decide ((byteAt y2 (Int.toNat y3)) ≥ 48)) then (bif (decide ((byteAt y2 (Int.toNat y3)) ≤ 57)) then (ih (y2, (IntKind.i64.wrap (y3 + 1)))) else (bif ((byteAt y2 (Int.toNat y3)) == 47) then (ih (y2, (IntKind.i64.wrap (y3 + 1)))) else (bif ((byteAt y2 (Int.toNat y3)) == 95) then (ih (y2, (IntKind.i64.wrap (y3 + 1)))) else (bif ((byteAt y2 (Int.toNat y3)) == 43) then (ih (y2, (IntKind.i64.wrap (y3 + 1)))) else (bif (!((byteAt y2 (Int.toNat y3)) == 45)) then (some (.inl false)) else (ih (y2, (IntKind.i64.wrap (y3 + 1))))))))) else (bif ((byteAt y2 (Int.toNat y3)) == 47) then (ih (y2, (IntKind.i64.wrap (y3 + 1)))) else (bif ((byteAt y2 (Int.toNat y3)) == 95) then (ih (y2, (IntKind.i64.wrap (y3 + 1)))) else (bif ((byteAt y2 (Int.toNat y3)) == 43) then (ih (y2, (IntKind.i64.wrap (y3 + 1)))) else (bif (!((byteAt y2 (Int.toNat y3)) == 45)) then (some (.inl false)) else (ih (y2, (IntKind.i64.wrap (y3 + 1)))))))))) else (bif (decide ((byteAt y2 (Int.toNat y3)) ≥ 48)) then (bif (decide ((byteAt y2 (Int.toNat y3)) ≤ 57)) then (ih (y2, (IntKind.i64.wrap (y3 + 1)))) else (bif ((byteAt y2 (Int.toNat y3)) == 47) then (ih (y2, (IntKind.i64.wrap (y3 + 1)))) else (bif ((byteAt y2 (Int.toNat y3)) == 95) then (ih (y2, (IntKind.i64.wrap (y3 + 1)))) else (bif ((byteAt y2 (Int.toNat y3)) == 43) then (ih (y2, (IntKind.i64.wrap (y3 + 1)))) else (bif (!((byteAt y2 (Int.toNat y3)) == 45)) then (some (.inl false)) else (ih (y2, (IntKind.i64.wrap (y3 + 1))))))))) else (bif ((byteAt y2 (Int.toNat y3)) == 47) then (ih (y2, (IntKind.i64.wrap (y3 + 1)))) else (bif ((byteAt y2 (Int.toNat y3)) == 95) then (ih (y2, (IntKind.i64.wrap (y3 + 1)))) else (bif ((byteAt y2 (Int.toNat y3)) == 43) then (ih (y2, (IntKind.i64.wrap (y3 + 1)))) else (bif (!((byteAt y2 (Int.toNat y3)) == 45)) then (some (.inl false)) else (ih (y2, (IntKind.i64.wrap (y3 + 1))))))))))) else none) else (some (.inr y2)))
def l_173_0 (N : Nat) : TAs sh_173_0 → Option T_173_0 := iter (b_173_0 N) N
def L_173_0 (N : Nat) : LSum := loopSum [0, 3] [] sh_173_0 o_173_0 (l_173_0 N)
theorem L_ok_173_0 (N : Nat) : SegOk Tryz.prog laidL 0 Tryz.f173.ntmps (loopAt 0 0 (bodyOf Tryz.f173)) (L_173_0 N) :=
 lp_x h0 (x_173 N) (lookOk_nil)
def f_173 (N : Nat) (x1 : ByteArray) : Option (TAs [.one (.d (.bool))]) :=
 ((l_173_0 N (x1, 0)).bind fun q => (match q with | .inl q4 => (some q4) | .inr q5 => (bif (decide ((ByteArray.size q5 : Int) ≥ 1)) then (some (decide ((ByteArray.size q5 : Int) ≤ 12))) else (some false))))
def S_173 (N : Nat) : Sum := fnSum 1 0 1 [.one (.d (.str))] [.one (.d (.bool))] (fun x1 => f_173 N x1)
theorem s_173 (N : Nat) : SumOk Tryz.prog laidL 173 (S_173 N) := fn_x h0 (x_173 N) Tryz.func173 ((lookOk_cons (L_ok_173_0 N) lookOk_nil))
def f_174 (_ : Nat) (x1 : Int) : Option (TAs [.one (.d (.bool))]) :=
 (bif (decide (x1 > (-86400))) then (some (decide (x1 < 86400))) else (some false))
def S_174 (N : Nat) : Sum := fnSum 1 0 1 [.one (.d (.int .i64))] [.one (.d (.bool))] (fun x1 => f_174 N x1)
theorem s_174 (N : Nat) : SumOk Tryz.prog laidL 174 (S_174 N) := fn_x h0 fz Tryz.func174 (lookOk_nil)
def f_52 (N : Nat) (x1 x2 : Int) : Option (TAs [.one (.d (.int .i64))]) :=
 ((f_114 N x1 x2).bind fun r3 => (bif (!(Option.isNone r3.2)) then ((f_115 N (decide (x2 > 0))).bind fun r4 => (some r4)) else (some r3.1)))
def S_52 (N : Nat) : Sum := fnSum 2 0 1 [.one (.d (.int .i64)), .one (.d (.int .i64))] [.one (.d (.int .i64))] (fun (x1, x2) => f_52 N x1 x2)
theorem s_52 (N : Nat) : SumOk Tryz.prog laidL 52 (S_52 N) := fn_x h0 (fk (s_114 N) (fk (s_115 N) fz)) Tryz.func52 (lookOk_nil)
def f_101 (N : Nat) (x1 : Int) : Option (TAs [.one (.d (.int .i64))]) :=
 (bif (decide (x1 < 0)) then ((f_52 N 0 x1).bind fun r2 => (some r2)) else (some x1))
def S_101 (N : Nat) : Sum := fnSum 1 0 1 [.one (.d (.int .i64))] [.one (.d (.int .i64))] (fun x1 => f_101 N x1)
theorem s_101 (N : Nat) : SumOk Tryz.prog laidL 101 (S_101 N) := fn_x h0 (fk (s_52 N) fz) Tryz.func101 (lookOk_nil)
def X_109 (N : Nat) : List (Nat × Sum) := [(167, (S_167 N)), (168, (S_168 N))]
theorem x_109 (N : Nat) : FnsOk Tryz.prog laidL (X_109 N) := fk (s_167 N) (fk (s_168 N) fz)
def sh_109_0 : List ShA := [.one (.ptr 144 0), .one (.d (.sl [.int .i64, .int .i64, .str])), .one (.d (.int .i64)), .one (.d (.int .i64)), zg7]
abbrev T_109_0 := ((TAs [.one (.d (.err 129))]) ⊕ (TAs []))
def o_109_0 : OutK 0 T_109_0 := (outTwo (outOne 0 .ret [2] [] [.one (.d (.err 129))]) (outOne 0 (.exit 0) [] [] []))
def b_109_0 (N : Nat) (ih : TAs sh_109_0 → Option T_109_0) : TAs sh_109_0 → Option T_109_0 := fun (_, y6, y7, y8, (y9, y10, y11)) =>
 (bif (decide (y8 < y7)) then (bif (decide (0 ≤ y8 ∧ y8 < (List.length y6 : Int))) then ((f_167 N ((List.getD y6 (Int.toNat y8) (0, 0, ByteArray.empty)).2.2)).bind fun r12 => (bif (!r12) then (some (.inl (some 1))) else ((f_168 N ((List.getD y6 (Int.toNat y8) (0, 0, ByteArray.empty)).2.1)).bind fun r13 => (bif (!r13) then (some (.inl (some 1))) else (bif (decide ((List.getD y6 (Int.toNat y8) (0, 0, ByteArray.empty)).1 < (-1099511627776))) then (some (.inl (some 1))) else (bif (decide ((List.getD y6 (Int.toNat y8) (0, 0, ByteArray.empty)).1 > 1099511627776)) then (some (.inl (some 1))) else (bif (decide (y8 > 0)) then (bif (decide (0 ≤ (IntKind.i64.wrap (y8 - 1)) ∧ (IntKind.i64.wrap (y8 - 1)) < (List.length y11 : Int))) then (bif (decide ((List.getD y11 (Int.toNat (IntKind.i64.wrap (y8 - 1))) (0, 0, ByteArray.empty)).1 ≥ (List.getD y6 (Int.toNat y8) (0, 0, ByteArray.empty)).1)) then (some (.inl (some 1))) else (ih ((), y6, y7, (IntKind.i64.wrap (y8 + 1)), (y9, y10, y11)))) else none) else (ih ((), y6, y7, (IntKind.i64.wrap (y8 + 1)), (y9, y10, y11)))))))))) else none) else (some (.inr ())))
def l_109_0 (N : Nat) : TAs sh_109_0 → Option T_109_0 := iter (b_109_0 N) N
def L_109_0 (N : Nat) : LSum := loopSum [1, 23, 24, 25] [144] sh_109_0 o_109_0 (l_109_0 N)
theorem L_ok_109_0 (N : Nat) : SegOk Tryz.prog laidL 0 Tryz.f109.ntmps (loopAt 0 0 (bodyOf Tryz.f109)) (L_109_0 N) :=
 lp_x h0 (x_109 N) (lookOk_nil)
def f_109 (N : Nat) (x1 : ByteArray) (x2 : Int) (x3 : List (Int × Int × ByteArray)) : Option (TAs [.one (.d (.err 129))]) :=
 ((f_167 N x1).bind fun r4 => (bif (!r4) then (some (some 1)) else ((f_168 N x2).bind fun r5 => (bif (!r5) then (some (some 1)) else (bif (decide ((List.length x3 : Int) > 32)) then (some (some 1)) else ((l_109_0 N ((), x3, (List.length x3 : Int), 0, (x1, x2, x3))).bind fun q => (match q with | .inl q14 => (some q14) | .inr _ => (some none))))))))
def S_109 (N : Nat) : Sum := fnSum 1 0 1 [zg7] [.one (.d (.err 129))] (fun (x1, x2, x3) => f_109 N x1 x2 x3)
theorem s_109 (N : Nat) : SumOk Tryz.prog laidL 109 (S_109 N) := fn_x h0 (x_109 N) Tryz.func109 ((lookOk_cons (L_ok_109_0 N) lookOk_nil))
def X_119 (N : Nat) : List (Nat × Sum) := [(173, (S_173 N)), (174, (S_174 N))]
theorem x_119 (N : Nat) : FnsOk Tryz.prog laidL (X_119 N) := fk (s_173 N) (fk (s_174 N) fz)
def sh_119_0 : List ShA := [.one (.ptr 144 0), .one (.d (.int .i64)), zg7]
abbrev T_119_0 := ((TAs [.one (.d (.bool))]) ⊕ (TAs [.one (.ptr 144 0), zg7]))
def o_119_0 : OutK 0 T_119_0 := (outTwo (outOne 0 .ret [2] [] [.one (.d (.bool))]) (outOne 0 (.exit 0) [1] [144] [.one (.ptr 144 0), zg7]))
def b_119_0 (N : Nat) (ih : TAs sh_119_0 → Option T_119_0) : TAs sh_119_0 → Option T_119_0 := fun (_, y4, (y5, y6, y7)) =>
 (bif (decide (y4 < (List.length y7 : Int))) then (bif (decide (0 ≤ y4 ∧ y4 < (List.length y7 : Int))) then ((f_173 N ((List.getD y7 (Int.toNat y4) (0, 0, ByteArray.empty)).2.2)).bind fun r8 => (bif (!r8) then (some (.inl false)) else ((f_174 N ((List.getD y7 (Int.toNat y4) (0, 0, ByteArray.empty)).2.1)).bind fun r9 => (bif (!r9) then (some (.inl false)) else (bif (decide ((List.getD y7 (Int.toNat y4) (0, 0, ByteArray.empty)).1 < (-1099511627776))) then (some (.inl false)) else (bif (decide ((List.getD y7 (Int.toNat y4) (0, 0, ByteArray.empty)).1 > 1099511627776)) then (some (.inl false)) else (bif (decide (y4 > 0)) then (bif (decide (0 ≤ (IntKind.i64.wrap (y4 - 1)) ∧ (IntKind.i64.wrap (y4 - 1)) < (List.length y7 : Int))) then (bif (decide ((List.getD y7 (Int.toNat y4) (0, 0, ByteArray.empty)).1 ≤ (List.getD y7 (Int.toNat (IntKind.i64.wrap (y4 - 1))) (0, 0, ByteArray.empty)).1)) then (some (.inl false)) else (ih ((), (IntKind.i64.wrap (y4 + 1)), (y5, y6, y7)))) else none) else (ih ((), (IntKind.i64.wrap (y4 + 1)), (y5, y6, y7)))))))))) else none) else (some (.inr ((), (y5, y6, y7)))))
def l_119_0 (N : Nat) : TAs sh_119_0 → Option T_119_0 := iter (b_119_0 N) N
def L_119_0 (N : Nat) : LSum := loopSum [1, 3] [144] sh_119_0 o_119_0 (l_119_0 N)
theorem L_ok_119_0 (N : Nat) : SegOk Tryz.prog laidL 0 Tryz.f119.ntmps (loopAt 0 0 (bodyOf Tryz.f119)) (L_119_0 N) :=
 lp_x h0 (x_119 N) (lookOk_nil)
def f_119 (N : Nat) (x1 : ByteArray) (x2 : Int) (x3 : List (Int × Int × ByteArray)) : Option (TAs [.one (.d (.bool))]) :=
 ((l_119_0 N ((), 0, (x1, x2, x3))).bind fun q => (match q with | .inl q10 => (some q10) | .inr q11 => ((f_173 N q11.2.1).bind fun r12 => (bif r12 then ((f_174 N q11.2.2.1).bind fun r13 => (bif r13 then (some (decide ((List.length q11.2.2.2 : Int) ≤ 32))) else (some false))) else (some false)))))
def S_119 (N : Nat) : Sum := fnSum 1 0 1 [zg7] [.one (.d (.bool))] (fun (x1, x2, x3) => f_119 N x1 x2 x3)
theorem s_119 (N : Nat) : SumOk Tryz.prog laidL 119 (S_119 N) := fn_x h0 (x_119 N) Tryz.func119 ((lookOk_cons (L_ok_119_0 N) lookOk_nil))
def f_136 (N : Nat) (x1 x2 : Int) : Option (TAs [.one (.d (.int .i64))]) :=
 ((f_164 N x1 x2).bind fun r3 => (bif (!(Option.isNone r3.2)) then ((f_115 N (decide (x2 < 0))).bind fun r4 => (some r4)) else (some r3.1)))
def S_136 (N : Nat) : Sum := fnSum 2 0 1 [.one (.d (.int .i64)), .one (.d (.int .i64))] [.one (.d (.int .i64))] (fun (x1, x2) => f_136 N x1 x2)
theorem s_136 (N : Nat) : SumOk Tryz.prog laidL 136 (S_136 N) := fn_x h0 (fk (s_164 N) (fk (s_115 N) fz)) Tryz.func136 (lookOk_nil)
def X_49 (N : Nat) : List (Nat × Sum) := [(106, (S_106 N)), (107, (S_107 N)), (108, (S_108 N)), (109, (S_109 N))]
theorem x_49 (N : Nat) : FnsOk Tryz.prog laidL (X_49 N) := fk (s_106 N) (fk (s_107 N) (fk (s_108 N) (fk (s_109 N) fz)))
def sh_49_0 : List ShA := [.agg [.d (.err 129), .d (.err 129), .d (.err 129), .d (.err 129)], .one (.d (.int .i64))]
abbrev T_49_0 := ((TAs [.one (.d (.err 129))]) ⊕ (TAs []))
def o_49_0 : OutK 0 T_49_0 := (outTwo (outOne 0 .ret [2] [] [.one (.d (.err 129))]) (outOne 0 (.exit 0) [] [] []))
def b_49_0 (_ : Nat) (ih : TAs sh_49_0 → Option T_49_0) : TAs sh_49_0 → Option T_49_0 := fun ((y15, y16, y17, y18), y19) =>
 (bif (decide (y19 < 4)) then (bif (decide (y19 = (0 : Int))) then (bif (!(Option.isNone y15)) then (some (.inl (some 1))) else (ih ((y15, y16, y17, y18), (IntKind.i64.wrap (y19 + 1))))) else (bif (decide (y19 = (1 : Int))) then (bif (!(Option.isNone y16)) then (some (.inl (some 1))) else (ih ((y15, y16, y17, y18), (IntKind.i64.wrap (y19 + 1))))) else (bif (decide (y19 = (2 : Int))) then (bif (!(Option.isNone y17)) then (some (.inl (some 1))) else (ih ((y15, y16, y17, y18), (IntKind.i64.wrap (y19 + 1))))) else (bif (decide (y19 = (3 : Int))) then (bif (!(Option.isNone y18)) then (some (.inl (some 1))) else (ih ((y15, y16, y17, y18), (IntKind.i64.wrap (y19 + 1))))) else none)))) else (some (.inr ())))
def l_49_0 (N : Nat) : TAs sh_49_0 → Option T_49_0 := iter (b_49_0 N) N
def L_49_0 (N : Nat) : LSum := loopSum [17, 18] [] sh_49_0 o_49_0 (l_49_0 N)
theorem L_ok_49_0 (N : Nat) : SegOk Tryz.prog laidL 0 Tryz.f49.ntmps (loopAt 0 0 (bodyOf Tryz.f49)) (L_49_0 N) :=
 lp_x h0 (x_49 N) (lookOk_nil)
def f_49 (N : Nat) (x1 x2 x3 x4 x5 x6 : Int) (_x7 : Bool) (x8 : ByteArray) (x9 : Int) (x10 : List (Int × Int × ByteArray)) : Option (TAs [.one (.d (.err 129))]) :=
 ((f_106 N x1 x2 x3).bind fun r11 => ((f_107 N x4).bind fun r12 => ((f_108 N x5 x6).bind fun r13 => ((f_109 N x8 x9 x10).bind fun r14 => ((l_49_0 N ((r11, r12, r13, r14), 0)).bind fun q => (match q with | .inl q20 => (some q20) | .inr _ => (some none)))))))
def S_49 (N : Nat) : Sum := fnSum 1 0 1 [zg3] [.one (.d (.err 129))] (fun (x1, x2, x3, x4, x5, x6, x7, x8, x9, x10) => f_49 N x1 x2 x3 x4 x5 x6 x7 x8 x9 x10)
theorem s_49 (N : Nat) : SumOk Tryz.prog laidL 49 (S_49 N) := fn_x h0 (x_49 N) Tryz.func49 ((lookOk_cons (L_ok_49_0 N) lookOk_nil))
def f_53 (N : Nat) (x1 x2 x3 x4 x5 x6 : Int) (_x7 : Bool) (x8 : ByteArray) (x9 : Int) (x10 : List (Int × Int × ByteArray)) : Option (TAs [.one (.d (.bool))]) :=
 ((f_116 N x1 x2 x3).bind fun r11 => (bif r11 then ((f_117 N x4).bind fun r12 => (bif r12 then ((f_118 N x5 x6).bind fun r13 => (bif r13 then ((f_119 N x8 x9 x10).bind fun r14 => (some r14)) else (some false))) else (some false))) else (some false)))
def S_53 (N : Nat) : Sum := fnSum 1 0 1 [zg3] [.one (.d (.bool))] (fun (x1, x2, x3, x4, x5, x6, x7, x8, x9, x10) => f_53 N x1 x2 x3 x4 x5 x6 x7 x8 x9 x10)
theorem s_53 (N : Nat) : SumOk Tryz.prog laidL 53 (S_53 N) := fn_x h0 (fk (s_116 N) (fk (s_117 N) (fk (s_118 N) (fk (s_119 N) fz)))) Tryz.func53 (lookOk_nil)
end
end Go.Proofs.YthpljlpokmoeeaaGreatDoor.Mir
namespace Go.Proofs.YthpljlpokmoeeaaGreatDoor.Mir
open Go Go.RowKit
set_option maxRecDepth 100000
noncomputable section
def X_8 (_ : Nat) : List (Nat × Sum) := []
theorem x_8 (N : Nat) : FnsOk Tryz.prog laidL (X_8 N) := fz
def sh_8_0 : List ShA := [.one (.ptr 144 0), .one (.d (.int .i64)), zg7]
abbrev T_8_0 := ((TAs [.one (.d (.bool))]) ⊕ (TAs [.one (.ptr 144 0), zg7]))
def o_8_0 : OutK 0 T_8_0 := (outTwo (outOne 0 .ret [2] [] [.one (.d (.bool))]) (outOne 0 (.exit 0) [1] [144] [.one (.ptr 144 0), zg7]))
def b_8_0 (_ : Nat) (ih : TAs sh_8_0 → Option T_8_0) : TAs sh_8_0 → Option T_8_0 := fun (_, y4, (y5, y6, y7)) =>
 (bif (decide (y4 < (List.length y7 : Int))) then (bif (decide (y4 < 60)) then (bif (decide (0 ≤ y4 ∧ y4 < (List.length y7 : Int))) then (bif (decide ((ByteArray.size (List.getD y7 (Int.toNat y4) (0, 0, ByteArray.empty)).2.2 : Int) > 200)) then (some (.inl true)) else (ih ((), (IntKind.i64.wrap (y4 + 1)), (y5, y6, y7)))) else none) else (some (.inr ((), (y5, y6, y7))))) else (some (.inr ((), (y5, y6, y7)))))
def l_8_0 (N : Nat) : TAs sh_8_0 → Option T_8_0 := iter (b_8_0 N) N
def L_8_0 (N : Nat) : LSum := loopSum [1, 3] [144] sh_8_0 o_8_0 (l_8_0 N)
theorem L_ok_8_0 (N : Nat) : SegOk Tryz.prog laidL 0 Tryz.f8.ntmps (loopAt 0 0 (bodyOf Tryz.f8)) (L_8_0 N) :=
 lp_x h0 (x_8 N) (lookOk_nil)
def f_8 (N : Nat) (x1 : ByteArray) (x2 : Int) (x3 : List (Int × Int × ByteArray)) : Option (TAs [.one (.d (.bool))]) :=
 ((l_8_0 N ((), 0, (x1, x2, x3))).bind fun q => (match q with | .inl q8 => (some q8) | .inr q9 => (bif (decide ((List.length q9.2.2.2 : Int) > 60)) then (some true) else (some (decide ((ByteArray.size q9.2.1 : Int) > 200))))))
def S_8 (N : Nat) : Sum := fnSum 1 0 1 [zg7] [.one (.d (.bool))] (fun (x1, x2, x3) => f_8 N x1 x2 x3)
theorem s_8 (N : Nat) : SumOk Tryz.prog laidL 8 (S_8 N) := fn_x h0 (x_8 N) Tryz.func8 ((lookOk_cons (L_ok_8_0 N) lookOk_nil))
def f_10 (_ : Nat) (x1 x2 x3 x4 x5 x6 x7 x8 x9 x10 : Int) : Option (TAs [zg4]) :=
 (some (x1, x2, x3, x4, x5, x6, x7, x8, x9, x10))
def S_10 (N : Nat) : Sum := fnSum 1 0 1 [zg4] [zg4] (fun (x1, x2, x3, x4, x5, x6, x7, x8, x9, x10) => f_10 N x1 x2 x3 x4 x5 x6 x7 x8 x9 x10)
theorem s_10 (N : Nat) : SumOk Tryz.prog laidL 10 (S_10 N) := fn_x h0 fz Tryz.func10 (lookOk_nil)
def f_17 (_ : Nat) (x1 : Option Int) : Option (TAs [.one (.d (.int .i64))]) :=
 (bif (Option.isNone x1) then (some 0) else ((some (x1, (0 : Int)) : Option (Option Int × Int)).bind fun r2 => (bif (Option.isSome r2.1) then (some (asVal r2.2 r2.1)) else (some (-1)))))
def S_17 (N : Nat) : Sum := fnSum 1 0 1 [.one (.d (.err 129))] [.one (.d (.int .i64))] (fun x1 => f_17 N x1)
theorem s_17 (N : Nat) : SumOk Tryz.prog laidL 17 (S_17 N) := fn_x h0 (fk asS_ok fz) Tryz.func17 (lookOk_nil)
def f_46 (_ : Nat) : Option (TAs [zg4]) :=
 (some (0, 0, 0, 5, 2147483648, 31, 2147483648, 31, 1048576, 1099511627776))
def S_46 (N : Nat) : Sum := fnSum 0 0 1 [] [zg4] (fun _ => f_46 N)
theorem s_46 (N : Nat) : SumOk Tryz.prog laidL 46 (S_46 N) := fn_x h0 fz Tryz.func46 (lookOk_nil)
def X_48 (_ : Nat) : List (Nat × Sum) := []
theorem x_48 (N : Nat) : FnsOk Tryz.prog laidL (X_48 N) := fz
def sh_48_0 : List ShA := [.one (.ptr 144 0), .one (.ptr 160 0), .one (.ptr 176 0), .one (.d (.int .i64)), zg7, zg6, zg6]
abbrev T_48_0 := TAs [.one (.ptr 160 0), .one (.ptr 176 0), zg6, zg6]
def o_48_0 : OutK 0 T_48_0 := (outOne 0 (.exit 0) [2, 3] [160, 176] [.one (.ptr 160 0), .one (.ptr 176 0), zg6, zg6])
def b_48_0 (_ : Nat) (ih : TAs sh_48_0 → Option T_48_0) : TAs sh_48_0 → Option T_48_0 := fun (_, _, _, y4, (y5, y6, y7), (y8, y9, y10), (y11, y12, y13)) =>
 (bif (decide (y4 < (List.length y7 : Int))) then (bif (decide (0 ≤ y4 ∧ y4 < (List.length y7 : Int))) then (bif (decide ((List.length y13 + List.length ([((List.getD y7 (Int.toNat y4) (0, 0, ByteArray.empty)).1, (List.getD y7 (Int.toNat y4) (0, 0, ByteArray.empty)).2.1, (List.getD y7 (Int.toNat y4) (0, 0, ByteArray.empty)).2.2)] : List (Int × Int × ByteArray))) * 32 ≤ 140737488355328)) then (ih ((), (), (), (IntKind.i64.wrap (y4 + 1)), (y5, y6, y7), (y8, y9, y10), (y11, y12, (y13 ++ ([((List.getD y7 (Int.toNat y4) (0, 0, ByteArray.empty)).1, (List.getD y7 (Int.toNat y4) (0, 0, ByteArray.empty)).2.1, (List.getD y7 (Int.toNat y4) (0, 0, ByteArray.empty)).2.2)] : List (Int × Int × ByteArray)))))) else none) else none) else (some (((), (), (y8, y9, y10), (y11, y12, y13)))))
def l_48_0 (N : Nat) : TAs sh_48_0 → Option T_48_0 := iter (b_48_0 N) N
def L_48_0 (N : Nat) : LSum := loopSum [1, 2, 3, 4] [144, 160, 176] sh_48_0 o_48_0 (l_48_0 N)
theorem L_ok_48_0 (N : Nat) : SegOk Tryz.prog laidL 0 Tryz.f48.ntmps (loopAt 0 0 (bodyOf Tryz.f48)) (L_48_0 N) :=
 lp_x h0 (x_48 N) (lookOk_nil)
def f_48 (N : Nat) (x1 : ByteArray) (x2 : Int) (x3 : List (Int × Int × ByteArray)) : Option (TAs [zg6]) :=
 ((l_48_0 N ((), (), (), 0, (x1, x2, x3), (ByteArray.empty, 0, ([] : List (Int × Int × ByteArray))), (x1, x2, ([] : List (Int × Int × ByteArray))))).bind fun q14 => (some (q14.2.2.2.1, q14.2.2.2.2.1, q14.2.2.2.2.2)))
def S_48 (N : Nat) : Sum := fnSum 1 0 1 [zg7] [zg6] (fun (x1, x2, x3) => f_48 N x1 x2 x3)
theorem s_48 (N : Nat) : SumOk Tryz.prog laidL 48 (S_48 N) := fn_x h0 (x_48 N) Tryz.func48 ((lookOk_cons (L_ok_48_0 N) lookOk_nil))
def f_100 (_ : Nat) (x1 x2 : Int) : Option (TAs [.one (.d (.bool))]) :=
 (bif (decide (x1 ≥ 0)) then (some (decide (x1 ≤ x2))) else (some false))
def S_100 (N : Nat) : Sum := fnSum 2 0 1 [.one (.d (.int .i64)), .one (.d (.int .i64))] [.one (.d (.bool))] (fun (x1, x2) => f_100 N x1 x2)
theorem s_100 (N : Nat) : SumOk Tryz.prog laidL 100 (S_100 N) := fn_x h0 fz Tryz.func100 (lookOk_nil)
def f_102 (_ : Nat) (x1 x2 : Int) : Option (TAs [.one (.d (.err 129))]) :=
 (bif (x1 == 0) then (some (some 1)) else (bif (decide (x2 < 0)) then (some (some 1)) else (bif (decide (x2 > 31)) then (some (some 1)) else (some none))))
def S_102 (N : Nat) : Sum := fnSum 1 0 1 [zg16] [.one (.d (.err 129))] (fun (x1, x2) => f_102 N x1 x2)
theorem s_102 (N : Nat) : SumOk Tryz.prog laidL 102 (S_102 N) := fn_x h0 fz Tryz.func102 (lookOk_nil)
def f_123 (_ : Nat) (x1 x2 : Int) : Option (TAs [.one (.d (.bool))]) :=
 (bif (decide (x1 > 0)) then (bif (decide (x2 ≥ 0)) then (some (decide (x2 ≤ 31))) else (some false)) else (some false))
def S_123 (N : Nat) : Sum := fnSum 1 0 1 [zg16] [.one (.d (.bool))] (fun (x1, x2) => f_123 N x1 x2)
theorem s_123 (N : Nat) : SumOk Tryz.prog laidL 123 (S_123 N) := fn_x h0 fz Tryz.func123 (lookOk_nil)
def f_166 (N : Nat) (x1 x2 x3 : Int) : Option (TAs [.one (.d (.int .i64)), .one (.d (.err 129))]) :=
 ((f_102 N x1 x2).bind fun r4 => (bif (!(Option.isNone r4)) then (some (0, (some 1))) else (bif (decide (x3 < 0)) then (some (0, (some 1))) else (bif (decide (x2 < 0)) then none else ((f_164 N (x3 / 2 ^ (min (Int.toNat x2) IntKind.i64.bits)) 2).bind fun r5 => (some (r5.1, r5.2)))))))
def S_166 (N : Nat) : Sum := fnSum 2 0 2 [zg16, .one (.d (.int .i64))] [.one (.d (.int .i64)), .one (.d (.err 129))] (fun ((x1, x2), x3) => f_166 N x1 x2 x3)
theorem s_166 (N : Nat) : SumOk Tryz.prog laidL 166 (S_166 N) := fn_x h0 (fk (s_102 N) (fk (s_164 N) fz)) Tryz.func166 (lookOk_nil)
def f_175 (_ : Nat) (x1 x2 : Int) : Option (TAs [.one (.d (.int .i64))]) :=
 ((rIntF x1).bind fun r3 => ((rIntF x2).bind fun r4 => ((rMulF ((r3.1, r3.2), (r4.1, r4.2))).bind fun r5 => ((rPowF 30).bind fun r6 => ((rDivF ((r5.1, r5.2), (r6.1, r6.2))).bind fun r7 => ((numbF (r7.1.1, r7.1.2)).bind fun r8 => (bif (!r8.2) then (some 9223372036854775807) else ((zeroF r7.2.2).bind fun r9 => (bif (!r9) then (some (IntKind.i64.wrap (r8.1 + 1))) else (some r8.1))))))))))
def S_175 (N : Nat) : Sum := fnSum 2 0 1 [.one (.d (.int .i64)), .one (.d (.int .i64))] [.one (.d (.int .i64))] (fun (x1, x2) => f_175 N x1 x2)
theorem s_175 (N : Nat) : SumOk Tryz.prog laidL 175 (S_175 N) := fn_x h0 (fk rIntS_ok (fk rMulS_ok (fk rPowS_ok (fk rDivS_ok (fk numbS_ok (fk zeroS_ok fz)))))) Tryz.func175 (lookOk_nil)
def f_197 (_ : Nat) (x1 x2 x3 : Int) : Option (TAs [.one (.d (.bool))]) :=
 (bif (decide (x1 < 0)) then (some true) else (bif (decide (x2 < 0)) then (some true) else (bif (decide (x2 > 2097152)) then (some true) else (some (decide (x3 < 0))))))
def S_197 (N : Nat) : Sum := fnSum 3 0 1 [.one (.d (.int .i64)), .one (.d (.int .i64)), .one (.d (.int .i64))] [.one (.d (.bool))] (fun (x1, x2, x3) => f_197 N x1 x2 x3)
theorem s_197 (N : Nat) : SumOk Tryz.prog laidL 197 (S_197 N) := fn_x h0 fz Tryz.func197 (lookOk_nil)
def f_11 (N : Nat) (x1 x2 x3 x4 x5 x6 : Int) (x7 : Bool) (x8 : ByteArray) (x9 : Int) (x10 : List (Int × Int × ByteArray)) : Option (TAs [zg2]) :=
 ((f_48 N x8 x9 x10).bind fun r11 => (some (x1, x2, x3, x4, x5, x6, x7, r11.1, r11.2.1, r11.2.2)))
def S_11 (N : Nat) : Sum := fnSum 1 0 1 [zg3] [zg2] (fun (x1, x2, x3, x4, x5, x6, x7, x8, x9, x10) => f_11 N x1 x2 x3 x4 x5 x6 x7 x8 x9 x10)
theorem s_11 (N : Nat) : SumOk Tryz.prog laidL 11 (S_11 N) := fn_x h0 (fk (s_48 N) fz) Tryz.func11 (lookOk_nil)
def X_16 (N : Nat) : List (Nat × Sum) := [(56, (S_56 N)), (60, (S_60 N))]
theorem x_16 (N : Nat) : FnsOk Tryz.prog laidL (X_16 N) := fk (s_56 N) (fk (s_60 N) fz)
def sh_16_0 : List ShA := [.one (.d (.int .i64)), .one (.slt [.int .i64] 2 1), .one (.d (.int .i64))]
abbrev T_16_0 := TAs [.one (.d (.int .i64))]
def o_16_0 : OutK 0 T_16_0 := (outOne 0 (.exit 0) [3] [] [.one (.d (.int .i64))])
def b_16_0 (N : Nat) (ih : TAs sh_16_0 → Option T_16_0) : TAs sh_16_0 → Option T_16_0 := fun (y8, y9, y10) =>
 (bif (decide (y10 < (List.length y9 : Int))) then (bif (decide (0 ≤ y10 ∧ y10 < (List.length y9 : Int))) then ((f_56 N y8 (List.getD y9 (Int.toNat y10) 0)).bind fun r11 => ((f_60 N r11.1 r11.2).bind fun r12 => (ih (r12, y9, (IntKind.i64.wrap (y10 + 1)))))) else none) else (some (y8)))
def l_16_0 (N : Nat) : TAs sh_16_0 → Option T_16_0 := iter (b_16_0 N) N
def L_16_0 (N : Nat) : LSum := loopSum [3, 4, 5] [] sh_16_0 o_16_0 (l_16_0 N)
theorem L_ok_16_0 (N : Nat) : SegOk Tryz.prog laidL 0 Tryz.f16.ntmps (loopAt 0 0 (bodyOf Tryz.f16)) (L_16_0 N) :=
 lp_x h0 (x_16 N) (lookOk_nil)
def f_16 (N : Nat) (x1 x2 x3 x4 x5 x6 x7 : Int) : Option (TAs [.one (.d (.int .i64))]) :=
 ((l_16_0 N (0, ([x1, x2, x3, x4, x5, x6, x7] : List Int), 0)).bind fun q13 => (some q13))
def S_16 (N : Nat) : Sum := fnSum 1 0 1 [zg5] [.one (.d (.int .i64))] (fun (x1, x2, x3, x4, x5, x6, x7) => f_16 N x1 x2 x3 x4 x5 x6 x7)
theorem s_16 (N : Nat) : SumOk Tryz.prog laidL 16 (S_16 N) := fn_x h0 (x_16 N) Tryz.func16 ((lookOk_cons (L_ok_16_0 N) lookOk_nil))
def f_50 (N : Nat) (x1 x2 x3 : Int) : Option (TAs [.one (.d (.int .i64)), .one (.d (.err 129))]) :=
 ((f_102 N x1 x2).bind fun r4 => (bif (!(Option.isNone r4)) then (some (0, r4)) else ((msF x3 x1 x2).bind fun r5 => (some (r5.1, r5.2)))))
def S_50 (N : Nat) : Sum := fnSum 2 0 2 [zg16, .one (.d (.int .i64))] [.one (.d (.int .i64)), .one (.d (.err 129))] (fun ((x1, x2), x3) => f_50 N x1 x2 x3)
theorem s_50 (N : Nat) : SumOk Tryz.prog laidL 50 (S_50 N) := fn_x h0 (fk (s_102 N) (fk msS_ok fz)) Tryz.func50 (lookOk_nil)
def f_55 (N : Nat) (x1 x2 x3 : Int) : Option (TAs [.one (.d (.int .i64)), .one (.d (.int .i64))]) :=
 ((f_123 N x1 x2).bind fun r4 => (bif (!r4) then (some (0, 1)) else ((rmsF x3 x1 x2).bind fun r5 => (some (r5.1, r5.2)))))
def S_55 (N : Nat) : Sum := fnSum 2 0 2 [zg16, .one (.d (.int .i64))] [.one (.d (.int .i64)), .one (.d (.int .i64))] (fun ((x1, x2), x3) => f_55 N x1 x2 x3)
theorem s_55 (N : Nat) : SumOk Tryz.prog laidL 55 (S_55 N) := fn_x h0 (fk (s_123 N) (fk rmsS_ok fz)) Tryz.func55 (lookOk_nil)
def f_66 (N : Nat) (x1 x2 x3 x4 x5 x6 x7 x8 x9 x10 : Int) : Option (TAs [.one (.d (.bool))]) :=
 (bif (decide (x1 < 0)) then (some false) else (bif (decide (x1 > 1099511627776)) then (some false) else (bif (decide (x2 < 0)) then (some false) else (bif (decide (x2 > 1152921504606846976)) then (some false) else (bif (decide (x3 ≤ (-4611686018427387904))) then (some false) else (bif (decide (x3 ≥ 4611686018427387904)) then (some false) else (bif (decide (x4 < 0)) then (some false) else (bif (decide (x4 > 2305843009213693952)) then (some false) else (bif (decide (x9 < 0)) then (some false) else (bif (decide (x9 > 2097152)) then (some false) else (bif (decide (x10 < 1)) then (some false) else (bif (decide (x10 > 1125899906842624)) then (some false) else ((f_123 N x5 x6).bind fun r11 => (bif r11 then ((f_123 N x7 x8).bind fun r12 => (some r12)) else (some false)))))))))))))))
def S_66 (N : Nat) : Sum := fnSum 1 0 1 [zg4] [.one (.d (.bool))] (fun (x1, x2, x3, x4, x5, x6, x7, x8, x9, x10) => f_66 N x1 x2 x3 x4 x5 x6 x7 x8 x9 x10)
theorem s_66 (N : Nat) : SumOk Tryz.prog laidL 66 (S_66 N) := fn_x h0 (fk (s_123 N) fz) Tryz.func66 (lookOk_nil)
def f_104 (N : Nat) (_x1 _x2 x3 _x4 x5 x6 _x7 _x8 _x9 _x10 x11 : Int) : Option (TAs [.one (.d (.int .i64)), .one (.d (.err 129))]) :=
 ((f_50 N x5 x6 x11).bind fun r12 => (bif (!(Option.isNone r12.2)) then (some (0, r12.2)) else ((f_164 N x3 r12.1).bind fun r13 => (bif (!(Option.isNone r13.2)) then (some (0, (some 2))) else (bif (decide (r13.1 ≥ 4611686018427387904)) then (some (0, (some 2))) else (some (r13.1, none)))))))
def S_104 (N : Nat) : Sum := fnSum 2 0 2 [zg4, .one (.d (.int .i64))] [.one (.d (.int .i64)), .one (.d (.err 129))] (fun ((x1, x2, x3, x4, x5, x6, x7, x8, x9, x10), x11) => f_104 N x1 x2 x3 x4 x5 x6 x7 x8 x9 x10 x11)
theorem s_104 (N : Nat) : SumOk Tryz.prog laidL 104 (S_104 N) := fn_x h0 (fk (s_50 N) (fk (s_164 N) fz)) Tryz.func104 (lookOk_nil)
def f_120 (N : Nat) (_x1 _x2 x3 _x4 x5 x6 _x7 _x8 _x9 _x10 x11 : Int) : Option (TAs [.one (.d (.int .i64)), .one (.d (.int .i64))]) :=
 ((f_55 N x5 x6 x11).bind fun r12 => (bif (r12.2 != 0) then (some (0, r12.2)) else ((f_56 N x3 r12.1).bind fun r13 => (bif (r13.2 != 0) then (some (0, 2)) else (bif (decide (r13.1 ≥ 4611686018427387904)) then (some (0, 2)) else (some (r13.1, 0)))))))
def S_120 (N : Nat) : Sum := fnSum 2 0 2 [zg4, .one (.d (.int .i64))] [.one (.d (.int .i64)), .one (.d (.int .i64))] (fun ((x1, x2, x3, x4, x5, x6, x7, x8, x9, x10), x11) => f_120 N x1 x2 x3 x4 x5 x6 x7 x8 x9 x10 x11)
theorem s_120 (N : Nat) : SumOk Tryz.prog laidL 120 (S_120 N) := fn_x h0 (fk (s_55 N) (fk (s_56 N) fz)) Tryz.func120 (lookOk_nil)
def f_121 (N : Nat) (x1 x2 x3 : Int) : Option (TAs [.one (.d (.int .i64)), .one (.d (.int .i64))]) :=
 (bif (decide (x1 < 0)) then (some (0, 1)) else (bif (decide (x2 < 0)) then (some (0, 1)) else (bif (decide (x2 > 2097152)) then (some (0, 1)) else (bif (decide (x3 < 0)) then (some (0, 1)) else ((f_175 N x2 x3).bind fun r4 => ((f_56 N x1 r4).bind fun r5 => ((f_60 N r5.1 r5.2).bind fun r6 => (some (r6, 0)))))))))
def S_121 (N : Nat) : Sum := fnSum 3 0 2 [.one (.d (.int .i64)), .one (.d (.int .i64)), .one (.d (.int .i64))] [.one (.d (.int .i64)), .one (.d (.int .i64))] (fun (x1, x2, x3) => f_121 N x1 x2 x3)
theorem s_121 (N : Nat) : SumOk Tryz.prog laidL 121 (S_121 N) := fn_x h0 (fk (s_175 N) (fk (s_56 N) (fk (s_60 N) fz))) Tryz.func121 (lookOk_nil)
def X_122 (N : Nat) : List (Nat × Sum) := [(123, (S_123 N))]
theorem x_122 (N : Nat) : FnsOk Tryz.prog laidL (X_122 N) := fk (s_123 N) fz
def sh_122_0 : List ShA := [.one (.d (.int .i64)), .one (.ptr 160 0), .one (.d (.int .i64)), zg16]
abbrev T_122_0 := TAs [.one (.d (.int .i64))]
def o_122_0 : OutK 0 T_122_0 := (outOne 0 (.exit 0) [1] [] [.one (.d (.int .i64))])
def b_122_0 (_ : Nat) (ih : TAs sh_122_0 → Option T_122_0) : TAs sh_122_0 → Option T_122_0 := fun (y5, _, y6, (y7, y8)) =>
 (bif (decide (y6 < y8)) then (ih ((IntKind.i64.wrap (Int.tdiv y5 2)), (), (IntKind.i64.wrap (y6 + 1)), (y7, y8))) else (some (y5)))
def l_122_0 (N : Nat) : TAs sh_122_0 → Option T_122_0 := iter (b_122_0 N) N
def L_122_0 (N : Nat) : LSum := loopSum [1, 2, 6] [160] sh_122_0 o_122_0 (l_122_0 N)
theorem L_ok_122_0 (N : Nat) : SegOk Tryz.prog laidL 0 Tryz.f122.ntmps (loopAt 0 0 (bodyOf Tryz.f122)) (L_122_0 N) :=
 lp_x h0 (x_122 N) (lookOk_nil)
def f_122 (N : Nat) (x1 x2 x3 : Int) : Option (TAs [.one (.d (.int .i64)), .one (.d (.int .i64))]) :=
 ((f_123 N x1 x2).bind fun r4 => (bif (!r4) then (some (0, 1)) else (bif (decide (x3 < 0)) then (some (0, 1)) else ((l_122_0 N (x3, (), 0, (x1, x2))).bind fun q9 => (bif (decide (q9 > 9223372036854775805)) then (some (0, 2)) else (some ((IntKind.i64.wrap (q9 + 2)), 0)))))))
def S_122 (N : Nat) : Sum := fnSum 2 0 2 [zg16, .one (.d (.int .i64))] [.one (.d (.int .i64)), .one (.d (.int .i64))] (fun ((x1, x2), x3) => f_122 N x1 x2 x3)
theorem s_122 (N : Nat) : SumOk Tryz.prog laidL 122 (S_122 N) := fn_x h0 (x_122 N) Tryz.func122 ((lookOk_cons (L_ok_122_0 N) lookOk_nil))
def f_165 (N : Nat) (x1 x2 x3 : Int) : Option (TAs [.one (.d (.int .i64)), .one (.d (.err 129))]) :=
 ((f_197 N x1 x2 x3).bind fun r4 => (bif r4 then (some (0, (some 1))) else ((mdF (IntKind.i64.wrap (0 - x3)) x2 1073741824).bind fun r5 => (bif (!(Option.isNone r5.2)) then (some (9223372036854775807, none)) else ((f_52 N x1 r5.1).bind fun r6 => (some (r6, none)))))))
def S_165 (N : Nat) : Sum := fnSum 3 0 2 [.one (.d (.int .i64)), .one (.d (.int .i64)), .one (.d (.int .i64))] [.one (.d (.int .i64)), .one (.d (.err 129))] (fun (x1, x2, x3) => f_165 N x1 x2 x3)
theorem s_165 (N : Nat) : SumOk Tryz.prog laidL 165 (S_165 N) := fn_x h0 (fk (s_197 N) (fk mdS_ok (fk (s_52 N) fz))) Tryz.func165 (lookOk_nil)
def f_44 (N : Nat) (x1 x2 x3 x4 x5 x6 x7 x8 x9 x10 : Int) : Option (TAs [.one (.d (.err 129))]) :=
 ((f_100 N x1 1099511627776).bind fun r11 => (bif (!r11) then (some (some 1)) else ((f_100 N x2 1152921504606846976).bind fun r12 => (bif (!r12) then (some (some 1)) else ((f_101 N x3).bind fun r13 => (bif (decide (r13 ≥ 4611686018427387904)) then (some (some 1)) else ((f_100 N x4 2305843009213693952).bind fun r14 => (bif (!r14) then (some (some 1)) else ((f_100 N x9 2097152).bind fun r15 => (bif (!r15) then (some (some 1)) else (bif (decide (x10 < 1)) then (some (some 1)) else (bif (decide (x10 > 1125899906842624)) then (some (some 1)) else ((f_102 N x5 x6).bind fun r16 => (bif (!(Option.isNone r16)) then (some (some 1)) else ((f_102 N x7 x8).bind fun r17 => (bif (!(Option.isNone r17)) then (some (some 1)) else (some none)))))))))))))))))
def S_44 (N : Nat) : Sum := fnSum 1 0 1 [zg4] [.one (.d (.err 129))] (fun (x1, x2, x3, x4, x5, x6, x7, x8, x9, x10) => f_44 N x1 x2 x3 x4 x5 x6 x7 x8 x9 x10)
theorem s_44 (N : Nat) : SumOk Tryz.prog laidL 44 (S_44 N) := fn_x h0 (fk (s_100 N) (fk (s_101 N) (fk (s_102 N) fz))) Tryz.func44 (lookOk_nil)
def f_54 (N : Nat) (x1 x2 x3 x4 x5 x6 x7 x8 x9 x10 x11 : Int) : Option (TAs [.one (.d (.int .i64)), .one (.d (.int .i64)), .one (.d (.int .i64))]) :=
 ((f_66 N x1 x2 x3 x4 x5 x6 x7 x8 x9 x10).bind fun r12 => (bif (!r12) then (some (0, 0, 1)) else (bif (decide (x11 < x2)) then (some (0, 0, 10)) else (bif (decide ((IntKind.i64.wrap (x11 - x2)) > x10)) then (some (0, 0, 14)) else ((f_120 N x1 x2 x3 x4 x5 x6 x7 x8 x9 x10 (IntKind.i64.wrap (x11 - x2))).bind fun r13 => (bif (r13.2 != 0) then (some (0, 0, r13.2)) else ((f_55 N x7 x8 (IntKind.i64.wrap (x11 - x2))).bind fun r14 => (bif (r14.2 != 0) then (some (0, 0, r14.2)) else ((f_56 N r14.1 1).bind fun r15 => ((f_60 N r15.1 r15.2).bind fun r16 => ((f_121 N x4 x9 r16).bind fun r17 => ((f_122 N x7 x8 (IntKind.i64.wrap (x11 - x2))).bind fun r18 => ((f_56 N r17.1 (IntKind.i64.wrap (r18.1 + 2))).bind fun r19 => ((f_60 N r19.1 r19.2).bind fun r20 => (some (r13.1, r20, 0))))))))))))))))
def S_54 (N : Nat) : Sum := fnSum 2 0 3 [zg4, .one (.d (.int .i64))] [.one (.d (.int .i64)), .one (.d (.int .i64)), .one (.d (.int .i64))] (fun ((x1, x2, x3, x4, x5, x6, x7, x8, x9, x10), x11) => f_54 N x1 x2 x3 x4 x5 x6 x7 x8 x9 x10 x11)
theorem s_54 (N : Nat) : SumOk Tryz.prog laidL 54 (S_54 N) := fn_x h0 (fk (s_66 N) (fk (s_120 N) (fk (s_55 N) (fk (s_56 N) (fk (s_60 N) (fk (s_121 N) (fk (s_122 N) fz))))))) Tryz.func54 (lookOk_nil)
def X_69 (N : Nat) : List (Nat × Sum) := [(136, (S_136 N))]
theorem x_69 (N : Nat) : FnsOk Tryz.prog laidL (X_69 N) := fk (s_136 N) fz
def sh_69_0 : List ShA := [.one (.d (.int .i64)), .one (.d (.sl [.int .i64])), .one (.d (.int .i64)), .one (.d (.int .i64))]
abbrev T_69_0 := TAs [.one (.d (.int .i64))]
def o_69_0 : OutK 0 T_69_0 := (outOne 0 (.exit 0) [3] [] [.one (.d (.int .i64))])
def b_69_0 (N : Nat) (ih : TAs sh_69_0 → Option T_69_0) : TAs sh_69_0 → Option T_69_0 := fun (y2, y3, y4, y5) =>
 (bif (decide (y5 < y4)) then (bif (decide (0 ≤ y5 ∧ y5 < (List.length y3 : Int))) then ((f_136 N y2 (List.getD y3 (Int.toNat y5) 0)).bind fun r6 => (ih (r6, y3, y4, (IntKind.i64.wrap (y5 + 1))))) else none) else (some (y2)))
def l_69_0 (N : Nat) : TAs sh_69_0 → Option T_69_0 := iter (b_69_0 N) N
def L_69_0 (N : Nat) : LSum := loopSum [3, 6, 7, 8] [] sh_69_0 o_69_0 (l_69_0 N)
theorem L_ok_69_0 (N : Nat) : SegOk Tryz.prog laidL 0 Tryz.f69.ntmps (loopAt 0 0 (bodyOf Tryz.f69)) (L_69_0 N) :=
 lp_x h0 (x_69 N) (lookOk_nil)
def f_69 (N : Nat) (x1 : List Int) : Option (TAs [.one (.d (.int .i64))]) :=
 ((l_69_0 N (0, x1, (List.length x1 : Int), 0)).bind fun q7 => (some q7))
def S_69 (N : Nat) : Sum := fnSum 1 0 1 [.one (.d (.sl [.int .i64]))] [.one (.d (.int .i64))] (fun x1 => f_69 N x1)
theorem s_69 (N : Nat) : SumOk Tryz.prog laidL 69 (S_69 N) := fn_x h0 (x_69 N) Tryz.func69 ((lookOk_cons (L_ok_69_0 N) lookOk_nil))
def f_103 (N : Nat) (x1 x2 x3 x4 x5 x6 x7 x8 x9 x10 x11 : Int) : Option (TAs [.one (.d (.int .i64)), .one (.d (.err 129))]) :=
 ((f_44 N x1 x2 x3 x4 x5 x6 x7 x8 x9 x10).bind fun r12 => (bif (!(Option.isNone r12)) then (some (0, r12)) else (bif (decide (x11 < x2)) then (some (0, (some 10))) else ((f_114 N x11 x2).bind fun r13 => (bif (!(Option.isNone r13.2)) then (some (0, (some 14))) else (bif (decide (r13.1 > x10)) then (some (0, (some 14))) else (some (r13.1, none))))))))
def S_103 (N : Nat) : Sum := fnSum 2 0 2 [zg4, .one (.d (.int .i64))] [.one (.d (.int .i64)), .one (.d (.err 129))] (fun ((x1, x2, x3, x4, x5, x6, x7, x8, x9, x10), x11) => f_103 N x1 x2 x3 x4 x5 x6 x7 x8 x9 x10 x11)
theorem s_103 (N : Nat) : SumOk Tryz.prog laidL 103 (S_103 N) := fn_x h0 (fk (s_44 N) (fk (s_114 N) fz)) Tryz.func103 (lookOk_nil)
def f_105 (N : Nat) (_x1 _x2 _x3 x4 _x5 _x6 x7 x8 x9 _x10 x11 : Int) : Option (TAs [.one (.d (.int .i64)), .one (.d (.err 129))]) :=
 ((f_50 N x7 x8 x11).bind fun r12 => (bif (!(Option.isNone r12.2)) then (some (0, r12.2)) else ((f_136 N r12.1 1).bind fun r13 => ((f_165 N x4 x9 r13).bind fun r14 => (bif (!(Option.isNone r14.2)) then (some (0, r14.2)) else ((f_166 N x7 x8 x11).bind fun r15 => (bif (!(Option.isNone r15.2)) then (some (0, r15.2)) else ((f_136 N r15.1 2).bind fun r16 => ((f_136 N r14.1 r16).bind fun r17 => (some (r17, none)))))))))))
def S_105 (N : Nat) : Sum := fnSum 2 0 2 [zg4, .one (.d (.int .i64))] [.one (.d (.int .i64)), .one (.d (.err 129))] (fun ((x1, x2, x3, x4, x5, x6, x7, x8, x9, x10), x11) => f_105 N x1 x2 x3 x4 x5 x6 x7 x8 x9 x10 x11)
theorem s_105 (N : Nat) : SumOk Tryz.prog laidL 105 (S_105 N) := fn_x h0 (fk (s_50 N) (fk (s_136 N) (fk (s_165 N) (fk (s_166 N) fz)))) Tryz.func105 (lookOk_nil)
def X_13 (N : Nat) : List (Nat × Sum) := [(53, (S_53 N)), (54, (S_54 N)), (55, (S_55 N)), (56, (S_56 N)), (59, rIntS), (60, (S_60 N)), (58, rMulS), (61, rPowS), (57, rDivS), (62, numbS), (63, zeroS)]
theorem x_13 (N : Nat) : FnsOk Tryz.prog laidL (X_13 N) := fk (s_53 N) (fk (s_54 N) (fk (s_55 N) (fk (s_56 N) (fk rIntS_ok (fk (s_60 N) (fk rMulS_ok (fk rPowS_ok (fk rDivS_ok (fk numbS_ok (fk zeroS_ok fz))))))))))
def sh_13_0 : List ShA := [.one (.ptr 192 0), .one (.ptr 224 0), .one (.ptr 256 0), .one (.d (.int .i64)), .one (.ptr 480 0), .one (.d (.int .i64)), zg4, zg3, zg5, zg5]
abbrev T_13_0 := TAs [.one (.ptr 224 0), .one (.ptr 256 0), .one (.d (.int .i64)), .one (.ptr 480 0), zg3, zg5, zg5]
def o_13_0 : OutK 0 T_13_0 := (outOne 0 (.exit 0) [6, 8, 13, 22] [224, 256, 480] [.one (.ptr 224 0), .one (.ptr 256 0), .one (.d (.int .i64)), .one (.ptr 480 0), zg3, zg5, zg5])
def b_13_0 (_ : Nat) (ih : TAs sh_13_0 → Option T_13_0) : TAs sh_13_0 → Option T_13_0 := fun (_, _, _, y35, _, y36, (y37, y38, y39, y40, y41, y42, y43, y44, y45, y46), (y47, y48, y49, y50, y51, y52, y53, y54, y55, y56), (y57, y58, y59, y60, y61, y62, y63), (y64, y65, y66, y67, y68, y69, y70)) =>
 (bif (decide (y36 < y44)) then (ih ((), (), (), (IntKind.i64.wrap (Int.tdiv y35 2)), (), (IntKind.i64.wrap (y36 + 1)), (y37, y38, y39, y40, y41, y42, y43, y44, y45, y46), (y47, y48, y49, y50, y51, y52, y53, y54, y55, y56), (y57, y58, y59, y60, y61, y62, y63), (y64, y65, y66, y67, y68, y69, y70))) else (some (((), (), y35, (), (y47, y48, y49, y50, y51, y52, y53, y54, y55, y56), (y57, y58, y59, y60, y61, y62, y63), (y64, y65, y66, y67, y68, y69, y70)))))
def l_13_0 (N : Nat) : TAs sh_13_0 → Option T_13_0 := iter (b_13_0 N) N
def L_13_0 (N : Nat) : LSum := loopSum [4, 6, 8, 13, 22, 23] [192, 224, 256, 480] sh_13_0 o_13_0 (l_13_0 N)
theorem L_ok_13_0 (N : Nat) : SegOk Tryz.prog laidL 0 Tryz.f13.ntmps (loopAt 0 0 (bodyOf Tryz.f13)) (L_13_0 N) :=
 lp_x h0 (x_13 N) (lookOk_nil)
def f_13 (N : Nat) (x1 x2 x3 x4 x5 x6 x7 x8 x9 x10 x11 x12 x13 x14 x15 x16 x17 : Int) (x18 : Bool) (x19 : ByteArray) (x20 : Int) (x21 : List (Int × Int × ByteArray)) (x22 : Int) : Option (TAs [zg5, .one (.d (.int .i64))]) :=
 ((f_53 N x12 x13 x14 x15 x16 x17 x18 x19 x20 x21).bind fun r23 => (bif (!r23) then (some ((0, 0, 0, 0, 0, 0, 0), 1)) else (bif (decide (x22 < 0)) then (some ((0, 0, 0, 0, 0, 0, 0), 1)) else ((f_54 N x1 x2 x3 x4 x5 x6 x7 x8 x9 x10 x11).bind fun r24 => (bif (r24.2.2 != 0) then (some ((0, 0, 0, 0, 0, 0, 0), r24.2.2)) else ((f_55 N x7 x8 (IntKind.i64.wrap (x11 - x2))).bind fun r25 => ((f_56 N r25.1 1).bind fun r26 => ((rIntF x9).bind fun r27 => ((f_60 N r26.1 r26.2).bind fun r28 => ((rIntF r28).bind fun r29 => ((rMulF ((r27.1, r27.2), (r29.1, r29.2))).bind fun r30 => ((rPowF 30).bind fun r31 => ((rDivF ((r30.1, r30.2), (r31.1, r31.2))).bind fun r32 => ((numbF (r32.1.1, r32.1.2)).bind fun r33 => ((zeroF r32.2.2).bind fun r34 => (bif (!r34) then ((l_13_0 N ((), (), (), (IntKind.i64.wrap (x11 - x2)), (), 0, (x1, x2, x3, x4, x5, x6, x7, x8, x9, x10), (x12, x13, x14, x15, x16, x17, x18, x19, x20, x21), (0, 0, 0, 0, 0, 0, 0), (x4, (IntKind.i64.wrap (r33.1 + 1)), 0, x16, (IntKind.i64.wrap (x15 - 1)), 0, x22))).bind fun q71 => (bif (q71.2.2.2.2.1.1 == 0) then (some ((q71.2.2.2.2.2.2.1, q71.2.2.2.2.2.2.2.1, (IntKind.i64.wrap (q71.2.2.1 + 4)), q71.2.2.2.2.2.2.2.2.2.1, q71.2.2.2.2.2.2.2.2.2.2.1, 1000000000, q71.2.2.2.2.2.2.2.2.2.2.2.2), 0)) else (some ((q71.2.2.2.2.2.2.1, q71.2.2.2.2.2.2.2.1, (IntKind.i64.wrap (q71.2.2.1 + 4)), q71.2.2.2.2.2.2.2.2.2.1, q71.2.2.2.2.2.2.2.2.2.2.1, q71.2.2.2.2.2.2.2.2.2.2.2.1, q71.2.2.2.2.2.2.2.2.2.2.2.2), 0)))) else ((l_13_0 N ((), (), (), (IntKind.i64.wrap (x11 - x2)), (), 0, (x1, x2, x3, x4, x5, x6, x7, x8, x9, x10), (x12, x13, x14, x15, x16, x17, x18, x19, x20, x21), (0, 0, 0, 0, 0, 0, 0), (x4, r33.1, 0, x16, (IntKind.i64.wrap (x15 - 1)), 0, x22))).bind fun q72 => (bif (q72.2.2.2.2.1.1 == 0) then (some ((q72.2.2.2.2.2.2.1, q72.2.2.2.2.2.2.2.1, (IntKind.i64.wrap (q72.2.2.1 + 4)), q72.2.2.2.2.2.2.2.2.2.1, q72.2.2.2.2.2.2.2.2.2.2.1, 1000000000, q72.2.2.2.2.2.2.2.2.2.2.2.2), 0)) else (some ((q72.2.2.2.2.2.2.1, q72.2.2.2.2.2.2.2.1, (IntKind.i64.wrap (q72.2.2.1 + 4)), q72.2.2.2.2.2.2.2.2.2.1, q72.2.2.2.2.2.2.2.2.2.2.1, q72.2.2.2.2.2.2.2.2.2.2.2.1, q72.2.2.2.2.2.2.2.2.2.2.2.2), 0))))))))))))))))))))
def S_13 (N : Nat) : Sum := fnSum 4 0 2 [zg4, .one (.d (.int .i64)), zg3, .one (.d (.int .i64))] [zg5, .one (.d (.int .i64))] (fun ((x1, x2, x3, x4, x5, x6, x7, x8, x9, x10), x11, (x12, x13, x14, x15, x16, x17, x18, x19, x20, x21), x22) => f_13 N x1 x2 x3 x4 x5 x6 x7 x8 x9 x10 x11 x12 x13 x14 x15 x16 x17 x18 x19 x20 x21 x22)
theorem s_13 (N : Nat) : SumOk Tryz.prog laidL 13 (S_13 N) := fn_x h0 (x_13 N) Tryz.func13 ((lookOk_cons (L_ok_13_0 N) lookOk_nil))
def f_18 (N : Nat) (x1 x2 x3 x4 x5 x6 x7 : Int) : Option (TAs [.one (.d (.int .i64))]) :=
 ((f_69 N ([x1, x2, x3, x4, x5, x6, x7] : List Int)).bind fun r8 => (some r8))
def S_18 (N : Nat) : Sum := fnSum 1 0 1 [zg5] [.one (.d (.int .i64))] (fun (x1, x2, x3, x4, x5, x6, x7) => f_18 N x1 x2 x3 x4 x5 x6 x7)
theorem s_18 (N : Nat) : SumOk Tryz.prog laidL 18 (S_18 N) := fn_x h0 (fk (s_69 N) fz) Tryz.func18 (lookOk_nil)
def f_45 (N : Nat) (x1 x2 x3 x4 x5 x6 x7 x8 x9 x10 x11 : Int) : Option (TAs [.one (.d (.int .i64)), .one (.d (.int .i64)), .one (.d (.err 129))]) :=
 ((f_103 N x1 x2 x3 x4 x5 x6 x7 x8 x9 x10 x11).bind fun r12 => (bif (!(Option.isNone r12.2)) then (some (0, 0, r12.2)) else ((f_104 N x1 x2 x3 x4 x5 x6 x7 x8 x9 x10 r12.1).bind fun r13 => (bif (!(Option.isNone r13.2)) then (some (0, 0, r13.2)) else ((f_105 N x1 x2 x3 x4 x5 x6 x7 x8 x9 x10 r12.1).bind fun r14 => (bif (!(Option.isNone r14.2)) then (some (0, 0, r14.2)) else (some (r13.1, r14.1, none))))))))
def S_45 (N : Nat) : Sum := fnSum 2 0 3 [zg4, .one (.d (.int .i64))] [.one (.d (.int .i64)), .one (.d (.int .i64)), .one (.d (.err 129))] (fun ((x1, x2, x3, x4, x5, x6, x7, x8, x9, x10), x11) => f_45 N x1 x2 x3 x4 x5 x6 x7 x8 x9 x10 x11)
theorem s_45 (N : Nat) : SumOk Tryz.prog laidL 45 (S_45 N) := fn_x h0 (fk (s_103 N) (fk (s_104 N) (fk (s_105 N) fz))) Tryz.func45 (lookOk_nil)
def f_67 (N : Nat) (x1 x2 x3 x4 x5 x6 x7 x8 x9 x10 x11 x12 x13 x14 x15 x16 x17 : Int) (x18 : Bool) (x19 : ByteArray) (x20 : Int) (x21 : List (Int × Int × ByteArray)) (x22 : Int) : Option (TAs [.one (.d (.bool))]) :=
 ((f_13 N x1 x2 x3 x4 x5 x6 x7 x8 x9 x10 (IntKind.i64.wrap (x2 + x11)) x12 x13 x14 x15 x16 x17 x18 x19 x20 x21 0).bind fun r23 => (bif (r23.2 == 0) then ((f_16 N r23.1.1 r23.1.2.1 r23.1.2.2.1 r23.1.2.2.2.1 r23.1.2.2.2.2.1 r23.1.2.2.2.2.2.1 r23.1.2.2.2.2.2.2).bind fun r24 => (some (decide (r24 ≤ x22)))) else (some false)))
def S_67 (N : Nat) : Sum := fnSum 4 0 1 [zg4, .one (.d (.int .i64)), zg3, .one (.d (.int .i64))] [.one (.d (.bool))] (fun ((x1, x2, x3, x4, x5, x6, x7, x8, x9, x10), x11, (x12, x13, x14, x15, x16, x17, x18, x19, x20, x21), x22) => f_67 N x1 x2 x3 x4 x5 x6 x7 x8 x9 x10 x11 x12 x13 x14 x15 x16 x17 x18 x19 x20 x21 x22)
theorem s_67 (N : Nat) : SumOk Tryz.prog laidL 67 (S_67 N) := fn_x h0 (fk (s_13 N) (fk (s_16 N) fz)) Tryz.func67 (lookOk_nil)
def f_12 (N : Nat) (x1 x2 x3 x4 x5 x6 x7 x8 x9 x10 x11 x12 x13 x14 x15 x16 x17 : Int) (x18 : Bool) (x19 : ByteArray) (x20 : Int) (x21 : List (Int × Int × ByteArray)) (x22 : Int) : Option (TAs [zg5, .one (.d (.err 129))]) :=
 ((f_49 N x12 x13 x14 x15 x16 x17 x18 x19 x20 x21).bind fun r23 => (bif (!(Option.isNone r23)) then (some ((0, 0, 0, 0, 0, 0, 0), (some 1))) else (bif (decide (x22 < 0)) then (some ((0, 0, 0, 0, 0, 0, 0), (some 1))) else ((f_45 N x1 x2 x3 x4 x5 x6 x7 x8 x9 x10 x11).bind fun r24 => (bif (!(Option.isNone r24.2.2)) then (some ((0, 0, 0, 0, 0, 0, 0), r24.2.2)) else ((f_50 N x7 x8 (IntKind.i64.wrap (x11 - x2))).bind fun r25 => (bif (!(Option.isNone r25.2)) then (some ((0, 0, 0, 0, 0, 0, 0), r25.2)) else ((f_52 N (-1) r25.1).bind fun r26 => ((mdF r26 x9 1073741824).bind fun r27 => (bif (!(Option.isNone r27.2)) then (some ((0, 0, 0, 0, 0, 0, 0), r27.2)) else ((f_52 N 0 r27.1).bind fun r28 => (bif (decide (x8 < 0)) then none else (bif (x12 == 0) then (some ((x4, r28, (IntKind.i64.wrap (((IntKind.i64.wrap (x11 - x2)) / 2 ^ (min (Int.toNat x8) IntKind.i64.bits)) + 4)), x16, (IntKind.i64.wrap (x15 - 1)), 1000000000, x22), none)) else (some ((x4, r28, (IntKind.i64.wrap (((IntKind.i64.wrap (x11 - x2)) / 2 ^ (min (Int.toNat x8) IntKind.i64.bits)) + 4)), x16, (IntKind.i64.wrap (x15 - 1)), 0, x22), none)))))))))))))))
def S_12 (N : Nat) : Sum := fnSum 4 0 2 [zg4, .one (.d (.int .i64)), zg3, .one (.d (.int .i64))] [zg5, .one (.d (.err 129))] (fun ((x1, x2, x3, x4, x5, x6, x7, x8, x9, x10), x11, (x12, x13, x14, x15, x16, x17, x18, x19, x20, x21), x22) => f_12 N x1 x2 x3 x4 x5 x6 x7 x8 x9 x10 x11 x12 x13 x14 x15 x16 x17 x18 x19 x20 x21 x22)
theorem s_12 (N : Nat) : SumOk Tryz.prog laidL 12 (S_12 N) := fn_x h0 (fk (s_49 N) (fk (s_45 N) (fk (s_50 N) (fk (s_52 N) (fk mdS_ok fz))))) Tryz.func12 (lookOk_nil)
def f_65 (N : Nat) (x1 x2 x3 x4 x5 x6 x7 x8 x9 x10 x11 x12 x13 x14 x15 x16 x17 : Int) (x18 : Bool) (x19 : ByteArray) (x20 : Int) (x21 : List (Int × Int × ByteArray)) (x22 : Int) : Option (TAs [.one (.d (.bool)), zg4, zg3, .agg [.d (.int .i64)]]) :=
 ((f_12 N x2 x3 x4 x5 x6 x7 x8 x9 x10 x11 (IntKind.i64.wrap (x3 + x1)) x12 x13 x14 x15 x16 x17 x18 x19 x20 x21 0).bind fun r23 => (bif (!(Option.isNone r23.2)) then (some (true, (x2, x3, x4, x5, x6, x7, x8, x9, x10, x11), (x12, x13, x14, x15, x16, x17, x18, x19, x20, x21), x22)) else ((f_18 N r23.1.1 r23.1.2.1 r23.1.2.2.1 r23.1.2.2.2.1 r23.1.2.2.2.2.1 r23.1.2.2.2.2.2.1 r23.1.2.2.2.2.2.2).bind fun r24 => (some ((decide (r24 > x22)), (x2, x3, x4, x5, x6, x7, x8, x9, x10, x11), (x12, x13, x14, x15, x16, x17, x18, x19, x20, x21), x22)))))
def S_65 (N : Nat) : Sum := fnSum 4 3 1 [.one (.d (.int .i64)), .one (.ptr 0 0), .one (.ptr 2 0), .one (.ptr 4 0), zg4, zg3, .agg [.d (.int .i64)]] [.one (.d (.bool)), zg4, zg3, .agg [.d (.int .i64)]] (fun (x1, _, _, _, (x2, x3, x4, x5, x6, x7, x8, x9, x10, x11), (x12, x13, x14, x15, x16, x17, x18, x19, x20, x21), x22) => f_65 N x1 x2 x3 x4 x5 x6 x7 x8 x9 x10 x11 x12 x13 x14 x15 x16 x17 x18 x19 x20 x21 x22)
theorem s_65 (N : Nat) : SumOk Tryz.prog laidL 65 (S_65 N) := fn_x h0 (fk (s_12 N) (fk (s_18 N) fz)) Tryz.func65 (lookOk_nil)
def X_64c65k0 (N : Nat) : List (Nat × Sum) := [(65, (S_65 N))]
theorem x_64c65k0 (N : Nat) : FnsOk Tryz.prog laidL (X_64c65k0 N) := fk (s_65 N) fz
def sh_64c65k0_0 : List ShA := [.clo 65 [.one (.ptr 0 0), .one (.ptr 2 0), .one (.ptr 4 0)], .one (.d (.int .i64)), .one (.d (.int .i64)), zg4, zg3, .agg [.d (.int .i64)]]
abbrev T_64c65k0_0 := TAs [.one (.d (.int .i64)), zg4, zg3, .agg [.d (.int .i64)]]
def o_64c65k0_0 : OutK 3 T_64c65k0_0 := (outOne 3 (.exit 0) [5] [0, 2, 4] [.one (.d (.int .i64)), zg4, zg3, .agg [.d (.int .i64)]])
def b_64c65k0_0 (N : Nat) (ih : TAs sh_64c65k0_0 → Option T_64c65k0_0) : TAs sh_64c65k0_0 → Option T_64c65k0_0 := fun ((_, _, _), y23, y24, (y25, y26, y27, y28, y29, y30, y31, y32, y33, y34), (y35, y36, y37, y38, y39, y40, y41, y42, y43, y44), y45) =>
 (bif (decide (y23 < y24)) then ((f_65 N (IntKind.i64.wrap ((IntKind.u64.wrap (IntKind.i64.wrap (y23 + y24))) / 2 ^ (min (Int.toNat 1) IntKind.u64.bits))) y25 y26 y27 y28 y29 y30 y31 y32 y33 y34 y35 y36 y37 y38 y39 y40 y41 y42 y43 y44 y45).bind fun r46 => (bif (!r46.1) then (ih (((), (), ()), (IntKind.i64.wrap ((IntKind.i64.wrap ((IntKind.u64.wrap (IntKind.i64.wrap (y23 + y24))) / 2 ^ (min (Int.toNat 1) IntKind.u64.bits))) + 1)), y24, (r46.2.1.1, r46.2.1.2.1, r46.2.1.2.2.1, r46.2.1.2.2.2.1, r46.2.1.2.2.2.2.1, r46.2.1.2.2.2.2.2.1, r46.2.1.2.2.2.2.2.2.1, r46.2.1.2.2.2.2.2.2.2.1, r46.2.1.2.2.2.2.2.2.2.2.1, r46.2.1.2.2.2.2.2.2.2.2.2), (r46.2.2.1.1, r46.2.2.1.2.1, r46.2.2.1.2.2.1, r46.2.2.1.2.2.2.1, r46.2.2.1.2.2.2.2.1, r46.2.2.1.2.2.2.2.2.1, r46.2.2.1.2.2.2.2.2.2.1, r46.2.2.1.2.2.2.2.2.2.2.1, r46.2.2.1.2.2.2.2.2.2.2.2.1, r46.2.2.1.2.2.2.2.2.2.2.2.2), r46.2.2.2)) else (ih (((), (), ()), y23, (IntKind.i64.wrap ((IntKind.u64.wrap (IntKind.i64.wrap (y23 + y24))) / 2 ^ (min (Int.toNat 1) IntKind.u64.bits))), (r46.2.1.1, r46.2.1.2.1, r46.2.1.2.2.1, r46.2.1.2.2.2.1, r46.2.1.2.2.2.2.1, r46.2.1.2.2.2.2.2.1, r46.2.1.2.2.2.2.2.2.1, r46.2.1.2.2.2.2.2.2.2.1, r46.2.1.2.2.2.2.2.2.2.2.1, r46.2.1.2.2.2.2.2.2.2.2.2), (r46.2.2.1.1, r46.2.2.1.2.1, r46.2.2.1.2.2.1, r46.2.2.1.2.2.2.1, r46.2.2.1.2.2.2.2.1, r46.2.2.1.2.2.2.2.2.1, r46.2.2.1.2.2.2.2.2.2.1, r46.2.2.1.2.2.2.2.2.2.2.1, r46.2.2.1.2.2.2.2.2.2.2.2.1, r46.2.2.1.2.2.2.2.2.2.2.2.2), r46.2.2.2)))) else (some ((y23, (y25, y26, y27, y28, y29, y30, y31, y32, y33, y34), (y35, y36, y37, y38, y39, y40, y41, y42, y43, y44), y45))))
def l_64c65k0_0 (N : Nat) : TAs sh_64c65k0_0 → Option T_64c65k0_0 := iter (b_64c65k0_0 N) N
def L_64c65k0_0 (N : Nat) : LSum := loopSum [1, 5, 6] [0, 2, 4] sh_64c65k0_0 o_64c65k0_0 (l_64c65k0_0 N)
theorem L_ok_64c65k0_0 (N : Nat) : SegOk Tryz.prog laidL 3 Tryz.f64.ntmps (loopAt 0 0 (bodyOf Tryz.f64)) (L_64c65k0_0 N) :=
 lp_x h0 (x_64c65k0 N) (lookOk_nil)
def f_64c65k0 (N : Nat) (x1 x2 x3 x4 x5 x6 x7 x8 x9 x10 x11 x12 x13 x14 x15 x16 x17 : Int) (x18 : Bool) (x19 : ByteArray) (x20 : Int) (x21 : List (Int × Int × ByteArray)) (x22 : Int) : Option (TAs [.one (.d (.int .i64)), zg4, zg3, .agg [.d (.int .i64)]]) :=
 ((l_64c65k0_0 N (((), (), ()), 0, x1, (x2, x3, x4, x5, x6, x7, x8, x9, x10, x11), (x12, x13, x14, x15, x16, x17, x18, x19, x20, x21), x22)).bind fun q47 => (some (q47.1, (q47.2.1.1, q47.2.1.2.1, q47.2.1.2.2.1, q47.2.1.2.2.2.1, q47.2.1.2.2.2.2.1, q47.2.1.2.2.2.2.2.1, q47.2.1.2.2.2.2.2.2.1, q47.2.1.2.2.2.2.2.2.2.1, q47.2.1.2.2.2.2.2.2.2.2.1, q47.2.1.2.2.2.2.2.2.2.2.2), (q47.2.2.1.1, q47.2.2.1.2.1, q47.2.2.1.2.2.1, q47.2.2.1.2.2.2.1, q47.2.2.1.2.2.2.2.1, q47.2.2.1.2.2.2.2.2.1, q47.2.2.1.2.2.2.2.2.2.1, q47.2.2.1.2.2.2.2.2.2.2.1, q47.2.2.1.2.2.2.2.2.2.2.2.1, q47.2.2.1.2.2.2.2.2.2.2.2.2), q47.2.2.2)))
def S_64c65k0 (N : Nat) : Sum := fnSum 2 3 1 [.one (.d (.int .i64)), .clo 65 [.one (.ptr 0 0), .one (.ptr 2 0), .one (.ptr 4 0)], zg4, zg3, .agg [.d (.int .i64)]] [.one (.d (.int .i64)), zg4, zg3, .agg [.d (.int .i64)]] (fun (x1, (_, _, _), (x2, x3, x4, x5, x6, x7, x8, x9, x10, x11), (x12, x13, x14, x15, x16, x17, x18, x19, x20, x21), x22) => f_64c65k0 N x1 x2 x3 x4 x5 x6 x7 x8 x9 x10 x11 x12 x13 x14 x15 x16 x17 x18 x19 x20 x21 x22)
theorem s_64c65k0 (N : Nat) : SumOk Tryz.prog laidL 64 (S_64c65k0 N) := fn_x h0 (x_64c65k0 N) Tryz.func64 ((lookOk_cons (L_ok_64c65k0_0 N) lookOk_nil))
def f_14 (N : Nat) (x1 x2 x3 x4 x5 x6 x7 x8 x9 x10 x11 x12 x13 x14 x15 x16 : Int) (x17 : Bool) (x18 : ByteArray) (x19 : Int) (x20 : List (Int × Int × ByteArray)) (x21 : Int) : Option (TAs [.one (.d (.int .i64)), .one (.d (.err 129))]) :=
 ((f_44 N x1 x2 x3 x4 x5 x6 x7 x8 x9 x10).bind fun r22 => (bif (!(Option.isNone r22)) then (some (0, (some 1))) else ((f_49 N x11 x12 x13 x14 x15 x16 x17 x18 x19 x20).bind fun r23 => (bif (!(Option.isNone r23)) then (some (0, (some 1))) else ((f_64c65k0 N (IntKind.i64.wrap (x10 + 1)) x1 x2 x3 x4 x5 x6 x7 x8 x9 x10 x11 x12 x13 x14 x15 x16 x17 x18 x19 x20 x21).bind fun r24 => (bif (r24.1 == 0) then (some (0, (some 13))) else (some ((IntKind.i64.wrap (r24.1 - 1)), none))))))))
def S_14 (N : Nat) : Sum := fnSum 3 0 2 [zg4, zg3, .one (.d (.int .i64))] [.one (.d (.int .i64)), .one (.d (.err 129))] (fun ((x1, x2, x3, x4, x5, x6, x7, x8, x9, x10), (x11, x12, x13, x14, x15, x16, x17, x18, x19, x20), x21) => f_14 N x1 x2 x3 x4 x5 x6 x7 x8 x9 x10 x11 x12 x13 x14 x15 x16 x17 x18 x19 x20 x21)
theorem s_14 (N : Nat) : SumOk Tryz.prog laidL 14 (S_14 N) := fn_x h0 (fk (s_44 N) (fk (s_49 N) (fk (s_64c65k0 N) fz))) Tryz.func14 (lookOk_nil)
def X_15 (N : Nat) : List (Nat × Sum) := [(66, (S_66 N)), (53, (S_53 N)), (67, (S_67 N))]
theorem x_15 (N : Nat) : FnsOk Tryz.prog laidL (X_15 N) := fk (s_66 N) (fk (s_53 N) (fk (s_67 N) fz))
def sh_15_0 : List ShA := [.one (.d (.int .i64)), .one (.ptr 176 0), .one (.ptr 192 0), .one (.d (.int .i64)), .one (.d (.int .i64)), zg4, zg3]
abbrev T_15_0 := TAs [.one (.d (.int .i64))]
def o_15_0 : OutK 0 T_15_0 := (outOne 0 (.exit 0) [8] [] [.one (.d (.int .i64))])
def b_15_0 (N : Nat) (ih : TAs sh_15_0 → Option T_15_0) : TAs sh_15_0 → Option T_15_0 := fun (y25, _, _, y26, y27, (y28, y29, y30, y31, y32, y33, y34, y35, y36, y37), (y38, y39, y40, y41, y42, y43, y44, y45, y46, y47)) =>
 (bif (decide (y27 > 0)) then (bif (decide ((IntKind.i64.wrap (y26 + y27)) ≤ y37)) then ((f_67 N y28 y29 y30 y31 y32 y33 y34 y35 y36 y37 (IntKind.i64.wrap (y26 + y27)) y38 y39 y40 y41 y42 y43 y44 y45 y46 y47 y25).bind fun r48 => (bif r48 then (ih (y25, (), (), (IntKind.i64.wrap (y26 + y27)), (IntKind.i64.wrap (Int.tdiv y27 2)), (y28, y29, y30, y31, y32, y33, y34, y35, y36, y37), (y38, y39, y40, y41, y42, y43, y44, y45, y46, y47))) else (ih (y25, (), (), y26, (IntKind.i64.wrap (Int.tdiv y27 2)), (y28, y29, y30, y31, y32, y33, y34, y35, y36, y37), (y38, y39, y40, y41, y42, y43, y44, y45, y46, y47))))) else (ih (y25, (), (), y26, (IntKind.i64.wrap (Int.tdiv y27 2)), (y28, y29, y30, y31, y32, y33, y34, y35, y36, y37), (y38, y39, y40, y41, y42, y43, y44, y45, y46, y47)))) else (some (y26)))
def l_15_0 (N : Nat) : TAs sh_15_0 → Option T_15_0 := iter (b_15_0 N) N
def L_15_0 (N : Nat) : LSum := loopSum [2, 3, 4, 8, 9] [176, 192] sh_15_0 o_15_0 (l_15_0 N)
theorem L_ok_15_0 (N : Nat) : SegOk Tryz.prog laidL 0 Tryz.f15.ntmps (loopAt 0 0 (bodyOf Tryz.f15)) (L_15_0 N) :=
 lp_x h0 (x_15 N) (lookOk_nil)
def f_15 (N : Nat) (x1 x2 x3 x4 x5 x6 x7 x8 x9 x10 x11 x12 x13 x14 x15 x16 : Int) (x17 : Bool) (x18 : ByteArray) (x19 : Int) (x20 : List (Int × Int × ByteArray)) (x21 : Int) : Option (TAs [.one (.d (.int .i64)), .one (.d (.int .i64))]) :=
 ((f_66 N x1 x2 x3 x4 x5 x6 x7 x8 x9 x10).bind fun r22 => (bif (!r22) then (some (0, 1)) else ((f_53 N x11 x12 x13 x14 x15 x16 x17 x18 x19 x20).bind fun r23 => (bif (!r23) then (some (0, 1)) else ((f_67 N x1 x2 x3 x4 x5 x6 x7 x8 x9 x10 0 x11 x12 x13 x14 x15 x16 x17 x18 x19 x20 x21).bind fun r24 => (bif (!r24) then (some (0, 13)) else ((l_15_0 N (x21, (), (), 0, 1125899906842624, (x1, x2, x3, x4, x5, x6, x7, x8, x9, x10), (x11, x12, x13, x14, x15, x16, x17, x18, x19, x20))).bind fun q49 => (some (q49, 0)))))))))
def S_15 (N : Nat) : Sum := fnSum 3 0 2 [zg4, zg3, .one (.d (.int .i64))] [.one (.d (.int .i64)), .one (.d (.int .i64))] (fun ((x1, x2, x3, x4, x5, x6, x7, x8, x9, x10), (x11, x12, x13, x14, x15, x16, x17, x18, x19, x20), x21) => f_15 N x1 x2 x3 x4 x5 x6 x7 x8 x9 x10 x11 x12 x13 x14 x15 x16 x17 x18 x19 x20 x21)
theorem s_15 (N : Nat) : SumOk Tryz.prog laidL 15 (S_15 N) := fn_x h0 (x_15 N) Tryz.func15 ((lookOk_cons (L_ok_15_0 N) lookOk_nil))
def f_19 (N : Nat) (x1 x2 x3 x4 x5 x6 x7 x8 x9 x10 x11 x12 x13 x14 x15 x16 x17 : Int) (x18 : Bool) (x19 : ByteArray) (x20 : Int) (x21 : List (Int × Int × ByteArray)) (_x22 x23 x24 x25 : Int) : Option (TAs [.one (.d (.bool))]) :=
 ((f_12 N x1 x2 x3 x4 x5 x6 x7 x8 x9 x10 x11 x12 x13 x14 x15 x16 x17 x18 x19 x20 x21 x24).bind fun r26 => (bif (Option.isNone r26.2) then ((f_18 N r26.1.1 r26.1.2.1 r26.1.2.2.1 r26.1.2.2.2.1 r26.1.2.2.2.2.1 r26.1.2.2.2.2.2.1 r26.1.2.2.2.2.2.2).bind fun r27 => (bif (r27 == x23) then ((f_69 N ([r26.1.1, r26.1.2.1, r26.1.2.2.1] : List Int)).bind fun r28 => (some (r28 == x25))) else (some false))) else (some false)))
def S_19 (N : Nat) : Sum := fnSum 4 0 1 [zg4, .one (.d (.int .i64)), zg3, zg9] [.one (.d (.bool))] (fun ((x1, x2, x3, x4, x5, x6, x7, x8, x9, x10), x11, (x12, x13, x14, x15, x16, x17, x18, x19, x20, x21), (x22, x23, x24, x25)) => f_19 N x1 x2 x3 x4 x5 x6 x7 x8 x9 x10 x11 x12 x13 x14 x15 x16 x17 x18 x19 x20 x21 x22 x23 x24 x25)
theorem s_19 (N : Nat) : SumOk Tryz.prog laidL 19 (S_19 N) := fn_x h0 (fk (s_12 N) (fk (s_18 N) (fk (s_69 N) fz))) Tryz.func19 (lookOk_nil)
def f_9 (N : Nat) : Option (TAs [.one (.d (.bool))]) :=
 ((f_46 N).bind fun r1 => ((f_47 N).bind fun r2 => ((f_12 N r1.1 r1.2.1 r1.2.2.1 r1.2.2.2.1 r1.2.2.2.2.1 r1.2.2.2.2.2.1 r1.2.2.2.2.2.2.1 r1.2.2.2.2.2.2.2.1 r1.2.2.2.2.2.2.2.2.1 r1.2.2.2.2.2.2.2.2.2 0 r2.1 r2.2.1 r2.2.2.1 r2.2.2.2.1 r2.2.2.2.2.1 r2.2.2.2.2.2.1 r2.2.2.2.2.2.2.1 r2.2.2.2.2.2.2.2.1 r2.2.2.2.2.2.2.2.2.1 r2.2.2.2.2.2.2.2.2.2 0).bind fun r3 => ((f_46 N).bind fun r4 => ((f_47 N).bind fun r5 => ((f_14 N r4.1 r4.2.1 r4.2.2.1 r4.2.2.2.1 r4.2.2.2.2.1 r4.2.2.2.2.2.1 r4.2.2.2.2.2.2.1 r4.2.2.2.2.2.2.2.1 r4.2.2.2.2.2.2.2.2.1 r4.2.2.2.2.2.2.2.2.2 r5.1 r5.2.1 r5.2.2.1 r5.2.2.2.1 r5.2.2.2.2.1 r5.2.2.2.2.2.1 r5.2.2.2.2.2.2.1 r5.2.2.2.2.2.2.2.1 r5.2.2.2.2.2.2.2.2.1 r5.2.2.2.2.2.2.2.2.2 1000000020).bind fun r6 => ((f_46 N).bind fun r7 => ((f_47 N).bind fun r8 => ((f_14 N r7.1 r7.2.1 r7.2.2.1 r7.2.2.2.1 r7.2.2.2.2.1 r7.2.2.2.2.2.1 r7.2.2.2.2.2.2.1 r7.2.2.2.2.2.2.2.1 r7.2.2.2.2.2.2.2.2.1 r7.2.2.2.2.2.2.2.2.2 r8.1 r8.2.1 r8.2.2.1 r8.2.2.2.1 r8.2.2.2.2.1 r8.2.2.2.2.2.1 r8.2.2.2.2.2.2.1 r8.2.2.2.2.2.2.2.1 r8.2.2.2.2.2.2.2.2.1 r8.2.2.2.2.2.2.2.2.2 3).bind fun r9 => (bif (Option.isNone r3.2) then (bif (Option.isNone r6.2) then (bif ((r3.1.1 == 5) && ((r3.1.2.1 == 1) && ((r3.1.2.2.1 == 4) && ((r3.1.2.2.2.1 == 0) && ((r3.1.2.2.2.2.1 == 0) && ((r3.1.2.2.2.2.2.1 == 1000000000) && (r3.1.2.2.2.2.2.2 == 0))))))) then ((f_18 N r3.1.1 r3.1.2.1 r3.1.2.2.1 r3.1.2.2.2.1 r3.1.2.2.2.2.1 r3.1.2.2.2.2.2.1 r3.1.2.2.2.2.2.2).bind fun r10 => (bif (r10 == 1000000010) then (bif (decide (r6.1 > 1000)) then (bif (decide (r6.1 < 20000)) then ((f_17 N r9.2).bind fun r11 => (bif (r11 == 13) then ((f_46 N).bind fun r12 => ((f_47 N).bind fun r13 => ((f_19 N r12.1 r12.2.1 r12.2.2.1 r12.2.2.2.1 r12.2.2.2.2.1 r12.2.2.2.2.2.1 r12.2.2.2.2.2.2.1 r12.2.2.2.2.2.2.2.1 r12.2.2.2.2.2.2.2.2.1 r12.2.2.2.2.2.2.2.2.2 0 r13.1 r13.2.1 r13.2.2.1 r13.2.2.2.1 r13.2.2.2.2.1 r13.2.2.2.2.2.1 r13.2.2.2.2.2.2.1 r13.2.2.2.2.2.2.2.1 r13.2.2.2.2.2.2.2.2.1 r13.2.2.2.2.2.2.2.2.2 0 1000000010 0 10).bind fun r14 => (some r14)))) else (some false))) else (some false)) else (some false)) else (some false))) else (some false)) else (some false)) else (some false)))))))))))
def S_9 (N : Nat) : Sum := fnSum 0 0 1 [] [.one (.d (.bool))] (fun _ => f_9 N)
theorem s_9 (N : Nat) : SumOk Tryz.prog laidL 9 (S_9 N) := fn_x h0 (fk (s_46 N) (fk (s_47 N) (fk (s_12 N) (fk (s_14 N) (fk (s_18 N) (fk (s_17 N) (fk (s_19 N) fz))))))) Tryz.func9 (lookOk_nil)
def f_3 (N : Nat) (x1 x2 x3 x4 x5 x6 x7 x8 x9 x10 x11 x12 x13 x14 x15 x16 : Int) (x17 : Bool) (x18 : ByteArray) (x19 : Int) (x20 : List (Int × Int × ByteArray)) (x21 : List Int) : Option (TAs [.one (.d (.bool))]) :=
 ((f_8 N x18 x19 x20).bind fun r22 => (bif r22 then ((f_9 N).bind fun r23 => (some r23)) else ((f_10 N x1 x2 x3 x4 x5 x6 x7 x8 x9 x10).bind fun r24 => ((f_11 N x11 x12 x13 x14 x15 x16 x17 x18 x19 x20).bind fun r25 => ((f_12 N r24.1 r24.2.1 r24.2.2.1 r24.2.2.2.1 r24.2.2.2.2.1 r24.2.2.2.2.2.1 r24.2.2.2.2.2.2.1 r24.2.2.2.2.2.2.2.1 r24.2.2.2.2.2.2.2.2.1 r24.2.2.2.2.2.2.2.2.2 (List.getD x21 (Int.toNat 0) 0) r25.1 r25.2.1 r25.2.2.1 r25.2.2.2.1 r25.2.2.2.2.1 r25.2.2.2.2.2.1 r25.2.2.2.2.2.2.1 r25.2.2.2.2.2.2.2.1 r25.2.2.2.2.2.2.2.2.1 r25.2.2.2.2.2.2.2.2.2 (List.getD x21 (Int.toNat 1) 0)).bind fun r26 => ((f_13 N x1 x2 x3 x4 x5 x6 x7 x8 x9 x10 (List.getD x21 (Int.toNat 0) 0) x11 x12 x13 x14 x15 x16 x17 x18 x19 x20 (List.getD x21 (Int.toNat 1) 0)).bind fun r27 => ((f_14 N r24.1 r24.2.1 r24.2.2.1 r24.2.2.2.1 r24.2.2.2.2.1 r24.2.2.2.2.2.1 r24.2.2.2.2.2.2.1 r24.2.2.2.2.2.2.2.1 r24.2.2.2.2.2.2.2.2.1 r24.2.2.2.2.2.2.2.2.2 r25.1 r25.2.1 r25.2.2.1 r25.2.2.2.1 r25.2.2.2.2.1 r25.2.2.2.2.2.1 r25.2.2.2.2.2.2.1 r25.2.2.2.2.2.2.2.1 r25.2.2.2.2.2.2.2.2.1 r25.2.2.2.2.2.2.2.2.2 (List.getD x21 (Int.toNat 2) 0)).bind fun r28 => ((f_15 N x1 x2 x3 x4 x5 x6 x7 x8 x9 x10 x11 x12 x13 x14 x15 x16 x17 x18 x19 x20 (List.getD x21 (Int.toNat 2) 0)).bind fun r29 => (bif (r27.2 == 0) then ((f_16 N r27.1.1 r27.1.2.1 r27.1.2.2.1 r27.1.2.2.2.1 r27.1.2.2.2.2.1 r27.1.2.2.2.2.2.1 r27.1.2.2.2.2.2.2).bind fun r30 => (bif (r30 == (List.getD x21 (Int.toNat 2) 0)) then ((f_16 N r27.1.1 r27.1.2.1 r27.1.2.2.1 0 0 0 0).bind fun r31 => (bif ((r26.1.1 == r27.1.1) && ((r26.1.2.1 == r27.1.2.1) && ((r26.1.2.2.1 == r27.1.2.2.1) && ((r26.1.2.2.2.1 == r27.1.2.2.2.1) && ((r26.1.2.2.2.2.1 == r27.1.2.2.2.2.1) && ((r26.1.2.2.2.2.2.1 == r27.1.2.2.2.2.2.1) && (r26.1.2.2.2.2.2.2 == r27.1.2.2.2.2.2.2))))))) then ((f_17 N r26.2).bind fun r32 => (bif (r32 == r27.2) then ((f_18 N r27.1.1 r27.1.2.1 r27.1.2.2.1 r27.1.2.2.2.1 r27.1.2.2.2.2.1 r27.1.2.2.2.2.2.1 r27.1.2.2.2.2.2.2).bind fun r33 => ((f_16 N r27.1.1 r27.1.2.1 r27.1.2.2.1 r27.1.2.2.2.1 r27.1.2.2.2.2.1 r27.1.2.2.2.2.2.1 r27.1.2.2.2.2.2.2).bind fun r34 => (bif (r33 == r34) then (bif (r28.1 == r29.1) then ((f_17 N r28.2).bind fun r35 => (bif (r35 == r29.2) then ((f_19 N r24.1 r24.2.1 r24.2.2.1 r24.2.2.2.1 r24.2.2.2.2.1 r24.2.2.2.2.2.1 r24.2.2.2.2.2.2.1 r24.2.2.2.2.2.2.2.1 r24.2.2.2.2.2.2.2.2.1 r24.2.2.2.2.2.2.2.2.2 (List.getD x21 (Int.toNat 0) 0) r25.1 r25.2.1 r25.2.2.1 r25.2.2.2.1 r25.2.2.2.2.1 r25.2.2.2.2.2.1 r25.2.2.2.2.2.2.1 r25.2.2.2.2.2.2.2.1 r25.2.2.2.2.2.2.2.2.1 r25.2.2.2.2.2.2.2.2.2 0 (List.getD x21 (Int.toNat 2) 0) (List.getD x21 (Int.toNat 1) 0) (List.getD x21 (Int.toNat 1) 0)).bind fun r36 => (bif (r36 == (r31 == (List.getD x21 (Int.toNat 1) 0))) then ((f_9 N).bind fun r37 => (some r37)) else (some false))) else (some false))) else (some false)) else (some false)))) else (some false))) else (some false))) else (bif ((r26.1.1 == r27.1.1) && ((r26.1.2.1 == r27.1.2.1) && ((r26.1.2.2.1 == r27.1.2.2.1) && ((r26.1.2.2.2.1 == r27.1.2.2.2.1) && ((r26.1.2.2.2.2.1 == r27.1.2.2.2.2.1) && ((r26.1.2.2.2.2.2.1 == r27.1.2.2.2.2.2.1) && (r26.1.2.2.2.2.2.2 == r27.1.2.2.2.2.2.2))))))) then ((f_17 N r26.2).bind fun r38 => (bif (r38 == r27.2) then ((f_18 N r27.1.1 r27.1.2.1 r27.1.2.2.1 r27.1.2.2.2.1 r27.1.2.2.2.2.1 r27.1.2.2.2.2.2.1 r27.1.2.2.2.2.2.2).bind fun r39 => ((f_16 N r27.1.1 r27.1.2.1 r27.1.2.2.1 r27.1.2.2.2.1 r27.1.2.2.2.2.1 r27.1.2.2.2.2.2.1 r27.1.2.2.2.2.2.2).bind fun r40 => (bif (r39 == r40) then (bif (r28.1 == r29.1) then ((f_17 N r28.2).bind fun r41 => (bif (r41 == r29.2) then ((f_19 N r24.1 r24.2.1 r24.2.2.1 r24.2.2.2.1 r24.2.2.2.2.1 r24.2.2.2.2.2.1 r24.2.2.2.2.2.2.1 r24.2.2.2.2.2.2.2.1 r24.2.2.2.2.2.2.2.2.1 r24.2.2.2.2.2.2.2.2.2 (List.getD x21 (Int.toNat 0) 0) r25.1 r25.2.1 r25.2.2.1 r25.2.2.2.1 r25.2.2.2.2.1 r25.2.2.2.2.2.1 r25.2.2.2.2.2.2.1 r25.2.2.2.2.2.2.2.1 r25.2.2.2.2.2.2.2.2.1 r25.2.2.2.2.2.2.2.2.2 0 (List.getD x21 (Int.toNat 2) 0) (List.getD x21 (Int.toNat 1) 0) (List.getD x21 (Int.toNat 1) 0)).bind fun r42 => (bif (r42 == false) then ((f_9 N).bind fun r43 => (some r43)) else (some false))) else (some false))) else (some false)) else (some false)))) else (some false))) else (some false)))) else (bif ((r26.1.1 == r27.1.1) && ((r26.1.2.1 == r27.1.2.1) && ((r26.1.2.2.1 == r27.1.2.2.1) && ((r26.1.2.2.2.1 == r27.1.2.2.2.1) && ((r26.1.2.2.2.2.1 == r27.1.2.2.2.2.1) && ((r26.1.2.2.2.2.2.1 == r27.1.2.2.2.2.2.1) && (r26.1.2.2.2.2.2.2 == r27.1.2.2.2.2.2.2))))))) then ((f_17 N r26.2).bind fun r44 => (bif (r44 == r27.2) then ((f_18 N r27.1.1 r27.1.2.1 r27.1.2.2.1 r27.1.2.2.2.1 r27.1.2.2.2.2.1 r27.1.2.2.2.2.2.1 r27.1.2.2.2.2.2.2).bind fun r45 => ((f_16 N r27.1.1 r27.1.2.1 r27.1.2.2.1 r27.1.2.2.2.1 r27.1.2.2.2.2.1 r27.1.2.2.2.2.2.1 r27.1.2.2.2.2.2.2).bind fun r46 => (bif (r45 == r46) then (bif (r28.1 == r29.1) then ((f_17 N r28.2).bind fun r47 => (bif (r47 == r29.2) then ((f_19 N r24.1 r24.2.1 r24.2.2.1 r24.2.2.2.1 r24.2.2.2.2.1 r24.2.2.2.2.2.1 r24.2.2.2.2.2.2.1 r24.2.2.2.2.2.2.2.1 r24.2.2.2.2.2.2.2.2.1 r24.2.2.2.2.2.2.2.2.2 (List.getD x21 (Int.toNat 0) 0) r25.1 r25.2.1 r25.2.2.1 r25.2.2.2.1 r25.2.2.2.2.1 r25.2.2.2.2.2.1 r25.2.2.2.2.2.2.1 r25.2.2.2.2.2.2.2.1 r25.2.2.2.2.2.2.2.2.1 r25.2.2.2.2.2.2.2.2.2 0 (List.getD x21 (Int.toNat 2) 0) (List.getD x21 (Int.toNat 1) 0) (List.getD x21 (Int.toNat 1) 0)).bind fun r48 => (bif (r48 == false) then ((f_9 N).bind fun r49 => (some r49)) else (some false))) else (some false))) else (some false)) else (some false)))) else (some false))) else (some false)))))))))))
def S_3 (N : Nat) : Sum := fnSum 3 0 1 [zg4, zg3, .agg [.d (.arr .i64 3)]] [.one (.d (.bool))] (fun ((x1, x2, x3, x4, x5, x6, x7, x8, x9, x10), (x11, x12, x13, x14, x15, x16, x17, x18, x19, x20), x21) => f_3 N x1 x2 x3 x4 x5 x6 x7 x8 x9 x10 x11 x12 x13 x14 x15 x16 x17 x18 x19 x20 x21)
theorem s_3 (N : Nat) : SumOk Tryz.prog laidL 3 (S_3 N) := fn_x h0 (fk (s_8 N) (fk (s_9 N) (fk (s_10 N) (fk (s_11 N) (fk (s_12 N) (fk (s_13 N) (fk (s_14 N) (fk (s_15 N) (fk (s_16 N) (fk (s_17 N) (fk (s_18 N) (fk (s_19 N) fz)))))))))))) Tryz.func3 (lookOk_nil)
end
end Go.Proofs.YthpljlpokmoeeaaGreatDoor.Mir
namespace Go.Proofs.YthpljlpokmoeeaaGreatDoor.Mir
open Go Go.RowKit
set_option maxRecDepth 100000
def fineI (c : Int) : Bool := (decide (c ≥ 97) && decide (c ≤ 122)) || ((decide (c ≥ 65) && decide (c ≤ 90)) || ((decide (c ≥ 48) && decide (c ≤ 57)) || ((c == 47) || ((c == 95) || ((c == 43) || (c == 45))))))
def fineL : List UInt8 := [65, 66, 67, 68, 69, 70, 71, 72, 73, 74, 75, 76, 77, 78, 79, 80, 81, 82, 83, 84, 85, 86, 87, 88, 89, 90, 97, 98, 99, 100, 101, 102, 103, 104, 105, 106, 107, 108, 109, 110, 111, 112, 113, 114, 115, 116, 117, 118, 119, 120, 121, 122, 48, 49, 50, 51, 52, 53, 54, 55, 56, 57, 47, 95, 43, 45]
theorem fine_nat : ∀ n : Fin 256, fineL.contains (UInt8.ofNat n.val) = fineI (n.val : Int) := by decide +kernel
theorem fine_byte (b : UInt8) : fineL.contains b = fineI (b.toNat : Int) := by
 have := fine_nat ⟨b.toNat, b.toNat_lt⟩
 simpa using this
def allFine (l : List UInt8) : Bool := l.all fun b => fineI (b.toNat : Int)
def nameB (s : ByteArray) : Bool := decide (1 ≤ s.size) && (decide (s.size ≤ 12) && allFine s.data.toList)
theorem size_list (s : ByteArray) : s.size = s.data.toList.length := by rw [Array.length_toList]; rfl
theorem beq_nil (l : List UInt8) : (l == []) = l.isEmpty := by cases l <;> rfl
theorem drop_all : ∀ l : List UInt8, ((l.dropWhile (fineL.contains ·)) == []) = allFine l
 | [] => rfl
 | b :: l => by
  have h := drop_all l
  simp only [List.dropWhile, allFine, List.all_cons] at h ⊢
  rw [fine_byte b]
  cases fineI (b.toNat : Int) with
  | true => simpa using h
  | false => simp
theorem named_at (N : Nat) (s : ByteArray) : f_167 N s = some (nameB s) := by
 have ht : trimF s (⟨#[65, 66, 67, 68, 69, 70, 71, 72, 73, 74, 75, 76, 77, 78, 79, 80, 81, 82, 83, 84, 85, 86, 87, 88, 89, 90, 97, 98, 99, 100, 101, 102, 103, 104, 105, 106, 107, 108, 109, 110, 111, 112, 113, 114, 115, 116, 117, 118, 119, 120, 121, 122, 48, 49, 50, 51, 52, 53, 54, 55, 56, 57, 47, 95, 43, 45]⟩) = some ⟨(Lib.trimLeftS s.data.toList fineL).toArray⟩ := rfl
 unfold f_167 nameB
 rw [ht]
 simp only [Lib.toList_data, Option.bind_some]
 show (bif !(s.data.toList == []) then (bif decide ((s.size : Int) ≤ 12) then some ((Lib.trimLeftS s.data.toList fineL) == []) else some false) else some false) = _
 rw [show (Lib.trimLeftS s.data.toList fineL == []) = allFine s.data.toList from drop_all _, beq_nil, size_list]
 generalize s.data.toList = l
 cases l with
 | nil => rfl
 | cons b l =>
  by_cases h : (b :: l).length ≤ 12
  ·rw [decide_eq_true (show (((b :: l).length : Nat) : Int) ≤ 12 by omega), decide_eq_true h, decide_eq_true (show 1 ≤ (b :: l).length by simp)]; rfl
  ·rw [decide_eq_false (show ¬ (((b :: l).length : Nat) : Int) ≤ 12 by omega), decide_eq_false h, decide_eq_true (show 1 ≤ (b :: l).length by simp)]; rfl
theorem rname_step (N : Nat) (ih : _ → _) (s : ByteArray) (i : Int) (h0 : 0 ≤ i) (h1 : i < (s.size : Int)) : b_173_0 N ih (s, i) = bif fineI (byteAt s i.toNat) then ih (s, IntKind.i64.wrap (i + 1)) else some (.inl false) := by
 unfold b_173_0 fineI
 simp only
 rw [decide_eq_true h1, decide_eq_true (show 0 ≤ i ∧ i < (s.size : Int) from ⟨h0, h1⟩)]
 simp only [cond_true]
 generalize ih (s, IntKind.i64.wrap (i + 1)) = T
 generalize byteAt s i.toNat = c
 generalize decide (c ≥ 97) = t1
 generalize decide (c ≤ 122) = t2
 generalize decide (c ≥ 65) = t3
 generalize decide (c ≤ 90) = t4
 generalize decide (c ≥ 48) = t5
 generalize decide (c ≤ 57) = t6
 generalize (c == 47) = t7
 generalize (c == 95) = t8
 generalize (c == 43) = t9
 generalize (c == 45) = t10
 cases t1 <;> cases t2 <;> cases t3 <;> cases t4 <;> cases t5 <;> cases t6 <;> cases t7 <;> cases t8 <;> cases t9 <;> cases t10 <;> rfl
theorem rname_loop (N : Nat) {s : ByteArray} (hs : s.size ≤ 1000000) : ∀ (k M i : Nat), i + k = s.size → k < M → iter (b_173_0 N) M (s, (i : Int)) = bif allFine (s.data.toList.drop i) then some (.inr s) else some (.inl false) := by
 have hl := size_list s
 intro k
 induction k with
 | zero =>
  intro M i hi hM
  obtain ⟨M, rfl⟩ : ∃ m, M = m + 1 := ⟨M - 1, by omega⟩
  rw [List.drop_eq_nil_of_le (by omega)]
  show b_173_0 N (iter (b_173_0 N) M) (s, (i : Int)) = _
  unfold b_173_0
  simp only
  rw [decide_eq_false (show ¬ (i : Int) < (s.size : Int) by omega)]; rfl
 | succ k ih =>
  intro M i hi hM
  obtain ⟨M, rfl⟩ : ∃ m, M = m + 1 := ⟨M - 1, by omega⟩
  have hi' : i < s.data.toList.length := by omega
  show b_173_0 N (iter (b_173_0 N) M) (s, (i : Int)) = _
  rw [rname_step N _ s _ (by omega) (by omega), wi64 (by omega) (by omega), show (i : Int) + 1 = ((i + 1 : Nat) : Int) by omega, ih M (i + 1) (by omega) (by omega), List.drop_eq_getElem_cons hi']
  have eb : byteAt s (Int.toNat (i : Int)) = ((s.data.toList[i]).toNat : Int) := by
   unfold byteAt
   rw [Int.toNat_natCast, List.getD_eq_getElem?_getD, List.getElem?_eq_getElem hi']; rfl
  rw [eb]
  show _ = bif (fineI ((s.data.toList[i]).toNat : Int) && allFine (s.data.toList.drop (i + 1))) then _ else _
  cases fineI ((s.data.toList[i]).toNat : Int) <;> rfl
theorem rname_at {N : Nat} {s : ByteArray} (hs : s.size ≤ 1000000) (hN : s.size < N) : f_173 N s = some (nameB s) := by
 have h := rname_loop N hs s.size N 0 (by omega) hN
 have h' : l_173_0 N (s, 0) = bif allFine s.data.toList then some (.inr s) else some (.inl false) := h
 unfold f_173 nameB
 rw [h']
 cases allFine s.data.toList with
 | false =>
  show some false = _
  simp
 | true =>
  show (bif decide ((s.size : Int) ≥ 1) then some (decide ((s.size : Int) ≤ 12)) else some false) = _
  by_cases h1 : 1 ≤ s.size
  ·rw [decide_eq_true (show (s.size : Int) ≥ 1 by omega), decide_eq_true h1]
   by_cases h2 : s.size ≤ 12
   ·rw [decide_eq_true (show (s.size : Int) ≤ 12 by omega), decide_eq_true h2]; rfl
   ·rw [decide_eq_false (show ¬ (s.size : Int) ≤ 12 by omega), decide_eq_false h2]; rfl
  ·rw [decide_eq_false (show ¬ (s.size : Int) ≥ 1 by omega), decide_eq_false h1]; rfl
def offB (n : Int) : Bool := decide (-86399 ≤ n) && decide (n ≤ 86399)
theorem added_at (N : Nat) (n : Int) : f_168 N n = some (offB n) := by
 unfold f_168 offB
 show (bif decide (-86399 ≤ n) then _ else _) = _
 cases decide (-86399 ≤ n) <;> rfl
theorem off_at (N : Nat) (n : Int) : f_174 N n = some (offB n) := by
 unfold f_174 offB
 have e1 : decide (n > -86400) = decide (-86399 ≤ n) := decide_eq_decide.2 (by omega)
 have e2 : decide (n < 86400) = decide (n ≤ 86399) := decide_eq_decide.2 (by omega)
 rw [e1, e2]
 cases decide (-86399 ≤ n) <;> rfl
abbrev Rul := Int × Int × ByteArray
def gR (L : List Rul) (i : Nat) : Rul := L.getD i (0, 0, ByteArray.empty)
def okAt (L : List Rul) (i : Nat) : Bool := nameB (gR L i).2.2 && (offB (gR L i).2.1 && (!decide ((gR L i).1 < -1099511627776) && (!decide ((gR L i).1 > 1099511627776) && !(decide ((i : Int) > 0) && decide ((gR L (i - 1)).1 ≥ (gR L i).1)))))
def allFrom (L : List Rul) : Nat → Nat → Bool
 | _, 0 => true
 | i, k + 1 => okAt L i && allFrom L (i + 1) k
def mayZ (n : ByteArray) (f : Int) (L : List Rul) : Bool := nameB n && (offB f && (decide ((L.length : Int) ≤ 32) && allFrom L 0 L.length))
theorem check_loop (N : Nat) {n : ByteArray} {f : Int} {L : List Rul} (hL : L.length ≤ 1000000) : ∀ (k M i : Nat), i + k = L.length → k < M → iter (b_109_0 N) M ((), L, (L.length : Int), (i : Int), (n, f, L)) = bif allFrom L i k then some (.inr ()) else some (.inl (some 1)) := by
 intro k
 induction k with
 | zero =>
  intro M i hi hM
  obtain ⟨M, rfl⟩ : ∃ m, M = m + 1 := ⟨M - 1, by omega⟩
  show b_109_0 N (iter (b_109_0 N) M) _ = _
  unfold b_109_0
  simp only
  rw [decide_eq_false (show ¬ (i : Int) < (L.length : Int) by omega)]; rfl
 | succ k ih =>
  intro M i hi hM
  obtain ⟨M, rfl⟩ : ∃ m, M = m + 1 := ⟨M - 1, by omega⟩
  have ih' := ih M (i + 1) (by omega) (by omega)
  show b_109_0 N (iter (b_109_0 N) M) _ = _
  generalize iter (b_109_0 N) M = I at ih' ⊢
  unfold b_109_0
  simp only
  rw [decide_eq_true (show (i : Int) < (L.length : Int) by omega), decide_eq_true (show 0 ≤ (i : Int) ∧ (i : Int) < (L.length : Int) by omega), named_at, added_at, wi64 (n := (i : Int) + 1) (by omega) (by omega), show (i : Int) + 1 = ((i + 1 : Nat) : Int) by omega, ih']
  simp only [cond_true, Option.bind_some, Int.toNat_natCast]
  show _ = bif (okAt L i && allFrom L (i + 1) k) then _ else _
  unfold okAt
  show (bif !nameB (gR L i).2.2 then _ else (bif !offB (gR L i).2.1 then _ else (bif decide ((gR L i).1 < -1099511627776) then _ else (bif decide ((gR L i).1 > 1099511627776) then _ else _)))) = _
  generalize nameB (gR L i).2.2 = t1
  generalize offB (gR L i).2.1 = t2
  generalize decide ((gR L i).1 < -1099511627776) = t3
  generalize decide ((gR L i).1 > 1099511627776) = t4
  by_cases h0 : (i : Int) > 0
  ·rw [decide_eq_true h0, wi64 (n := (i : Int) - 1) (by omega) (by omega), decide_eq_true (show 0 ≤ (i : Int) - 1 ∧ (i : Int) - 1 < (L.length : Int) by omega), show ((i : Int) - 1).toNat = i - 1 by omega]
   show (bif !t1 then _ else (bif !t2 then _ else (bif t3 then _ else (bif t4 then _ else (bif decide ((gR L (i - 1)).1 ≥ (gR L i).1) then _ else _))))) = _
   generalize decide ((gR L (i - 1)).1 ≥ (gR L i).1) = t5
   cases t1 <;> cases t2 <;> cases t3 <;> cases t4 <;> cases t5 <;> rfl
  ·rw [decide_eq_false h0]
   cases t1 <;> cases t2 <;> cases t3 <;> cases t4 <;> rfl
theorem check_at {N : Nat} {n : ByteArray} {f : Int} {L : List Rul} (hL : L.length ≤ 1000000) (hN : L.length < N) : f_109 N n f L = some (bif mayZ n f L then none else some 1) := by
 have h := check_loop N (n := n) (f := f) hL L.length N 0 (by omega) hN
 have h' : l_109_0 N ((), L, (L.length : Int), 0, (n, f, L)) = bif allFrom L 0 L.length then some (.inr ()) else some (.inl (some 1)) := h
 unfold f_109 mayZ
 rw [named_at, added_at, h', show decide ((L.length : Int) > 32) = !decide ((L.length : Int) ≤ 32) by
  by_cases h : (L.length : Int) ≤ 32
  ·rw [decide_eq_true h, decide_eq_false (by omega)]; rfl
  ·rw [decide_eq_false h, decide_eq_true (by omega)]; rfl]
 cases nameB n <;> cases offB f <;> cases decide ((L.length : Int) ≤ 32) <;> cases allFrom L 0 L.length <;> rfl
theorem may_loop (N : Nat) {n : ByteArray} {f : Int} {L : List Rul} (hL : L.length ≤ 1000000) (hn : ∀ i, i < L.length → (gR L i).2.2.size ≤ 1000000 ∧ (gR L i).2.2.size < N) : ∀ (k M i : Nat), i + k = L.length → k < M → iter (b_119_0 N) M ((), (i : Int), (n, f, L)) = bif allFrom L i k then some (.inr ((), (n, f, L))) else some (.inl false) := by
 intro k
 induction k with
 | zero =>
  intro M i hi hM
  obtain ⟨M, rfl⟩ : ∃ m, M = m + 1 := ⟨M - 1, by omega⟩
  show b_119_0 N (iter (b_119_0 N) M) _ = _
  unfold b_119_0
  simp only
  rw [decide_eq_false (show ¬ (i : Int) < (L.length : Int) by omega)]; rfl
 | succ k ih =>
  intro M i hi hM
  obtain ⟨M, rfl⟩ : ∃ m, M = m + 1 := ⟨M - 1, by omega⟩
  have ih' := ih M (i + 1) (by omega) (by omega)
  have hs := hn i (by omega)
  show b_119_0 N (iter (b_119_0 N) M) _ = _
  generalize iter (b_119_0 N) M = I at ih' ⊢
  unfold b_119_0
  simp only
  rw [decide_eq_true (show (i : Int) < (L.length : Int) by omega), decide_eq_true (show 0 ≤ (i : Int) ∧ (i : Int) < (L.length : Int) by omega), wi64 (n := (i : Int) + 1) (by omega) (by omega), show (i : Int) + 1 = ((i + 1 : Nat) : Int) by omega, ih']
  simp only [cond_true, Int.toNat_natCast]
  show Option.bind (f_173 N (gR L i).2.2) _ = _
  rw [rname_at hs.1 hs.2]
  simp only [Option.bind_some]
  rw [off_at]
  simp only [Option.bind_some]
  show _ = bif (okAt L i && allFrom L (i + 1) k) then _ else _
  unfold okAt
  show (bif !nameB (gR L i).2.2 then _ else (bif !offB (gR L i).2.1 then _ else (bif decide ((gR L i).1 < -1099511627776) then _ else (bif decide ((gR L i).1 > 1099511627776) then _ else _)))) = _
  generalize nameB (gR L i).2.2 = t1
  generalize offB (gR L i).2.1 = t2
  generalize decide ((gR L i).1 < -1099511627776) = t3
  generalize decide ((gR L i).1 > 1099511627776) = t4
  by_cases h0 : (i : Int) > 0
  ·rw [decide_eq_true h0, wi64 (n := (i : Int) - 1) (by omega) (by omega), decide_eq_true (show 0 ≤ (i : Int) - 1 ∧ (i : Int) - 1 < (L.length : Int) by omega), show ((i : Int) - 1).toNat = i - 1 by omega]
   show (bif !t1 then _ else (bif !t2 then _ else (bif t3 then _ else (bif t4 then _ else (bif decide ((gR L i).1 ≤ (gR L (i - 1)).1) then _ else _))))) = _
   rw [show decide ((gR L (i - 1)).1 ≥ (gR L i).1) = decide ((gR L i).1 ≤ (gR L (i - 1)).1) from rfl]
   generalize decide ((gR L i).1 ≤ (gR L (i - 1)).1) = t5
   cases t1 <;> cases t2 <;> cases t3 <;> cases t4 <;> cases t5 <;> rfl
  ·rw [decide_eq_false h0]
   cases t1 <;> cases t2 <;> cases t3 <;> cases t4 <;> rfl
theorem may_at {N : Nat} {n : ByteArray} {f : Int} {L : List Rul} (hL : L.length ≤ 1000000) (hN : L.length < N) (h0 : n.size ≤ 1000000 ∧ n.size < N) (hn : ∀ i, i < L.length → (gR L i).2.2.size ≤ 1000000 ∧ (gR L i).2.2.size < N) : f_119 N n f L = some (mayZ n f L) := by
 have h := may_loop N (n := n) (f := f) hL hn L.length N 0 (by omega) hN
 have h' : l_119_0 N ((), 0, (n, f, L)) = bif allFrom L 0 L.length then some (.inr ((), (n, f, L))) else some (.inl false) := h
 unfold f_119 mayZ
 rw [h']
 cases allFrom L 0 L.length with
 | false =>
  show some false = _
  simp
 | true =>
  show Option.bind (f_173 N n) (fun r => bif r then Option.bind (f_174 N f) (fun r => bif r then some (decide ((L.length : Int) ≤ 32)) else some false) else some false) = _
  rw [rname_at h0.1 h0.2, off_at]
  cases nameB n <;> cases offB f <;> cases decide ((L.length : Int) ≤ 32) <;> rfl
end Go.Proofs.YthpljlpokmoeeaaGreatDoor.Mir
namespace Go.Proofs.YthpljlpokmoeeaaGreatDoor.Mir
open Go Go.RowKit
set_option maxRecDepth 100000
def tk (n : Nat) (s : List Int × Bool) : Int × (List Int × Bool) := if s.2 = true ∨ s.1.length < n then (0, ([], true)) else (ofLe (s.1.take n), (s.1.drop n, false))
end Go.Proofs.YthpljlpokmoeeaaGreatDoor.Mir
namespace Go.Proofs.YthpljlpokmoeeaaGreatDoor.Mir
open Go Go.RowKit
set_option maxRecDepth 100000
def c1 (v : Nat) : Nat := if v % 2 = 1 then (v / 2) ^^^ 3988292384 else v / 2
end Go.Proofs.YthpljlpokmoeeaaGreatDoor.Mir
namespace Go.Proofs.YthpljlpokmoeeaaGreatDoor.Mir
open Go Go.RowKit
set_option maxRecDepth 100000
def errN : Option Int → Int
 | none => 0
 | some e => e
end Go.Proofs.YthpljlpokmoeeaaGreatDoor.Mir
namespace Go.Proofs.YthpljlpokmoeeaaGreatDoor.Mir
open Go Go.RowKit
set_option maxRecDepth 100000
end Go.Proofs.YthpljlpokmoeeaaGreatDoor.Mir
namespace Go.Proofs.YthpljlpokmoeeaaGreatDoor.Mir
open Go Go.RowKit
set_option maxRecDepth 100000
end Go.Proofs.YthpljlpokmoeeaaGreatDoor.Mir
namespace Go.Proofs.YthpljlpokmoeeaaGreatDoor.Mir
open Go Go.RowKit
set_option maxRecDepth 100000
end Go.Proofs.YthpljlpokmoeeaaGreatDoor.Mir
namespace Go.Proofs.YthpljlpokmoeeaaGreatDoor.Mir
open Go Go.RowKit
set_option maxRecDepth 100000
end Go.Proofs.YthpljlpokmoeeaaGreatDoor.Mir
namespace Go.Proofs.YthpljlpokmoeeaaGreatDoor.Mir
open Go Go.RowKit
set_option maxRecDepth 100000
def smayB (k b a : Int) : Bool := bif decide (b < 0) then false else (bif decide (b > 43200) then false else (bif decide (a < 0) then false else (bif decide (a > 43200) then false else (bif k == 0 then (IntKind.i64.wrap (b + a)) == 0 else (bif k == 1 then decide ((IntKind.i64.wrap (b + a)) > 0) else (bif k == 2 then decide ((IntKind.i64.wrap (b + a)) ≥ 3600) else false))))))
theorem schk_at (N : Nat) (k b a : Int) : f_106 N k b a = some (bif smayB k b a then none else some 1) := by
 unfold f_106 smayB
 generalize decide (b < 0) = d1
 generalize decide (b > 43200) = d2
 generalize decide (a < 0) = d3
 generalize decide (a > 43200) = d4
 generalize (k == 0) = d5
 generalize (k == 1) = d6
 generalize (k == 2) = d7
 generalize (IntKind.i64.wrap (b + a) == 0) = d8
 generalize decide (IntKind.i64.wrap (b + a) > 0) = d9
 generalize decide (IntKind.i64.wrap (b + a) ≥ 3600) = d0
 cases d1 <;> cases d2 <;> cases d3 <;> cases d4 <;> cases d5 <;> cases d6 <;> cases d7 <;> cases d8 <;> cases d9 <;> cases d0 <;> rfl
theorem smay_at (N : Nat) (k b a : Int) : f_116 N k b a = some (smayB k b a) := by
 unfold f_116 smayB
 rw [show decide (IntKind.i64.wrap (b + a) ≥ 1) = decide (IntKind.i64.wrap (b + a) > 0) from decide_eq_decide.2 (by omega)]
 by_cases h0 : k = 0
 ·subst h0
  rw [show ((0 : Int) == 0) = true from rfl, show ((0 : Int) == 1) = false from rfl, show ((0 : Int) == 2) = false from rfl]
  generalize decide (b < 0) = d1
  generalize decide (b > 43200) = d2
  generalize decide (a < 0) = d3
  generalize decide (a > 43200) = d4
  generalize (IntKind.i64.wrap (b + a) == 0) = d8
  cases d1 <;> cases d2 <;> cases d3 <;> cases d4 <;> cases d8 <;> rfl
 ·rw [show (k == 0) = false by simpa using h0]
  by_cases h1 : k = 1
  ·subst h1
   rw [show ((1 : Int) == 1) = true from rfl, show ((1 : Int) == 2) = false from rfl]
   generalize decide (b < 0) = d1
   generalize decide (b > 43200) = d2
   generalize decide (a < 0) = d3
   generalize decide (a > 43200) = d4
   generalize decide (IntKind.i64.wrap (b + a) > 0) = d9
   cases d1 <;> cases d2 <;> cases d3 <;> cases d4 <;> cases d9 <;> rfl
  ·rw [show (k == 1) = false by simpa using h1]
   generalize decide (b < 0) = d1
   generalize decide (b > 43200) = d2
   generalize decide (a < 0) = d3
   generalize decide (a > 43200) = d4
   generalize (k == 2) = d7
   generalize decide (IntKind.i64.wrap (b + a) ≥ 3600) = d0
   cases d1 <;> cases d2 <;> cases d3 <;> cases d4 <;> cases d7 <;> cases d0 <;> rfl
def qmayB (q : Int) : Bool := !decide (q < 1) && !decide (q > 68719476736)
theorem qchk_at (N : Nat) (q : Int) : f_107 N q = some (bif qmayB q then none else some 1) := by
 unfold f_107 qmayB
 cases decide (q < 1) <;> cases decide (q > 68719476736) <;> rfl
theorem qmay_at (N : Nat) (q : Int) : f_117 N q = some (qmayB q) := by
 unfold f_117 qmayB
 rw [show decide (q ≥ 1) = !decide (q < 1) by rw [← decide_not]; exact decide_eq_decide.2 (by omega), show decide (q ≤ 68719476736) = !decide (q > 68719476736) by rw [← decide_not]; exact decide_eq_decide.2 (by omega)]
 cases decide (q < 1) <;> cases decide (q > 68719476736) <;> rfl
def umayB (w c : Int) : Bool := !decide (w < 0) && (!decide (w > 1099511627776) && (!decide (c < 1) && !decide (c > 1125899906842624)))
theorem uchk_at (N : Nat) (w c : Int) : f_108 N w c = some (bif umayB w c then none else some 1) := by
 unfold f_108 umayB
 cases decide (w < 0) <;> cases decide (w > 1099511627776) <;> cases decide (c < 1) <;> cases decide (c > 1125899906842624) <;> rfl
theorem umay_at (N : Nat) (w c : Int) : f_118 N w c = some (umayB w c) := by
 unfold f_118 umayB
 rw [show decide (w ≥ 0) = !decide (w < 0) by rw [← decide_not]; exact decide_eq_decide.2 (by omega), show decide (w ≤ 1099511627776) = !decide (w > 1099511627776) by rw [← decide_not]; exact decide_eq_decide.2 (by omega), show decide (c ≥ 1) = !decide (c < 1) by rw [← decide_not]; exact decide_eq_decide.2 (by omega), show decide (c ≤ 1125899906842624) = !decide (c > 1125899906842624) by rw [← decide_not]; exact decide_eq_decide.2 (by omega)]
 cases decide (w < 0) <;> cases decide (w > 1099511627776) <;> cases decide (c < 1) <;> cases decide (c > 1125899906842624) <;> rfl
def mayP (k b a q w c : Int) (n : ByteArray) (f : Int) (L : List Rul) : Bool := smayB k b a && (qmayB q && (umayB w c && mayZ n f L))
theorem pchk_loop (M : Nat) (N : Nat) (e1 e2 e3 e4 : Bool) : iter (b_49_0 N) (M + 5) (((bif e1 then none else some 1), (bif e2 then none else some 1), (bif e3 then none else some 1), (bif e4 then none else some 1)), 0) = bif e1 && (e2 && (e3 && e4)) then some (.inr ()) else some (.inl (some 1)) := by
 rw [show iter (b_49_0 N) (M + 5) = b_49_0 N (b_49_0 N (b_49_0 N (b_49_0 N (b_49_0 N (iter (b_49_0 N) M))))) from rfl]
 generalize iter (b_49_0 N) M = T
 unfold b_49_0
 have w1 : IntKind.i64.wrap ((0 : Int) + 1) = 1 := by rw [wi64 (by omega) (by omega)]; rfl
 have w2 : IntKind.i64.wrap ((1 : Int) + 1) = 2 := by rw [wi64 (by omega) (by omega)]; rfl
 have w3 : IntKind.i64.wrap ((2 : Int) + 1) = 3 := by rw [wi64 (by omega) (by omega)]; rfl
 have w4 : IntKind.i64.wrap ((3 : Int) + 1) = 4 := by rw [wi64 (by omega) (by omega)]; rfl
 simp only [w1, w2, w3, w4]
 cases e1 <;> cases e2 <;> cases e3 <;> cases e4 <;> rfl
theorem pchk_at {N : Nat} (hN : 3000 ≤ N) (k b a q w c : Int) (j : Bool) {n : ByteArray} {f : Int} {L : List Rul} (hL : L.length ≤ 1000) : f_49 N k b a q w c j n f L = some (bif mayP k b a q w c n f L then none else some 1) := by
 unfold f_49 l_49_0 mayP
 rw [schk_at, qchk_at, uchk_at, check_at (by omega) (by omega)]
 simp only [Option.bind_some]
 obtain ⟨M, rfl⟩ : ∃ m, N = m + 5 := ⟨N - 5, by omega⟩
 rw [pchk_loop M]
 cases smayB k b a && (qmayB q && (umayB w c && mayZ n f L)) <;> rfl
theorem rpmay_at {N : Nat} (hN : 3000 ≤ N) (k b a q w c : Int) (j : Bool) {n : ByteArray} {f : Int} {L : List Rul} (hL : L.length ≤ 1000) (hn : n.size ≤ 1000) (hs : ∀ i, i < L.length → (gR L i).2.2.size ≤ 1000) : f_53 N k b a q w c j n f L = some (mayP k b a q w c n f L) := by
 unfold f_53 mayP
 rw [smay_at, qmay_at, umay_at, may_at (by omega) (by omega) (by omega) (fun i hi => by have := hs i hi; omega)]
 cases smayB k b a <;> cases qmayB q <;> cases umayB w c <;> rfl
end Go.Proofs.YthpljlpokmoeeaaGreatDoor.Mir
namespace Go.Proofs.YthpljlpokmoeeaaGreatDoor.Mir
open Go Go.RowKit
set_option maxRecDepth 100000
abbrev PolT := Int × Int × Int × Int × Int × Int × Bool × ByteArray × Int × List Rul
def mayPT (p : PolT) : Bool := mayP p.1 p.2.1 p.2.2.1 p.2.2.2.1 p.2.2.2.2.1 p.2.2.2.2.2.1 p.2.2.2.2.2.2.2.1 p.2.2.2.2.2.2.2.2.1 p.2.2.2.2.2.2.2.2.2
end Go.Proofs.YthpljlpokmoeeaaGreatDoor.Mir
namespace Go.Proofs.YthpljlpokmoeeaaGreatDoor.Mir
open Go Go.RowKit
set_option maxRecDepth 100000
end Go.Proofs.YthpljlpokmoeeaaGreatDoor.Mir
namespace Go.Proofs.YthpljlpokmoeeaaGreatDoor.Mir
open Go Go.RowKit
set_option maxRecDepth 100000
def fineT (c : Int) : Bool := (decide (c ≥ 97) && decide (c ≤ 122)) || (decide (c ≥ 48) && decide (c ≤ 57))
def allFineT (l : List UInt8) : Bool := l.all fun b => fineT (b.toNat : Int)
def nameT (s : ByteArray) : Bool := decide (1 ≤ s.size) && (decide (s.size ≤ 12) && allFineT s.data.toList)
def R64 (n : Int) : Prop := -9223372036854775808 ≤ n ∧ n < 9223372036854775808
def timeB (at_ : Int) : Bool := decide (-4611686018427387904 < at_) && decide (at_ < 4611686018427387904)
def pauseB (on : Bool) (a lost : Int) : Bool := timeB a && ((on || a == 0) && (!decide (lost < 0) && !decide (lost > 2305843009213693952)))
def floorB (set : Bool) (low q : Int) : Bool := bif set then Int.tmod low q == 0 else low == 0
theorem qmayB_rng {q : Int} (h : qmayB q = true) : 1 ≤ q ∧ q ≤ 68719476736 := by
 simp only [qmayB, Bool.and_eq_true, Bool.not_eq_true', decide_eq_false_iff_not] at h
 omega
def epB (e : Int) : Bool := !decide (e < 0) && !decide (e > 1099511627776)
def mayT (n : ByteArray) (k b a q w c : Int) (zn : ByteArray) (zf : Int) (zL : List Rul) (on : Bool) (at_ lost : Int) (set : Bool) (low ep : Int) : Bool :=
 nameT n && (mayP k b a q w c zn zf zL && (pauseB on at_ lost && (floorB set low q && epB ep)))
theorem mayP_q {k b a q w c : Int} {zn : ByteArray} {zf : Int} {zL : List Rul} (h : mayP k b a q w c zn zf zL = true) : qmayB q = true := by
 simp only [mayP, Bool.and_eq_true] at h; exact h.2.1
end Go.Proofs.YthpljlpokmoeeaaGreatDoor.Mir
namespace Go.Proofs.YthpljlpokmoeeaaGreatDoor.Mir
open Go Go.RowKit
set_option maxRecDepth 100000
def rB (s : Int) : Bool := decide (-9223372036854775808 ≤ s ∧ s < 9223372036854775808)
def fit64 (s : Int) : Int × Option Int := bif rB s then (s, none) else (0, some 2)
def satI (s : Int) : Int := if s < -9223372036854775808 then -9223372036854775808 else if s > 9223372036854775807 then 9223372036854775807 else s
theorem rB_t {s : Int} (h : R64 s) : rB s = true := decide_eq_true h
theorem rB_f {s : Int} (h : ¬ R64 s) : rB s = false := decide_eq_false h
theorem satI_in {s : Int} (h : R64 s) : satI s = s := by
 obtain ⟨h1, h2⟩ := h
 unfold satI; rw [if_neg (by omega), if_neg (by omega)]
theorem satI_rng (s : Int) : R64 (satI s) := by
 unfold satI R64
 split
 ·omega
 ·split <;> omega
theorem nadd_at (N : Nat) {a b : Int} (ha : R64 a) (hb : R64 b) : f_164 N a b = some (fit64 (a + b)) := by
 obtain ⟨a1, a2⟩ := ha
 obtain ⟨b1, b2⟩ := hb
 unfold f_164 fit64 rB
 by_cases h : -9223372036854775808 ≤ a + b ∧ a + b < 9223372036854775808
 ·rw [wi64 h.1 h.2, decide_eq_true h, show decide (a + b < a) = decide (b < 0) from decide_eq_decide.2 (by omega)]
  simp
 ·rw [decide_eq_false h]
  rcases (show a + b ≥ 9223372036854775808 ∨ a + b < -9223372036854775808 by omega) with h1 | h1
  ·have e : IntKind.i64.wrap (a + b) = a + b - 18446744073709551616 := by rw [IntKind.wrap_i64]; omega
   rw [e, decide_eq_true (show a + b - 18446744073709551616 < a by omega), decide_eq_false (show ¬ b < 0 by omega)]; rfl
  ·have e : IntKind.i64.wrap (a + b) = a + b + 18446744073709551616 := by rw [IntKind.wrap_i64]; omega
   rw [e, decide_eq_false (show ¬ a + b + 18446744073709551616 < a by omega), decide_eq_true (show b < 0 by omega)]; rfl
theorem nsub_at (N : Nat) {a b : Int} (ha : R64 a) (hb : R64 b) : f_114 N a b = some (fit64 (a - b)) := by
 obtain ⟨a1, a2⟩ := ha
 obtain ⟨b1, b2⟩ := hb
 unfold f_114 fit64 rB
 by_cases h : -9223372036854775808 ≤ a - b ∧ a - b < 9223372036854775808
 ·rw [wi64 h.1 h.2, decide_eq_true h, show decide (a - b > a) = decide (b < 0) from decide_eq_decide.2 (by omega)]
  simp
 ·rw [decide_eq_false h]
  rcases (show a - b ≥ 9223372036854775808 ∨ a - b < -9223372036854775808 by omega) with h1 | h1
  ·have e : IntKind.i64.wrap (a - b) = a - b - 18446744073709551616 := by rw [IntKind.wrap_i64]; omega
   rw [e, decide_eq_false (show ¬ a - b - 18446744073709551616 > a by omega), decide_eq_true (show b < 0 by omega)]; rfl
  ·have e : IntKind.i64.wrap (a - b) = a - b + 18446744073709551616 := by rw [IntKind.wrap_i64]; omega
   rw [e, decide_eq_true (show a - b + 18446744073709551616 > a by omega), decide_eq_false (show ¬ b < 0 by omega)]; rfl
theorem nedge_at (N : Nat) (b : Bool) : f_115 N b = some (bif b then -9223372036854775808 else 9223372036854775807) := by cases b <;> rfl
theorem naddsat_at (N : Nat) {a b : Int} (ha : R64 a) (hb : R64 b) : f_136 N a b = some (satI (a + b)) := by
 unfold f_136
 rw [nadd_at N ha hb, nedge_at]
 obtain ⟨a1, a2⟩ := ha
 obtain ⟨b1, b2⟩ := hb
 simp only [Option.bind_some]
 by_cases h : R64 (a + b)
 ·unfold fit64; rw [rB_t h, satI_in h]; rfl
 ·unfold fit64; rw [rB_f h]
  simp only [cond_false, Option.isNone_some, Bool.not_false, cond_true]
  unfold R64 at h
  unfold satI
  by_cases h0 : b < 0
  ·rw [decide_eq_true h0, if_pos (by omega)]; rfl
  ·rw [decide_eq_false h0, if_neg (by omega), if_pos (by omega)]; rfl
theorem nsubsat_at (N : Nat) {a b : Int} (ha : R64 a) (hb : R64 b) : f_52 N a b = some (satI (a - b)) := by
 unfold f_52
 rw [nsub_at N ha hb, nedge_at]
 obtain ⟨a1, a2⟩ := ha
 obtain ⟨b1, b2⟩ := hb
 simp only [Option.bind_some]
 by_cases h : R64 (a - b)
 ·unfold fit64; rw [rB_t h, satI_in h]; rfl
 ·unfold fit64; rw [rB_f h]
  simp only [cond_false, Option.isNone_some, Bool.not_false, cond_true]
  unfold R64 at h
  unfold satI
  by_cases h0 : b > 0
  ·rw [decide_eq_true h0, if_pos (by omega)]; rfl
  ·rw [decide_eq_false h0, if_neg (by omega), if_pos (by omega)]; rfl
theorem rnsum_at (N : Nat) {a b : Int} (ha : R64 a) (hb : R64 b) : f_56 N a b = some (if a + b > 9223372036854775807 then (0, 1) else if a + b < -9223372036854775808 then (0, -1) else (a + b, 0)) := by
 obtain ⟨a1, a2⟩ := ha
 obtain ⟨b1, b2⟩ := hb
 unfold f_56
 by_cases h0 : b > 0
 ·rw [decide_eq_true h0, decide_eq_false (show ¬ b < 0 by omega), wi64 (n := 9223372036854775807 - b) (by omega) (by omega)]
  by_cases h1 : a + b > 9223372036854775807
  ·rw [if_pos h1, decide_eq_true (show a > 9223372036854775807 - b by omega)]; rfl
  ·rw [if_neg h1, if_neg (by omega), decide_eq_false (show ¬ a > 9223372036854775807 - b by omega), wi64 (n := a + b) (by omega) (by omega)]; rfl
 ·rw [decide_eq_false h0]
  by_cases h2 : b < 0
  ·rw [decide_eq_true h2, wi64 (n := -9223372036854775808 - b) (by omega) (by omega), if_neg (by omega)]
   by_cases h1 : a + b < -9223372036854775808
   ·rw [if_pos h1, decide_eq_true (show a < -9223372036854775808 - b by omega)]; rfl
   ·rw [if_neg h1, decide_eq_false (show ¬ a < -9223372036854775808 - b by omega), wi64 (n := a + b) (by omega) (by omega)]; rfl
  ·rw [decide_eq_false h2, if_neg (by omega), if_neg (by omega), wi64 (n := a + b) (by omega) (by omega)]; rfl
theorem rnbnd_at (N : Nat) (n i : Int) : f_60 N n i = some (if i > 0 then 9223372036854775807 else if i < 0 then -9223372036854775808 else n) := by
 unfold f_60
 by_cases h : i > 0
 ·rw [if_pos h, decide_eq_true h]; rfl
 ·rw [if_neg h, decide_eq_false h]
  by_cases h2 : i < 0
  ·rw [if_pos h2, decide_eq_true h2]; rfl
  ·rw [if_neg h2, decide_eq_false h2]; rfl
theorem rnbnd_of (N : Nat) {s : Int} {p : Int × Int} (h : p = if s > 9223372036854775807 then (0, 1) else if s < -9223372036854775808 then (0, -1) else (s, 0)) : f_60 N p.1 p.2 = some (satI s) := by
 rw [rnbnd_at, h]
 unfold satI
 by_cases h1 : s > 9223372036854775807
 ·rw [if_pos h1, if_neg (show ¬ s < -9223372036854775808 by omega), if_pos h1]; rfl
 ·rw [if_neg h1]
  by_cases h2 : s < -9223372036854775808
  ·rw [if_pos h2, if_pos h2]; rfl
  ·rw [if_neg h2, if_neg h2, if_neg h1]; rfl
end Go.Proofs.YthpljlpokmoeeaaGreatDoor.Mir
namespace Go.Proofs.YthpljlpokmoeeaaGreatDoor.Mir
open Go Go.RowKit
set_option maxRecDepth 100000
end Go.Proofs.YthpljlpokmoeeaaGreatDoor.Mir
namespace Go.Proofs.YthpljlpokmoeeaaGreatDoor.Mir
open Go Go.RowKit
set_option maxRecDepth 100000
abbrev PageT := Int × Int × Int × Int × Int × Int × Int × Int × Int × Int
def facB (m s : Int) : Bool := decide (m > 0) && (decide (s ≥ 0) && decide (s ≤ 31))
theorem facB_ok {m s : Int} (h : facB m s = true) : 0 < m ∧ 0 ≤ s ∧ s ≤ 31 := by
 simp only [facB, Bool.and_eq_true, decide_eq_true_eq] at h; omega
def scaleD (m s n : Int) : Int × Option Int := bif facB m s then msP n m s else (0, some 1)
theorem pow2_pos (k : Nat) : (0 : Int) < 2 ^ k := by rw [natPow]; have := Nat.two_pow_pos k; omega
theorem scaleD_eq {m s n : Int} (h : facB m s = true) : scaleD m s n = fitP (n * m / 2 ^ s.toNat) := by
 have := facB_ok h
 unfold scaleD msP
 rw [h, cond_true, if_neg (by omega)]
theorem fitP_none {x : Int} (h : (fitP x).2 = none) : (fitP x).1 = x ∧ R64 x := by
 unfold fitP at h ⊢
 cases hb : i64B x with
 | true => exact ⟨rfl, i64B_iff.1 hb⟩
 | false => rw [hb] at h; cases h
theorem fitP_ok {x : Int} (h : R64 x) : fitP x = (x, none) := by
 unfold fitP
 rw [i64B_iff.2 h]; rfl
theorem fitP_err {x e : Int} (h : (fitP x).2 = some e) : e = 2 ∧ (fitP x).1 = 0 := by
 unfold fitP at h ⊢
 cases hb : i64B x with
 | true => rw [hb] at h; cases h
 | false => rw [hb] at h; cases h; exact ⟨rfl, rfl⟩
theorem scaleD_none {m s n : Int} (h : (scaleD m s n).2 = none) : facB m s = true ∧ (scaleD m s n).1 = n * m / 2 ^ s.toNat ∧ R64 (scaleD m s n).1 := by
 cases hf : facB m s with
 | false => unfold scaleD at h; rw [hf] at h; cases h
 | true =>
  rw [scaleD_eq hf] at h ⊢
  obtain ⟨h1, h2⟩ := fitP_none h
  exact ⟨rfl, h1, by rw [h1]; exact h2⟩
theorem scaleD_err {m s n e : Int} (h : (scaleD m s n).2 = some e) : e ≠ 0 ∧ (scaleD m s n).1 = 0 := by
 cases hf : facB m s with
 | false => unfold scaleD at h ⊢; rw [hf] at h ⊢; cases h; exact ⟨by decide, rfl⟩
 | true =>
  rw [scaleD_eq hf] at h ⊢
  obtain ⟨h1, h2⟩ := fitP_err h
  exact ⟨by omega, h2⟩
theorem scaleD_nn {m s n : Int} (h0 : 0 ≤ n) (h : (scaleD m s n).2 = none) : 0 ≤ (scaleD m s n).1 := by
 obtain ⟨h1, h2, _⟩ := scaleD_none h
 have := facB_ok h1
 rw [h2]
 exact Int.ediv_nonneg (Int.mul_nonneg h0 (by omega)) (Int.le_of_lt (pow2_pos _))
theorem scaleD_mono {m s n n' : Int} (h0 : 0 ≤ n) (hn : n ≤ n') (h : (scaleD m s n').2 = none) : (scaleD m s n).2 = none ∧ (scaleD m s n).1 ≤ (scaleD m s n').1 := by
 obtain ⟨h1, h2, h3⟩ := scaleD_none h
 have hf := facB_ok h1
 have hl : n * m / 2 ^ s.toNat ≤ n' * m / 2 ^ s.toNat := Int.ediv_le_ediv (pow2_pos _) (Int.mul_le_mul_of_nonneg_right hn (by omega))
 have h0' : 0 ≤ n * m / 2 ^ s.toNat := Int.ediv_nonneg (Int.mul_nonneg h0 (by omega)) (Int.le_of_lt (pow2_pos _))
 rw [h2] at h3 ⊢
 obtain ⟨r1, r2⟩ := h3
 rw [scaleD_eq h1, fitP_ok ⟨by omega, by omega⟩]
 exact ⟨rfl, hl⟩
def pageB (p : PageT) : Bool := (decide (0 ≤ p.1) && decide (p.1 ≤ 1099511627776)) && ((decide (0 ≤ p.2.1) && decide (p.2.1 ≤ 1152921504606846976)) && ((decide (-4611686018427387904 < p.2.2.1) && decide (p.2.2.1 < 4611686018427387904)) && ((decide (0 ≤ p.2.2.2.1) && decide (p.2.2.2.1 ≤ 2305843009213693952)) && ((decide (0 ≤ p.2.2.2.2.2.2.2.2.1) && decide (p.2.2.2.2.2.2.2.2.1 ≤ 2097152)) && ((decide (1 ≤ p.2.2.2.2.2.2.2.2.2) && decide (p.2.2.2.2.2.2.2.2.2 ≤ 1125899906842624)) && (facB p.2.2.2.2.1 p.2.2.2.2.2.1 && facB p.2.2.2.2.2.2.1 p.2.2.2.2.2.2.2.1))))))
structure PageOk (p : PageT) : Prop where
 base : 0 ≤ p.2.1 ∧ p.2.1 ≤ 1152921504606846976
 tai : -4611686018427387904 < p.2.2.1 ∧ p.2.2.1 < 4611686018427387904
 err : 0 ≤ p.2.2.2.1 ∧ p.2.2.2.1 ≤ 2305843009213693952
 parts : 0 ≤ p.2.2.2.2.2.2.2.2.1 ∧ p.2.2.2.2.2.2.2.2.1 ≤ 2097152
 cap : 1 ≤ p.2.2.2.2.2.2.2.2.2 ∧ p.2.2.2.2.2.2.2.2.2 ≤ 1125899906842624
 go : facB p.2.2.2.2.1 p.2.2.2.2.2.1 = true
 pl : facB p.2.2.2.2.2.2.1 p.2.2.2.2.2.2.2.1 = true
theorem pageB_ok {p : PageT} (h : pageB p = true) : PageOk p := by
 simp only [pageB, Bool.and_eq_true, decide_eq_true_eq] at h
 obtain ⟨_, h1, h2, h3, h4, h5, h6, h7⟩ := h
 exact ⟨h1, h2, h3, h4, h5, h6, h7⟩
def upD (rho g : Int) : Int := -(-g * rho / 1073741824)
theorem upD_rng {rho g : Int} (r0 : 0 ≤ rho) (r1 : rho ≤ 2097152) (g0 : 0 ≤ g) (g1 : g < 9223372036854775808) : 0 ≤ upD rho g ∧ upD rho g ≤ 18014398509481984 := by
 have h1 : 0 ≤ g * rho := Int.mul_nonneg g0 r0
 have h2 : g * rho ≤ g * 2097152 := Int.mul_le_mul_of_nonneg_left r1 g0
 unfold upD
 rw [Int.neg_mul]
 omega
theorem upD_mono {rho g g' : Int} (r0 : 0 ≤ rho) (h : g ≤ g') : upD rho g ≤ upD rho g' := by
 have h1 : g * rho ≤ g' * rho := Int.mul_le_mul_of_nonneg_right h r0
 unfold upD
 rw [Int.neg_mul, Int.neg_mul]
 omega
theorem satI_mono {a b : Int} (h : a ≤ b) : satI a ≤ satI b := by
 unfold satI
 repeat' split
 all_goals omega
theorem satI_nn {a : Int} (h : 0 ≤ a) : 0 ≤ satI a := by
 unfold satI
 repeat' split
 all_goals omega
def atD (p : PageT) (n : Int) : Int × Option Int :=
 match (scaleD p.2.2.2.2.1 p.2.2.2.2.2.1 n).2 with
 | some e => (0, some e)
 | none => if 4611686018427387904 ≤ p.2.2.1 + (scaleD p.2.2.2.2.1 p.2.2.2.2.2.1 n).1 then (0, some 2) else (p.2.2.1 + (scaleD p.2.2.2.2.1 p.2.2.2.2.2.1 n).1, none)
def plainD (p : PageT) (n : Int) : Int × Option Int := scaleD p.2.2.2.2.2.2.1 p.2.2.2.2.2.2.2.1 n
def ageD (p : PageT) (n : Int) : Int := upD p.2.2.2.2.2.2.2.2.1 (satI ((plainD p n).1 + 1))
def fitD (p : PageT) (n : Int) : Int := n / 2 ^ (p.2.2.2.2.2.2.2.1).toNat
def offD (p : PageT) (n : Int) : Int := satI (satI (p.2.2.2.1 + ageD p n) + (fitD p n + 4))
def aheadD (p : PageT) (n : Int) : Int × Int × Option Int :=
 match (atD p n).2 with
 | some e => (0, 0, some e)
 | none => match (plainD p n).2 with
  | some e => (0, 0, some e)
  | none => ((atD p n).1, offD p n, none)
def timeD (p : PageT) (c : Int) : Int × Int × Option Int :=
 if pageB p = true then (if c < p.2.1 then (0, 0, some 10) else if c - p.2.1 > p.2.2.2.2.2.2.2.2.2 then (0, 0, some 14) else aheadD p (c - p.2.1)) else (0, 0, some 1)
theorem timeD_none {p : PageT} {c : Int} (h : (timeD p c).2.2 = none) : pageB p = true ∧ p.2.1 ≤ c ∧ c - p.2.1 ≤ p.2.2.2.2.2.2.2.2.2 ∧ (atD p (c - p.2.1)).2 = none ∧ (plainD p (c - p.2.1)).2 = none ∧ timeD p c = ((atD p (c - p.2.1)).1, offD p (c - p.2.1), none) := by
 unfold timeD at h ⊢
 by_cases h1 : pageB p = true
 ·rw [if_pos h1] at h ⊢
  by_cases h2 : c < p.2.1
  ·rw [if_pos h2] at h; cases h
  ·rw [if_neg h2] at h ⊢
   by_cases h3 : c - p.2.1 > p.2.2.2.2.2.2.2.2.2
   ·rw [if_pos h3] at h; cases h
   ·rw [if_neg h3] at h ⊢
    unfold aheadD at h ⊢
    generalize atD p (c - p.2.1) = A at h ⊢
    obtain ⟨a, e⟩ := A
    cases e with
    | some e => cases h
    | none =>
     simp only at h ⊢
     generalize hP : plainD p (c - p.2.1) = P at h ⊢
     obtain ⟨b, e⟩ := P
     cases e with
     | some e => cases h
     | none => exact ⟨h1, by omega, by omega, trivial, rfl, rfl⟩
 ·rw [if_neg h1] at h; cases h
theorem atD_mono {p : PageT} {n n' : Int} (h0 : 0 ≤ n) (hn : n ≤ n') (h : (atD p n').2 = none) : (atD p n).2 = none := by
 unfold atD at h ⊢
 have key := fun h => scaleD_mono (m := p.2.2.2.2.1) (s := p.2.2.2.2.2.1) h0 hn h
 generalize scaleD p.2.2.2.2.1 p.2.2.2.2.2.1 n' = A at h key
 generalize scaleD p.2.2.2.2.1 p.2.2.2.2.2.1 n = B at key ⊢
 obtain ⟨a, e⟩ := A
 obtain ⟨b, f⟩ := B
 cases e with
 | some e => cases h
 | none =>
  obtain ⟨k1, k2⟩ := key rfl
  simp only at k1 k2 h
  subst k1
  simp only
  by_cases g : 4611686018427387904 ≤ p.2.2.1 + a
  ·rw [if_pos g] at h; cases h
  ·rw [if_neg (by omega)]
theorem timeD_of {p : PageT} {n : Int} (hp : pageB p = true) (h0 : 0 ≤ n) (hc : n ≤ p.2.2.2.2.2.2.2.2.2) : timeD p (p.2.1 + n) = aheadD p n := by
 unfold timeD
 rw [if_pos hp, if_neg (by omega), show p.2.1 + n - p.2.1 = n by omega, if_neg (by omega)]
theorem timeD_mono {p : PageT} {n n' : Int} (h0 : 0 ≤ n) (hn : n ≤ n') (h : (timeD p (p.2.1 + n')).2.2 = none) : (timeD p (p.2.1 + n)).2.2 = none := by
 obtain ⟨hp, _, hc, h1, h2, _⟩ := timeD_none h
 rw [show p.2.1 + n' - p.2.1 = n' by omega] at hc h1 h2
 have a := atD_mono h0 hn h1
 have b := (scaleD_mono h0 hn h2).1
 rw [timeD_of hp h0 (by omega)]
 unfold aheadD plainD
 rw [a]
 simp only
 rw [b]
abbrev PartsT := Int × Int × Int × Int × Int × Int × Int
def parts0 : PartsT := (0, 0, 0, 0, 0, 0, 0)
def partsV (p : PageT) (how : PolT) (n raised : Int) : PartsT := (p.2.2.2.1, ageD p n, fitD p n + 4, how.2.2.2.2.1, how.2.2.2.1 - 1, if how.1 = 0 then 1000000000 else 0, raised)
def partsD (p : PageT) (c : Int) (how : PolT) (raised : Int) : PartsT × Option Int :=
 if mayPT how = true then (if raised < 0 then (parts0, some 1) else match (timeD p c).2.2 with
  | some e => (parts0, some e)
  | none => (partsV p how (c - p.2.1) raised, none)) else (parts0, some 1)
def sumL (l : List Int) : Int := l.foldl (fun a x => satI (a + x)) 0
def sumP (v : PartsT) : Int := sumL [v.1, v.2.1, v.2.2.1, v.2.2.2.1, v.2.2.2.2.1, v.2.2.2.2.2.1, v.2.2.2.2.2.2]
def goodB (p : PageT) (how : PolT) (limit n : Int) : Bool := Option.isNone (partsD p (p.2.1 + n) how 0).2 && decide (sumP (partsD p (p.2.1 + n) how 0).1 ≤ limit)
theorem partsD_none {p : PageT} {c : Int} {how : PolT} {r : Int} (h : (partsD p c how r).2 = none) : mayPT how = true ∧ 0 ≤ r ∧ (timeD p c).2.2 = none ∧ partsD p c how r = (partsV p how (c - p.2.1) r, none) := by
 unfold partsD at h ⊢
 by_cases h1 : mayPT how = true
 ·rw [if_pos h1] at h ⊢
  by_cases h2 : r < 0
  ·rw [if_pos h2] at h; cases h
  ·rw [if_neg h2] at h ⊢
   generalize timeD p c = T at h ⊢
   obtain ⟨a, b, e⟩ := T
   cases e with
   | some e => cases h
   | none => exact ⟨h1, by omega, rfl, rfl⟩
 ·rw [if_neg h1] at h; cases h
theorem partsD_ok {p : PageT} {c : Int} {how : PolT} {r : Int} (h1 : mayPT how = true) (h2 : 0 ≤ r) (h3 : (timeD p c).2.2 = none) : partsD p c how r = (partsV p how (c - p.2.1) r, none) := by
 unfold partsD
 rw [if_pos h1, if_neg (by omega), h3]
theorem partsV_mono {p : PageT} {how : PolT} {n n' r : Int} (hp : PageOk p) (h0 : 0 ≤ n) (hn : n ≤ n') (h : (plainD p n').2 = none) : sumP (partsV p how n r) ≤ sumP (partsV p how n' r) := by
 have h1 := (scaleD_mono h0 hn h).2
 have a1 : ageD p n ≤ ageD p n' := upD_mono hp.parts.1 (satI_mono (by unfold plainD; omega))
 have a2 : fitD p n ≤ fitD p n' := Int.ediv_le_ediv (pow2_pos _) hn
 unfold sumP partsV sumL
 simp only [List.foldl]
 exact satI_mono (Int.add_le_add_right (satI_mono (Int.add_le_add_right (satI_mono (Int.add_le_add_right (satI_mono (Int.add_le_add_right (satI_mono (Int.add_le_add (satI_mono (Int.add_le_add_left a1 _)) (Int.add_le_add_right a2 _))) _)) _)) _)) _)
theorem goodB_mono {p : PageT} {how : PolT} {limit n n' : Int} (h0 : 0 ≤ n) (hn : n ≤ n') (h : goodB p how limit n' = true) : goodB p how limit n = true := by
 simp only [goodB, Bool.and_eq_true, Option.isNone_iff_eq_none, decide_eq_true_eq] at h ⊢
 obtain ⟨h1, h2⟩ := h
 obtain ⟨m1, _, m3, m4⟩ := partsD_none h1
 have t := timeD_mono h0 hn m3
 obtain ⟨hp, _, _, _, hpl, _⟩ := timeD_none m3
 rw [show p.2.1 + n' - p.2.1 = n' by omega] at m4 hpl
 rw [m4] at h2
 rw [partsD_ok m1 (Int.le_refl 0) t, show p.2.1 + n - p.2.1 = n by omega]
 exact ⟨rfl, Int.le_trans (partsV_mono (pageB_ok hp) h0 hn hpl) h2⟩
theorem goodB_cap {p : PageT} {how : PolT} {limit n : Int} (h : goodB p how limit n = true) : n ≤ p.2.2.2.2.2.2.2.2.2 := by
 simp only [goodB, Bool.and_eq_true, Option.isNone_iff_eq_none] at h
 obtain ⟨_, _, m3, _⟩ := partsD_none h.1
 obtain ⟨_, _, hc, _⟩ := timeD_none m3
 omega
def Last (p : PageT) (how : PolT) (limit n : Int) : Prop := 0 ≤ n ∧ goodB p how limit n = true ∧ goodB p how limit (n + 1) = false
theorem Last.uniq {p : PageT} {how : PolT} {limit n m : Int} (a : Last p how limit n) (b : Last p how limit m) : n = m := by
 obtain ⟨a0, a1, a2⟩ := a
 obtain ⟨b0, b1, b2⟩ := b
 rcases Int.lt_trichotomy n m with h | h | h
 ·have := goodB_mono (n := n + 1) (n' := m) (by omega) (by omega) b1
  rw [a2] at this; cases this
 ·exact h
 ·have := goodB_mono (n := m + 1) (n' := n) (by omega) (by omega) a1
  rw [b2] at this; cases this
end Go.Proofs.YthpljlpokmoeeaaGreatDoor.Mir
namespace Go.Proofs.YthpljlpokmoeeaaGreatDoor.Mir
open Go Go.RowKit
set_option maxRecDepth 100000
theorem bindP {A B : Type} (o : Option A) (a : A) (k : A → Option B) (h : o = some a) : Option.bind o k = k a := by subst h; exact id rfl
end Go.Proofs.YthpljlpokmoeeaaGreatDoor.Mir
namespace Go.Proofs.YthpljlpokmoeeaaGreatDoor.Mir
open Go Go.RowKit
set_option maxRecDepth 100000
theorem umayB_rng {w c : Int} (h : umayB w c = true) : (0 ≤ w ∧ w ≤ 1099511627776) ∧ 1 ≤ c ∧ c ≤ 1125899906842624 := by
 simp only [umayB, Bool.and_eq_true, Bool.not_eq_true', decide_eq_false_iff_not] at h
 omega
end Go.Proofs.YthpljlpokmoeeaaGreatDoor.Mir
namespace Go.Proofs.YthpljlpokmoeeaaGreatDoor.Mir
open Go Go.RowKit
set_option maxRecDepth 100000
theorem ratchk_at (N : Nat) {m s : Int} (hm : 0 ≤ m) : f_102 N m s = some (bif facB m s then none else some 1) := by
 unfold f_102 facB
 by_cases h1 : m = 0
 ·subst h1; rfl
 ·rw [show (m == 0) = false by simpa using h1, decide_eq_true (show m > 0 by omega)]
  by_cases h2 : s < 0
  ·rw [decide_eq_true h2, decide_eq_false (show ¬ s ≥ 0 by omega)]; rfl
  ·rw [decide_eq_false h2, decide_eq_true (show s ≥ 0 by omega)]
   by_cases h3 : s > 31
   ·rw [decide_eq_true h3, decide_eq_false (show ¬ s ≤ 31 by omega)]; rfl
   ·rw [decide_eq_false h3, decide_eq_true (show s ≤ 31 by omega)]; rfl
theorem msF_at {a m s : Int} (ha : R64 a) (h0 : 0 ≤ m) (h1 : m < 4294967296) : msF a m s = some (msP a m s) := by
 unfold msF
 rw [i64B_iff.2 ha, u32B_iff.2 ⟨h0, h1⟩]; rfl
theorem mdF_at {a b c : Int} (ha : R64 a) (hb : R64 b) (hc : R64 c) (h : 1 ≤ c) : mdF a b c = some (fitP (a * b / c)) := by
 unfold mdF
 rw [i64B_iff.2 ha, i64B_iff.2 hb, i64B_iff.2 hc, decide_eq_false (show ¬ c < 1 by omega)]; rfl
theorem scale_at (N : Nat) {m n : Int} (s : Int) (hm : 0 ≤ m) (hm2 : m < 4294967296) (hn : R64 n) : f_50 N m s n = some (scaleD m s n) := by
 unfold f_50 scaleD
 refine (bindP _ _ _ (ratchk_at N hm)).trans ?_
 cases facB m s with
 | false => rfl
 | true =>
  simp only [cond_true, Option.isNone_none, Bool.not_true, cond_false]
  exact (bindP _ _ _ (msF_at hn hm hm2)).trans rfl
theorem from_at (N : Nat) (n l : Int) : f_100 N n l = some (decide (0 ≤ n) && decide (n ≤ l)) := by
 unfold f_100
 by_cases h : 0 ≤ n
 ·rw [decide_eq_true (show n ≥ 0 from h)]; rfl
 ·rw [decide_eq_false (show ¬ n ≥ 0 from h)]; rfl
theorem nsize_at (N : Nat) {a : Int} (ha : R64 a) : f_101 N a = some (if a < 0 then satI (0 - a) else a) := by
 unfold f_101
 by_cases h : a < 0
 ·rw [decide_eq_true h, if_pos h, cond_true, nsubsat_at N ⟨by decide, by decide⟩ ha]; rfl
 ·rw [decide_eq_false h, if_neg h]; rfl
structure PageW (p : PageT) : Prop where
 base : R64 (p.2.1)
 tai : R64 (p.2.2.1)
 gm : 0 ≤ p.2.2.2.2.1 ∧ p.2.2.2.2.1 < 4294967296
 gs : R64 (p.2.2.2.2.2.1)
 pm : 0 ≤ p.2.2.2.2.2.2.1 ∧ p.2.2.2.2.2.2.1 < 4294967296
 ps : R64 (p.2.2.2.2.2.2.2.1)
theorem size_far {a : Int} (ha : R64 a) : decide ((if a < 0 then satI (0 - a) else a) ≥ 4611686018427387904) = !(decide (-4611686018427387904 < a) && decide (a < 4611686018427387904)) := by
 obtain ⟨a0, a1⟩ := ha
 have e : ((if a < 0 then satI (0 - a) else a) ≥ 4611686018427387904) ↔ ¬ (-4611686018427387904 < a ∧ a < 4611686018427387904) := by
  unfold satI
  repeat' split
  all_goals omega
 by_cases h : -4611686018427387904 < a ∧ a < 4611686018427387904
 ·rw [decide_eq_false (fun q => (e.1 q) h), decide_eq_true h.1, decide_eq_true h.2]; rfl
 ·rw [decide_eq_true (e.2 h)]
  by_cases h1 : -4611686018427387904 < a
  ·rw [decide_eq_true h1, decide_eq_false (fun q => h ⟨h1, q⟩)]; rfl
  ·rw [decide_eq_false h1]; rfl
theorem cap_far (a : Int) : (decide (1 ≤ a) = !decide (a < 1)) ∧ (decide (a ≤ 1125899906842624) = !decide (a > 1125899906842624)) := by
 constructor
 ·by_cases h : a < 1
  ·rw [decide_eq_true h, decide_eq_false (show ¬ 1 ≤ a by omega)]; rfl
  ·rw [decide_eq_false h, decide_eq_true (show 1 ≤ a by omega)]; rfl
 ·by_cases h : a > 1125899906842624
  ·rw [decide_eq_true h, decide_eq_false (show ¬ a ≤ 1125899906842624 by omega)]; rfl
  ·rw [decide_eq_false h, decide_eq_true (show a ≤ 1125899906842624 by omega)]; rfl
theorem pgchk_at (N : Nat) {p : PageT} (w : PageW p) : f_44 N p.1 p.2.1 p.2.2.1 p.2.2.2.1 p.2.2.2.2.1 p.2.2.2.2.2.1 p.2.2.2.2.2.2.1 p.2.2.2.2.2.2.2.1 p.2.2.2.2.2.2.2.2.1 p.2.2.2.2.2.2.2.2.2 = some (bif pageB p then none else some 1) := by
 unfold f_44 pageB
 rw [from_at, from_at, from_at, from_at, nsize_at N w.tai, ratchk_at N w.gm.1, ratchk_at N w.pm.1, (cap_far _).1, (cap_far _).2]
 simp only [Option.bind_some, size_far w.tai]
 generalize (decide (0 ≤ p.1) && decide (p.1 ≤ 1099511627776)) = c1
 generalize (decide (0 ≤ p.2.1) && decide (p.2.1 ≤ 1152921504606846976)) = c2
 generalize (decide (-4611686018427387904 < p.2.2.1) && decide (p.2.2.1 < 4611686018427387904)) = c3
 generalize (decide (0 ≤ p.2.2.2.1) && decide (p.2.2.2.1 ≤ 2305843009213693952)) = c4
 generalize (decide (0 ≤ p.2.2.2.2.2.2.2.2.1) && decide (p.2.2.2.2.2.2.2.2.1 ≤ 2097152)) = c5
 generalize decide (p.2.2.2.2.2.2.2.2.2 < 1) = c6
 generalize decide (p.2.2.2.2.2.2.2.2.2 > 1125899906842624) = c7
 generalize facB p.2.2.2.2.1 p.2.2.2.2.2.1 = c8
 generalize facB p.2.2.2.2.2.2.1 p.2.2.2.2.2.2.2.1 = c9
 cases c1 <;> cases c2 <;> cases c3 <;> cases c4 <;> cases c5 <;> cases c6 <;> cases c7 <;> cases c8 <;> cases c9 <;> rfl
theorem dgrow_at (N : Nat) {e rho g : Int} (e0 : 0 ≤ e) (e1 : R64 e) (r0 : 0 ≤ rho) (r1 : rho ≤ 2097152) (g0 : 0 ≤ g) (g1 : R64 g) : f_165 N e rho g = some (satI (e + upD rho g), none) := by
 obtain ⟨u0, u1⟩ := upD_rng r0 r1 g0 g1.2
 have hm : (0 - g) * rho / 1073741824 = -upD rho g := by unfold upD; rw [show (0 : Int) - g = -g by omega]; omega
 have hg := g1.2
 unfold f_165 f_197
 rw [decide_eq_false (show ¬ e < 0 by omega), decide_eq_false (show ¬ rho < 0 by omega), decide_eq_false (show ¬ rho > 2097152 by omega), decide_eq_false (show ¬ g < 0 by omega), wi64 (n := 0 - g) (by omega) (by omega)]
 simp only [cond_false, Option.bind_some]
 refine (bindP _ _ _ (mdF_at ⟨by omega, by omega⟩ ⟨by omega, by omega⟩ ⟨by decide, by decide⟩ (by decide))).trans ?_
 rw [hm, fitP_ok ⟨by omega, by omega⟩]
 simp only [Option.isNone_none, Bool.not_true, cond_false]
 rw [nsubsat_at N e1 ⟨by omega, by omega⟩, show e - -upD rho g = e + upD rho g by omega]; rfl
theorem min_bits {s : Int} (h : s ≤ 31) : min s.toNat IntKind.i64.bits = s.toNat := Nat.min_eq_left (show s.toNat ≤ 64 by omega)
theorem fit_rng {s n : Int} (h0 : 0 ≤ n) (h1 : n ≤ 1125899906842624) : 0 ≤ n / 2 ^ s.toNat ∧ n / 2 ^ s.toNat ≤ 1125899906842624 :=
 ⟨Int.ediv_nonneg h0 (Int.le_of_lt (pow2_pos _)), Int.le_trans (Int.ediv_le_self _ h0) h1⟩
theorem ratoff_at (N : Nat) {m s n : Int} (hm : 0 ≤ m) (hf : facB m s = true) (h0 : 0 ≤ n) (h1 : n ≤ 1125899906842624) : f_166 N m s n = some (n / 2 ^ s.toNat + 2, none) := by
 have hs := facB_ok hf
 obtain ⟨q0, q1⟩ := fit_rng (s := s) h0 h1
 unfold f_166
 refine (bindP _ _ _ (ratchk_at N hm)).trans ?_
 rw [hf, decide_eq_false (show ¬ n < 0 by omega), decide_eq_false (show ¬ s < 0 by omega), min_bits hs.2.2]
 simp only [cond_true, Option.isNone_none, Bool.not_true, cond_false]
 rw [nadd_at N ⟨by omega, by omega⟩ ⟨by decide, by decide⟩]
 unfold fit64
 rw [rB_t ⟨by omega, by omega⟩]; rfl
theorem plain_R64 {p : PageT} {n : Int} (h : (plainD p n).2 = none) : R64 (plainD p n).1 := (scaleD_none h).2.2
theorem sat1_nn {x : Int} (h : 0 ≤ x) : 0 ≤ satI (x + 1) := satI_nn (by omega)
theorem ageD_rng {p : PageT} (k : PageOk p) {n : Int} (h0 : 0 ≤ n) (h : (plainD p n).2 = none) : 0 ≤ ageD p n ∧ ageD p n ≤ 18014398509481984 :=
 upD_rng k.parts.1 k.parts.2 (sat1_nn (scaleD_nn h0 h)) (satI_rng _).2
theorem ahoff_at (N : Nat) {p : PageT} (w : PageW p) (k : PageOk p) {n : Int} (h0 : 0 ≤ n) (h1 : n ≤ 1125899906842624) :
  f_105 N p.1 p.2.1 p.2.2.1 p.2.2.2.1 p.2.2.2.2.1 p.2.2.2.2.2.1 p.2.2.2.2.2.2.1 p.2.2.2.2.2.2.2.1 p.2.2.2.2.2.2.2.2.1 p.2.2.2.2.2.2.2.2.2 n = some (match (plainD p n).2 with | some e => (0, some e) | none => (offD p n, none)) := by
 unfold f_105
 refine (bindP _ _ _ (scale_at N _ w.pm.1 w.pm.2 ⟨by omega, by omega⟩)).trans ?_
 have hr := fun h => plain_R64 (p := p) (n := n) h
 have hn := fun h => scaleD_nn (m := p.2.2.2.2.2.2.1) (s := p.2.2.2.2.2.2.2.1) h0 h
 have ha := fun h => ageD_rng k h0 h
 obtain ⟨q0, q1⟩ := fit_rng (s := p.2.2.2.2.2.2.2.1) h0 h1
 unfold offD ageD fitD
 unfold ageD at ha
 unfold plainD at hr ha ⊢
 generalize scaleD p.2.2.2.2.2.2.1 p.2.2.2.2.2.2.2.1 n = V at hr hn ha ⊢
 obtain ⟨x, e⟩ := V
 cases e with
 | some e => rfl
 | none =>
  have hr := hr rfl
  have hn := hn rfl
  have ha := ha rfl
  have ke := k.err
  simp only [Option.isNone_none, Bool.not_true, cond_false] at hr hn ha ⊢
  refine (bindP _ _ _ (naddsat_at N hr ⟨by decide, by decide⟩)).trans ?_
  refine (bindP _ _ _ (dgrow_at N ke.1 ⟨by omega, by omega⟩ k.parts.1 k.parts.2 (sat1_nn hn) (satI_rng _))).trans ?_
  simp only [Option.isNone_none, Bool.not_true, cond_false]
  refine (bindP _ _ _ (ratoff_at N w.pm.1 k.pl h0 h1)).trans ?_
  simp only [Option.isNone_none, Bool.not_true, cond_false]
  rw [naddsat_at N ⟨by omega, by omega⟩ ⟨by decide, by decide⟩, satI_in (s := n / 2 ^ (p.2.2.2.2.2.2.2.1).toNat + 2 + 2) ⟨by omega, by omega⟩]
  simp only [Option.bind_some]
  rw [naddsat_at N (satI_rng _) ⟨by omega, by omega⟩, show n / 2 ^ (p.2.2.2.2.2.2.2.1).toNat + 2 + 2 = n / 2 ^ (p.2.2.2.2.2.2.2.1).toNat + 4 by omega]; rfl
theorem ahat_at (N : Nat) {p : PageT} (w : PageW p) (k : PageOk p) {n : Int} (h0 : 0 ≤ n) (h1 : n ≤ 1125899906842624) : f_104 N p.1 p.2.1 p.2.2.1 p.2.2.2.1 p.2.2.2.2.1 p.2.2.2.2.2.1 p.2.2.2.2.2.2.1 p.2.2.2.2.2.2.2.1 p.2.2.2.2.2.2.2.2.1 p.2.2.2.2.2.2.2.2.2 n = some (atD p n) := by
 unfold f_104 atD
 refine (bindP _ _ _ (scale_at N _ w.gm.1 w.gm.2 ⟨by omega, by omega⟩)).trans ?_
 have hr := fun h => (scaleD_none (m := p.2.2.2.2.1) (s := p.2.2.2.2.2.1) (n := n) h).2.2
 have hn := fun h => scaleD_nn (m := p.2.2.2.2.1) (s := p.2.2.2.2.2.1) h0 h
 generalize scaleD p.2.2.2.2.1 p.2.2.2.2.2.1 n = V at hr hn ⊢
 obtain ⟨x, e⟩ := V
 cases e with
 | some e => rfl
 | none =>
  have hr := hr rfl
  have hn := hn rfl
  have kt := k.tai
  simp only [Option.isNone_none, Bool.not_true, cond_false] at hr hn ⊢
  rw [nadd_at N ⟨by omega, by omega⟩ hr]
  simp only [Option.bind_some]
  obtain ⟨r0, r1⟩ := hr
  unfold fit64
  by_cases hb : R64 (p.2.2.1 + x)
  ·rw [rB_t hb]
   simp only [cond_true, Option.isNone_none, Bool.not_true, cond_false]
   by_cases h : 4611686018427387904 ≤ p.2.2.1 + x
   ·rw [if_pos h, decide_eq_true (show p.2.2.1 + x ≥ 4611686018427387904 from h)]; rfl
   ·rw [if_neg h, decide_eq_false (show ¬ p.2.2.1 + x ≥ 4611686018427387904 from h)]; rfl
  ·rw [rB_f hb, if_pos (by unfold R64 at hb; omega)]; rfl
theorem ahtime_at (N : Nat) {p : PageT} (w : PageW p) {c : Int} (hc : R64 c) : f_45 N p.1 p.2.1 p.2.2.1 p.2.2.2.1 p.2.2.2.2.1 p.2.2.2.2.2.1 p.2.2.2.2.2.2.1 p.2.2.2.2.2.2.2.1 p.2.2.2.2.2.2.2.2.1 p.2.2.2.2.2.2.2.2.2 c = some (timeD p c) := by
 unfold f_45 f_103 timeD
 rw [pgchk_at N w]
 simp only [Option.bind_some]
 cases hp : pageB p with
 | false => rfl
 | true =>
  have k := pageB_ok hp
  have kb := k.base
  have kc := k.cap
  have hc2 := hc.2
  simp only [cond_true, Option.isNone_none, Bool.not_true, cond_false, if_true]
  by_cases h1 : c < p.2.1
  ·rw [decide_eq_true h1, if_pos h1]; rfl
  ·rw [decide_eq_false h1, if_neg h1, nsub_at N hc w.base]
   unfold fit64
   rw [rB_t ⟨by omega, by omega⟩]
   simp only [cond_false, cond_true, Option.bind_some, Option.isNone_none, Bool.not_true]
   by_cases h2 : c - p.2.1 > p.2.2.2.2.2.2.2.2.2
   ·rw [decide_eq_true h2, if_pos h2]; rfl
   ·rw [decide_eq_false h2, if_neg h2]
    simp only [cond_false, Option.bind_some, Option.isNone_none, Bool.not_true]
    unfold aheadD
    rw [ahat_at N w k (by omega) (by omega)]
    simp only [Option.bind_some]
    generalize atD p (c - p.2.1) = A
    obtain ⟨a, e⟩ := A
    cases e with
    | some e => rfl
    | none =>
     simp only [Option.isNone_none, Bool.not_true, cond_false]
     rw [ahoff_at N w k (by omega) (by omega)]
     simp only [Option.bind_some]
     generalize plainD p (c - p.2.1) = P
     obtain ⟨b, e⟩ := P
     cases e <;> rfl
theorem age_eq {x rho : Int} (r0 : 0 ≤ rho) (r1 : rho ≤ 2097152) (x0 : 0 ≤ x) (x1 : x < 9223372036854775808) : (-1 - x) * rho / 1073741824 = -upD rho (satI (x + 1)) := by
 unfold upD
 by_cases h : x + 1 < 9223372036854775808
 ·rw [satI_in ⟨by omega, by omega⟩, show -1 - x = -(x + 1) by omega]; omega
 ·have hx : x = 9223372036854775807 := by omega
  subst hx
  rw [show satI (9223372036854775807 + 1) = 9223372036854775807 from rfl]
  omega
theorem bof_at {N : Nat} (hN : 3000 ≤ N) {p : PageT} (w : PageW p) {c : Int} (hc : R64 c) {how : PolT} (hL : how.2.2.2.2.2.2.2.2.2.length ≤ 1000) (r : Int) :
  f_12 N p.1 p.2.1 p.2.2.1 p.2.2.2.1 p.2.2.2.2.1 p.2.2.2.2.2.1 p.2.2.2.2.2.2.1 p.2.2.2.2.2.2.2.1 p.2.2.2.2.2.2.2.2.1 p.2.2.2.2.2.2.2.2.2 c how.1 how.2.1 how.2.2.1 how.2.2.2.1 how.2.2.2.2.1 how.2.2.2.2.2.1 how.2.2.2.2.2.2.1 how.2.2.2.2.2.2.2.1 how.2.2.2.2.2.2.2.2.1 how.2.2.2.2.2.2.2.2.2 r = some (partsD p c how r) := by
 unfold f_12 partsD
 refine (bindP _ _ _ (pchk_at hN _ _ _ _ _ _ _ hL)).trans ?_
 rw [show mayP how.1 how.2.1 how.2.2.1 how.2.2.2.1 how.2.2.2.2.1 how.2.2.2.2.2.1 how.2.2.2.2.2.2.2.1 how.2.2.2.2.2.2.2.2.1 how.2.2.2.2.2.2.2.2.2 = mayPT how from rfl]
 cases hm : mayPT how with
 | false => rfl
 | true =>
  have hq : 1 ≤ how.2.2.2.1 ∧ how.2.2.2.1 ≤ 68719476736 := qmayB_rng (mayP_q hm)
  simp only [cond_true, Option.isNone_none, Bool.not_true, cond_false, if_true]
  by_cases h1 : r < 0
  ·rw [decide_eq_true h1, if_pos h1]; rfl
  ·rw [decide_eq_false h1, if_neg h1]
   simp only [cond_false]
   refine (bindP _ _ _ (ahtime_at N w hc)).trans ?_
   have ht := fun h => timeD_none (p := p) (c := c) h
   generalize timeD p c = T at ht ⊢
   obtain ⟨a, b, e⟩ := T
   cases e with
   | some e => rfl
   | none =>
    obtain ⟨hp, hb, hcap, _, hpl, _⟩ := ht rfl
    have k := pageB_ok hp
    have kb := k.base
    have kc := k.cap
    have ks := facB_ok k.pl
    have hc2 := hc.2
    simp only [Option.isNone_none, Bool.not_true, cond_false]
    rw [wi64 (n := c - p.2.1) (by omega) (by omega)]
    unfold partsV ageD fitD
    have hn : 0 ≤ c - p.2.1 := by omega
    have hn1 : c - p.2.1 ≤ 1125899906842624 := by omega
    generalize c - p.2.1 = n at hn hn1 hpl ⊢
    refine (bindP _ _ _ (scale_at N _ w.pm.1 w.pm.2 ⟨by omega, by omega⟩)).trans ?_
    have hr := plain_R64 hpl
    have hx := scaleD_nn hn hpl
    obtain ⟨q0, q1⟩ := fit_rng (s := p.2.2.2.2.2.2.2.1) hn hn1
    unfold plainD at hpl hr ⊢
    generalize scaleD p.2.2.2.2.2.2.1 p.2.2.2.2.2.2.2.1 n = V at hpl hr hx ⊢
    obtain ⟨x, e⟩ := V
    simp only at hpl hr hx
    subst hpl
    obtain ⟨r0, r1⟩ := hr
    obtain ⟨u0, u1⟩ := upD_rng k.parts.1 k.parts.2 (sat1_nn hx) (satI_rng _).2
    simp only [Option.isNone_none, Bool.not_true, cond_false]
    rw [nsubsat_at N ⟨by decide, by decide⟩ ⟨r0, r1⟩, satI_in (s := -1 - x) ⟨by omega, by omega⟩]
    simp only [Option.bind_some]
    have kp := k.parts
    refine (bindP _ _ _ (mdF_at ⟨by omega, by omega⟩ ⟨by omega, by omega⟩ ⟨by decide, by decide⟩ (by decide))).trans ?_
    rw [age_eq kp.1 kp.2 hx r1, fitP_ok ⟨by omega, by omega⟩]
    simp only [Option.isNone_none, Bool.not_true, cond_false]
    generalize upD p.2.2.2.2.2.2.2.2.1 (satI (x + 1)) = u at u0 u1 ⊢
    rw [nsubsat_at N ⟨by decide, by decide⟩ ⟨by omega, by omega⟩, satI_in (s := 0 - -u) ⟨by omega, by omega⟩, show (0 : Int) - -u = u by omega]
    simp only [Option.bind_some]
    rw [decide_eq_false (show ¬ p.2.2.2.2.2.2.2.1 < 0 by omega), min_bits ks.2.2, wi64 (n := n / 2 ^ (p.2.2.2.2.2.2.2.1).toNat + 4) (by omega) (by omega), wi64 (n := how.2.2.2.1 - 1) (by omega) (by omega)]
    simp only [cond_false]
    by_cases h0 : how.1 = 0
    ·rw [show (how.1 == 0) = true by simpa using h0, if_pos h0]; rfl
    ·rw [show (how.1 == 0) = false by simpa using h0, if_neg h0]; rfl
theorem bsum_loop (N : Nat) {l : List Int} (hl : ∀ x ∈ l, R64 x) (hlen : l.length ≤ 1000000) : ∀ (k M i : Nat) (a : Int), i + k = l.length → k < M → R64 a → iter (b_69_0 N) M (a, l, (l.length : Int), (i : Int)) = some ((l.drop i).foldl (fun a x => satI (a + x)) a) := by
 intro k
 induction k with
 | zero =>
  intro M i a hi hM ha
  obtain ⟨M, rfl⟩ : ∃ m, M = m + 1 := ⟨M - 1, by omega⟩
  show b_69_0 N (iter (b_69_0 N) M) _ = _
  generalize iter (b_69_0 N) M = T
  unfold b_69_0
  simp only
  rw [decide_eq_false (show ¬ (i : Int) < (l.length : Int) by omega), List.drop_eq_nil_of_le (by omega)]; rfl
 | succ k ih =>
  intro M i a hi hM ha
  obtain ⟨M, rfl⟩ : ∃ m, M = m + 1 := ⟨M - 1, by omega⟩
  have key := fun a ha => ih M (i + 1) a (by omega) (by omega) ha
  show b_69_0 N (iter (b_69_0 N) M) _ = _
  generalize iter (b_69_0 N) M = T at key ⊢
  have h1 : i < l.length := by omega
  have g1 : l.getD (Int.toNat (i : Int)) 0 = l[i] := by rw [Int.toNat_natCast, List.getD_eq_getElem?_getD, List.getElem?_eq_getElem h1]; rfl
  unfold b_69_0
  simp only
  rw [decide_eq_true (show (i : Int) < (l.length : Int) by omega), decide_eq_true (show 0 ≤ (i : Int) ∧ (i : Int) < (l.length : Int) by omega), g1, wi64 (n := (i : Int) + 1) (by omega) (by omega), show (i : Int) + 1 = ((i + 1 : Nat) : Int) by omega]
  simp only [cond_true]
  rw [naddsat_at N ha (hl _ (List.getElem_mem h1))]
  simp only [Option.bind_some]
  rw [key _ (satI_rng _), List.drop_eq_getElem_cons h1]; rfl
theorem bsum_at {N : Nat} {l : List Int} (hl : ∀ x ∈ l, R64 x) (hlen : l.length ≤ 1000000) (hN : l.length < N) : f_69 N l = some (sumL l) := by
 unfold f_69 l_69_0
 refine (bindP _ _ _ (bsum_loop N hl hlen l.length N 0 0 (by omega) hN ⟨by decide, by decide⟩)).trans rfl
structure PartsR (v : PartsT) : Prop where
 a : R64 (v.1)
 b : R64 (v.2.1)
 c : R64 (v.2.2.1)
 d : R64 (v.2.2.2.1)
 e : R64 (v.2.2.2.2.1)
 f : R64 (v.2.2.2.2.2.1)
 g : R64 (v.2.2.2.2.2.2)
theorem PartsR.all {v : PartsT} (h : PartsR v) : ∀ x ∈ [v.1, v.2.1, v.2.2.1, v.2.2.2.1, v.2.2.2.2.1, v.2.2.2.2.2.1, v.2.2.2.2.2.2], R64 x := by
 simp only [List.mem_cons, List.not_mem_nil, or_false]
 rintro x (rfl | rfl | rfl | rfl | rfl | rfl | rfl)
 ·exact h.a
 ·exact h.b
 ·exact h.c
 ·exact h.d
 ·exact h.e
 ·exact h.f
 ·exact h.g
theorem bsump_at {N : Nat} (hN : 3000 ≤ N) {v : PartsT} (h : PartsR v) : f_18 N v.1 v.2.1 v.2.2.1 v.2.2.2.1 v.2.2.2.2.1 v.2.2.2.2.2.1 v.2.2.2.2.2.2 = some (sumP v) := by
 unfold f_18
 exact (bindP _ _ _ (bsum_at h.all (by simp) (by simp; omega))).trans rfl
theorem parts0_R : PartsR parts0 := ⟨⟨by decide, by decide⟩, ⟨by decide, by decide⟩, ⟨by decide, by decide⟩, ⟨by decide, by decide⟩, ⟨by decide, by decide⟩, ⟨by decide, by decide⟩, ⟨by decide, by decide⟩⟩
theorem partsD_R {p : PageT} {c : Int} {how : PolT} {r : Int} (hr : R64 r) : PartsR (partsD p c how r).1 := by
 cases h : (partsD p c how r).2 with
 | some e =>
  have : (partsD p c how r).1 = parts0 := by
   unfold partsD at h ⊢
   by_cases h1 : mayPT how = true
   ·rw [if_pos h1] at h ⊢
    by_cases h2 : r < 0
    ·rw [if_pos h2]
    ·rw [if_neg h2] at h ⊢
     generalize timeD p c = T at h ⊢
     obtain ⟨a, b, e⟩ := T
     cases e with
     | some e => rfl
     | none => cases h
   ·rw [if_neg h1]
  rw [this]; exact parts0_R
 | none =>
  obtain ⟨hm, _, ht, e⟩ := partsD_none h
  obtain ⟨hp, hb, hc, _, hpl, _⟩ := timeD_none ht
  have k := pageB_ok hp
  have kc := k.cap
  have ke := k.err
  have ha := ageD_rng k (by omega) hpl
  obtain ⟨q0, q1⟩ := fit_rng (s := p.2.2.2.2.2.2.2.1) (n := c - p.2.1) (by omega) (by omega)
  have hq : 1 ≤ how.2.2.2.1 ∧ how.2.2.2.1 ≤ 68719476736 := qmayB_rng (mayP_q hm)
  have hu := umayB_rng (show umayB how.2.2.2.2.1 how.2.2.2.2.2.1 = true by simp only [mayPT, mayP, Bool.and_eq_true] at hm; exact hm.2.2.1)
  rw [e]
  refine ⟨⟨by simp only [partsV]; omega, by simp only [partsV]; omega⟩, ⟨by simp only [partsV]; omega, by simp only [partsV]; omega⟩, ⟨by simp only [partsV, fitD]; omega, by simp only [partsV, fitD]; omega⟩, ⟨by simp only [partsV]; omega, by simp only [partsV]; omega⟩, ⟨by simp only [partsV]; omega, by simp only [partsV]; omega⟩, ?_, hr⟩
  simp only [partsV]
  split <;> exact ⟨by decide, by decide⟩
def toldB (p : PageT) (c : Int) (how : PolT) (bound raised host : Int) : Bool := Option.isNone (partsD p c how raised).2 && (sumP (partsD p c how raised).1 == bound && sumL [(partsD p c how raised).1.1, (partsD p c how raised).1.2.1, (partsD p c how raised).1.2.2.1] == host)
theorem btold_at {N : Nat} (hN : 3000 ≤ N) {p : PageT} (w : PageW p) {c : Int} (hc : R64 c) {how : PolT} (hL : how.2.2.2.2.2.2.2.2.2.length ≤ 1000) {raised : Int} (hr : R64 raised) (v bound host : Int) :
  f_19 N p.1 p.2.1 p.2.2.1 p.2.2.2.1 p.2.2.2.2.1 p.2.2.2.2.2.1 p.2.2.2.2.2.2.1 p.2.2.2.2.2.2.2.1 p.2.2.2.2.2.2.2.2.1 p.2.2.2.2.2.2.2.2.2 c how.1 how.2.1 how.2.2.1 how.2.2.2.1 how.2.2.2.2.1 how.2.2.2.2.2.1 how.2.2.2.2.2.2.1 how.2.2.2.2.2.2.2.1 how.2.2.2.2.2.2.2.2.1 how.2.2.2.2.2.2.2.2.2 v bound raised host = some (toldB p c how bound raised host) := by
 unfold f_19 toldB
 refine (bindP _ _ _ (bof_at hN w hc hL raised)).trans ?_
 have hR := partsD_R (p := p) (c := c) (how := how) hr
 generalize partsD p c how raised = V at hR ⊢
 obtain ⟨v, e⟩ := V
 cases e with
 | some e => rfl
 | none =>
  simp only [Option.isNone_none, cond_true, Bool.true_and] at hR ⊢
  refine (bindP _ _ _ (bsump_at hN hR)).trans ?_
  cases hs : (sumP v == bound) with
  | false => rfl
  | true =>
   simp only [cond_true, Bool.true_and]
   refine (bindP _ _ _ (bsum_at (N := N) (fun x hx => ?_) (by simp) (by simp; omega))).trans rfl
   simp only [List.mem_cons, List.not_mem_nil, or_false] at hx
   rcases hx with rfl | rfl | rfl
   ·exact hR.a
   ·exact hR.b
   ·exact hR.c
end Go.Proofs.YthpljlpokmoeeaaGreatDoor.Mir
namespace Go.Proofs.YthpljlpokmoeeaaGreatDoor.Mir
open Go Go.RowKit
set_option maxRecDepth 100000
theorem rrmay_at (m s : Int) (k : Nat) : f_123 k m s = some (facB m s) := by
 unfold f_123 facB
 generalize decide (m > 0) = a
 generalize decide (s ≥ 0) = b
 cases a <;> cases b <;> rfl
theorem rmsF_at {a m s : Int} (ha : R64 a) (h0 : 0 ≤ m) (h1 : m < 4294967296) (hs : R64 s) : rmsF a m s = some ((msP a m s).1, errN (msP a m s).2) := by
 unfold rmsF
 rw [i64B_iff.2 ha, u32B_iff.2 ⟨h0, h1⟩, i64B_iff.2 hs]
 show some (rP (msP a m s)) = _
 unfold rP
 generalize msP a m s = V
 obtain ⟨x, e⟩ := V
 cases e <;> rfl
theorem rscale_at (N : Nat) {m n s : Int} (hm : 0 ≤ m) (hm2 : m < 4294967296) (hs : R64 s) (hn : R64 n) : f_55 N m s n = some ((scaleD m s n).1, errN (scaleD m s n).2) := by
 unfold f_55 scaleD
 refine (bindP _ _ _ (rrmay_at m s N)).trans ?_
 cases facB m s with
 | false => rfl
 | true =>
  simp only [cond_true, Bool.not_true, cond_false]
  exact (bindP _ _ _ (rmsF_at hn hm hm2 hs)).trans rfl
theorem half_step (n : Int) (k : Nat) : n / 2 / 2 ^ k = n / 2 ^ (k + 1) := by
 rw [Int.ediv_ediv_of_nonneg (by decide), Int.pow_succ, Int.mul_comm]
theorem tdivH {n : Int} (h0 : 0 ≤ n) (h1 : n ≤ 9223372036854775807) : IntKind.i64.wrap (Int.tdiv n 2) = n / 2 := by
 rw [Int.tdiv_eq_ediv_of_nonneg h0, wi64 (by omega) (by omega)]
theorem rroff_loop (N : Nat) (m : Int) {s : Nat} (hs : s ≤ 31) : ∀ (k M i : Nat) (n : Int), i + k = s → k < M → 0 ≤ n → n ≤ 9223372036854775807 → iter (b_122_0 N) M (n, (), (i : Int), (m, (s : Int))) = some (n / 2 ^ k) := by
 intro k
 induction k with
 | zero =>
  intro M i n hi hM h0 h1
  obtain ⟨M, rfl⟩ : ∃ m, M = m + 1 := ⟨M - 1, by omega⟩
  show b_122_0 N (iter (b_122_0 N) M) _ = _
  generalize iter (b_122_0 N) M = T
  unfold b_122_0
  simp only
  rw [decide_eq_false (show ¬ (i : Int) < (s : Int) by omega), Int.pow_zero, Int.ediv_one]; rfl
 | succ k ih =>
  intro M i n hi hM h0 h1
  obtain ⟨M, rfl⟩ : ∃ m, M = m + 1 := ⟨M - 1, by omega⟩
  have key := fun n h0 h1 => ih M (i + 1) n (by omega) (by omega) h0 h1
  show b_122_0 N (iter (b_122_0 N) M) _ = _
  generalize iter (b_122_0 N) M = T at key ⊢
  unfold b_122_0
  simp only
  rw [decide_eq_true (show (i : Int) < (s : Int) by omega), tdivH h0 h1, wi64 (n := (i : Int) + 1) (by omega) (by omega), show (i : Int) + 1 = ((i + 1 : Nat) : Int) by omega, cond_true, key _ (by omega) (by omega), half_step]
theorem rroff_at {N : Nat} (hN : 3000 ≤ N) {m s n : Int} (hf : facB m s = true) (h0 : 0 ≤ n) (h1 : n ≤ 1125899906842624) : f_122 N m s n = some (n / 2 ^ s.toNat + 2, 0) := by
 have hs := facB_ok hf
 obtain ⟨q0, q1⟩ := fit_rng (s := s) h0 h1
 unfold f_122 l_122_0
 refine (bindP _ _ _ (rrmay_at m s N)).trans ?_
 rw [hf, decide_eq_false (show ¬ n < 0 by omega)]
 simp only [Bool.not_true, cond_false]
 have hl := rroff_loop N m (s := s.toNat) (by omega) s.toNat N 0 n (by omega) (by omega) h0 (by omega)
 rw [show ((s.toNat : Nat) : Int) = s by omega] at hl
 refine (bindP _ _ _ hl).trans ?_
 rw [decide_eq_false (show ¬ n / 2 ^ s.toNat > 9223372036854775805 by omega), wi64 (n := n / 2 ^ s.toNat + 2) (by omega) (by omega)]; rfl
theorem eB_snd {v : Int} (h : 0 ≤ v) : (eB v).2 = dl v := by
 show dl (absZ v) = dl v
 rw [show absZ v = v by unfold absZ; rw [if_neg (by omega)]]
structure Dig (rho g : Int) : Prop where
 a : rIntF rho = some (eB rho)
 b : rIntF g = some (eB g)
 c : rMulF (eB rho, eB g) = some (eB (rho * g))
 d : rPowF 30 = some (eB 1073741824)
 e : rDivF (eB (rho * g), eB 1073741824) = some (eB (rho * g / 1073741824), eB (rho * g % 1073741824))
 f : numbF (eB (rho * g / 1073741824)) = some (rho * g / 1073741824, true)
 z : zeroF (eB (rho * g % 1073741824)).2 = some (decide (rho * g % 1073741824 = 0))
 q : 0 ≤ rho * g / 1073741824 ∧ rho * g / 1073741824 ≤ 18014398509481984
theorem dig_of {rho g : Int} (r0 : 0 ≤ rho) (r1 : rho ≤ 2097152) (g0 : 0 ≤ g) (g1 : g < 9223372036854775808) : Dig rho g := by
 have h1 : 0 ≤ rho * g := Int.mul_nonneg r0 g0
 have h2 : rho * g ≤ 2097152 * g := Int.mul_le_mul_of_nonneg_right r1 g0
 have c1 := rIntF_at (a := rho) ⟨by omega, by omega⟩
 have c2 := rIntF_at (a := g) ⟨by omega, by omega⟩
 have c3 := rMulF_at (a := rho) (b := g) ⟨by omega, by omega⟩ ⟨by omega, by omega⟩
 have c5 := rDivF_at (a := rho * g) (b := 1073741824) ⟨by omega, by omega⟩ (by decide) (by decide)
 have c6 := numbF_at (v := (rho * g) / 1073741824) ⟨by omega, by omega⟩
 have c7 := zeroF_at (m := (rho * g) % 1073741824) (by omega) (by omega)
 unfold numD at c6
 rw [if_pos (show in64 ((rho * g) / 1073741824) from ⟨by omega, by omega⟩)] at c6
 rw [← eB_snd (show 0 ≤ (rho * g) % 1073741824 by omega)] at c7
 exact ⟨c1, c2, c3, rPowF_at (n := 30) (by decide), c5, c6, c7, by omega, by omega⟩
theorem upD_more (rho g : Int) : upD rho g = if rho * g % 1073741824 = 0 then rho * g / 1073741824 else rho * g / 1073741824 + 1 := by
 unfold upD
 rw [Int.neg_mul, Int.mul_comm g rho]
 split <;> omega
theorem rmore_at (N : Nat) {rho g : Int} (r0 : 0 ≤ rho) (r1 : rho ≤ 2097152) (g0 : 0 ≤ g) (g1 : g < 9223372036854775808) : f_175 N rho g = some (upD rho g) := by
 have D := dig_of r0 r1 g0 g1
 have hq := D.q
 unfold f_175
 refine (bindP _ _ _ D.a).trans ?_
 refine (bindP _ _ _ D.b).trans ?_
 refine (bindP _ _ _ D.c).trans ?_
 refine (bindP _ _ _ D.d).trans ?_
 refine (bindP _ _ _ D.e).trans ?_
 refine (bindP _ _ _ D.f).trans ?_
 simp only [Bool.not_true, cond_false]
 refine (bindP _ _ _ D.z).trans ?_
 rw [upD_more]
 by_cases h : rho * g % 1073741824 = 0
 ·rw [decide_eq_true h, if_pos h]; rfl
 ·rw [decide_eq_false h, if_neg h, wi64 (n := rho * g / 1073741824 + 1) (by omega) (by omega)]; rfl
theorem rgrow_at (N : Nat) {e rho g : Int} (e0 : 0 ≤ e) (e1 : R64 e) (r0 : 0 ≤ rho) (r1 : rho ≤ 2097152) (g0 : 0 ≤ g) (g1 : R64 g) : f_121 N e rho g = some (satI (e + upD rho g), 0) := by
 obtain ⟨u0, u1⟩ := upD_rng r0 r1 g0 g1.2
 unfold f_121
 rw [decide_eq_false (show ¬ e < 0 by omega), decide_eq_false (show ¬ rho < 0 by omega), decide_eq_false (show ¬ rho > 2097152 by omega), decide_eq_false (show ¬ g < 0 by omega)]
 simp only [cond_false]
 refine (bindP _ _ _ (rmore_at N r0 r1 g0 g1.2)).trans ?_
 refine (bindP _ _ _ (rnsum_at N e1 ⟨by omega, by omega⟩)).trans ?_
 exact (bindP _ _ _ (rnbnd_of N (s := e + upD rho g) rfl)).trans rfl
theorem d_lt (a b : Int) : decide (a < b) = !decide (b ≤ a) := by
 by_cases h : a < b
 ·rw [decide_eq_true h, decide_eq_false (show ¬ b ≤ a by omega)]; rfl
 ·rw [decide_eq_false h, decide_eq_true (show b ≤ a by omega)]; rfl
theorem d_gt (a b : Int) : decide (a > b) = !decide (a ≤ b) := d_lt b a
theorem d_le (a b : Int) : decide (a ≤ b) = !decide (b < a) := by rw [d_lt b a, Bool.not_not]
theorem d_ge (a b : Int) : decide (a ≥ b) = !decide (a < b) := d_le b a
theorem rpgmay_at (N : Nat) (p : PageT) : f_66 N p.1 p.2.1 p.2.2.1 p.2.2.2.1 p.2.2.2.2.1 p.2.2.2.2.2.1 p.2.2.2.2.2.2.1 p.2.2.2.2.2.2.2.1 p.2.2.2.2.2.2.2.2.1 p.2.2.2.2.2.2.2.2.2 = some (pageB p) := by
 unfold f_66 pageB
 rw [rrmay_at, rrmay_at, d_lt p.1 0, d_gt p.1 1099511627776, d_lt p.2.1 0, d_gt p.2.1 1152921504606846976, d_le p.2.2.1 (-4611686018427387904), d_ge p.2.2.1 4611686018427387904, d_lt p.2.2.2.1 0, d_gt p.2.2.2.1 2305843009213693952, d_lt p.2.2.2.2.2.2.2.2.1 0, d_gt p.2.2.2.2.2.2.2.2.1 2097152, d_lt p.2.2.2.2.2.2.2.2.2 1, d_gt p.2.2.2.2.2.2.2.2.2 1125899906842624]
 simp only [Option.bind_some]
 generalize decide (0 ≤ p.1) = a1
 generalize decide (p.1 ≤ 1099511627776) = a2
 generalize decide (0 ≤ p.2.1) = a3
 generalize decide (p.2.1 ≤ 1152921504606846976) = a4
 generalize decide (-4611686018427387904 < p.2.2.1) = a5
 generalize decide (p.2.2.1 < 4611686018427387904) = a6
 generalize decide (0 ≤ p.2.2.2.1) = a7
 generalize decide (p.2.2.2.1 ≤ 2305843009213693952) = a8
 generalize decide (0 ≤ p.2.2.2.2.2.2.2.2.1) = a9
 generalize decide (p.2.2.2.2.2.2.2.2.1 ≤ 2097152) = b1
 generalize decide (1 ≤ p.2.2.2.2.2.2.2.2.2) = b2
 generalize decide (p.2.2.2.2.2.2.2.2.2 ≤ 1125899906842624) = b3
 generalize facB p.2.2.2.2.1 p.2.2.2.2.2.1 = b4
 generalize facB p.2.2.2.2.2.2.1 p.2.2.2.2.2.2.2.1 = b5
 cases a1; rfl
 cases a2; rfl
 cases a3; rfl
 cases a4; rfl
 cases a5; rfl
 cases a6; rfl
 cases a7; rfl
 cases a8; rfl
 cases a9; rfl
 cases b1; rfl
 cases b2; rfl
 cases b3; rfl
 cases b4 <;> cases b5 <;> rfl
theorem atD_ne {p : PageT} {n e : Int} (h : (atD p n).2 = some e) : e ≠ 0 := by
 unfold atD at h
 have hs := fun e h => (scaleD_err (m := p.2.2.2.2.1) (s := p.2.2.2.2.2.1) (n := n) (e := e) h).1
 generalize scaleD p.2.2.2.2.1 p.2.2.2.2.2.1 n = V at h hs
 obtain ⟨x, f⟩ := V
 cases f with
 | some f => cases h; exact hs _ rfl
 | none =>
  simp only at h
  split at h
  ·cases h; decide
  ·cases h
theorem timeD_ne {p : PageT} {c e : Int} (h : (timeD p c).2.2 = some e) : e ≠ 0 := by
 unfold timeD at h
 split at h
 ·split at h
  ·cases h; decide
  ·split at h
   ·cases h; decide
   ·unfold aheadD at h
    have ha := fun e h => atD_ne (p := p) (n := c - p.2.1) (e := e) h
    have hs := fun e h => (scaleD_err (m := p.2.2.2.2.2.2.1) (s := p.2.2.2.2.2.2.2.1) (n := c - p.2.1) (e := e) h).1
    unfold plainD at h
    generalize atD p (c - p.2.1) = A at h ha
    generalize scaleD p.2.2.2.2.2.2.1 p.2.2.2.2.2.2.2.1 (c - p.2.1) = V at h hs
    obtain ⟨a, f⟩ := A
    obtain ⟨b, g⟩ := V
    cases f with
    | some f => cases h; exact ha _ rfl
    | none =>
     cases g with
     | some g => cases h; exact hs _ rfl
     | none => cases h
 ·cases h; decide
theorem partsD_ne {p : PageT} {c : Int} {how : PolT} {r e : Int} (h : (partsD p c how r).2 = some e) : e ≠ 0 := by
 unfold partsD at h
 split at h
 ·split at h
  ·cases h; decide
  ·have ht := fun e h => timeD_ne (p := p) (c := c) (e := e) h
   generalize timeD p c = T at h ht
   obtain ⟨a, b, f⟩ := T
   cases f with
   | some f => cases h; exact ht _ rfl
   | none => cases h
 ·cases h; decide
theorem ne0 {e : Int} (h : e ≠ 0) : (e != 0) = true := by simpa using h
theorem rahat_at (N : Nat) {p : PageT} (w : PageW p) (k : PageOk p) {n : Int} (h0 : 0 ≤ n) (h1 : n ≤ 1125899906842624) : f_120 N p.1 p.2.1 p.2.2.1 p.2.2.2.1 p.2.2.2.2.1 p.2.2.2.2.2.1 p.2.2.2.2.2.2.1 p.2.2.2.2.2.2.2.1 p.2.2.2.2.2.2.2.2.1 p.2.2.2.2.2.2.2.2.2 n = some ((atD p n).1, errN (atD p n).2) := by
 unfold f_120 atD
 refine (bindP _ _ _ (rscale_at N w.gm.1 w.gm.2 w.gs ⟨by omega, by omega⟩)).trans ?_
 have hr := fun h => (scaleD_none (m := p.2.2.2.2.1) (s := p.2.2.2.2.2.1) (n := n) h).2.2
 have hn := fun h => scaleD_nn (m := p.2.2.2.2.1) (s := p.2.2.2.2.2.1) h0 h
 have he := fun e h => (scaleD_err (m := p.2.2.2.2.1) (s := p.2.2.2.2.2.1) (n := n) (e := e) h).1
 generalize scaleD p.2.2.2.2.1 p.2.2.2.2.2.1 n = V at hr hn he ⊢
 obtain ⟨x, e⟩ := V
 cases e with
 | some e =>
  show (bif e != 0 then _ else _) = _
  rw [ne0 (he e rfl)]; rfl
 | none =>
  have hr := hr rfl
  have hn := hn rfl
  have kt := k.tai
  simp only at hr hn
  show (bif (0 : Int) != 0 then _ else _) = _
  rw [show ((0 : Int) != 0) = false from rfl]
  simp only [cond_false]
  refine (bindP _ _ _ (rnsum_at N ⟨by omega, by omega⟩ hr)).trans ?_
  obtain ⟨r0, r1⟩ := hr
  by_cases h2 : p.2.2.1 + x > 9223372036854775807
  ·rw [if_pos h2, if_pos (show 4611686018427387904 ≤ p.2.2.1 + x by omega)]; rfl
  ·rw [if_neg h2, if_neg (show ¬ p.2.2.1 + x < -9223372036854775808 by omega)]
   show (bif (0 : Int) != 0 then _ else _) = _
   rw [show ((0 : Int) != 0) = false from rfl]
   simp only [cond_false]
   by_cases h : 4611686018427387904 ≤ p.2.2.1 + x
   ·rw [if_pos h, decide_eq_true (show p.2.2.1 + x ≥ 4611686018427387904 from h)]; rfl
   ·rw [if_neg h, decide_eq_false (show ¬ p.2.2.1 + x ≥ 4611686018427387904 from h)]; rfl
theorem rahtime_at {N : Nat} (hN : 3000 ≤ N) {p : PageT} (w : PageW p) {c : Int} (hc : R64 c) : f_54 N p.1 p.2.1 p.2.2.1 p.2.2.2.1 p.2.2.2.2.1 p.2.2.2.2.2.1 p.2.2.2.2.2.2.1 p.2.2.2.2.2.2.2.1 p.2.2.2.2.2.2.2.2.1 p.2.2.2.2.2.2.2.2.2 c = some ((timeD p c).1, (timeD p c).2.1, errN (timeD p c).2.2) := by
 unfold f_54 timeD
 refine (bindP _ _ _ (rpgmay_at N p)).trans ?_
 cases hp : pageB p with
 | false => rfl
 | true =>
  have k := pageB_ok hp
  have kb := k.base
  have kc := k.cap
  have ke := k.err
  have hc2 := hc.2
  simp only [Bool.not_true, cond_false, if_true]
  by_cases h1 : c < p.2.1
  ·rw [decide_eq_true h1, if_pos h1]; rfl
  ·rw [decide_eq_false h1, if_neg h1, wi64 (n := c - p.2.1) (by omega) (by omega)]
   simp only [cond_false]
   by_cases h2 : c - p.2.1 > p.2.2.2.2.2.2.2.2.2
   ·rw [decide_eq_true h2, if_pos h2]; rfl
   ·rw [decide_eq_false h2, if_neg h2]
    simp only [cond_false]
    have hn : 0 ≤ c - p.2.1 := by omega
    have hn1 : c - p.2.1 ≤ 1125899906842624 := by omega
    generalize c - p.2.1 = n at hn hn1
    refine (bindP _ _ _ (rahat_at N w k hn hn1)).trans ?_
    unfold aheadD
    have ha := fun e h => atD_ne (p := p) (n := n) (e := e) h
    generalize atD p n = A at ha ⊢
    obtain ⟨a, e⟩ := A
    cases e with
    | some e =>
     show (bif e != 0 then _ else _) = _
     rw [ne0 (ha e rfl)]; rfl
    | none =>
     show (bif (0 : Int) != 0 then _ else _) = _
     rw [show ((0 : Int) != 0) = false from rfl]
     simp only [cond_false]
     refine (bindP _ _ _ (rscale_at N w.pm.1 w.pm.2 w.ps ⟨by omega, by omega⟩)).trans ?_
     have hr := fun h => plain_R64 (p := p) (n := n) h
     have hx := fun h => scaleD_nn (m := p.2.2.2.2.2.2.1) (s := p.2.2.2.2.2.2.2.1) hn h
     have hs := fun e h => (scaleD_err (m := p.2.2.2.2.2.2.1) (s := p.2.2.2.2.2.2.2.1) (n := n) (e := e) h).1
     have hag := fun h => ageD_rng k hn h
     obtain ⟨q0, q1⟩ := fit_rng (s := p.2.2.2.2.2.2.2.1) hn hn1
     unfold offD ageD fitD
     unfold ageD at hag
     unfold plainD at hr hag ⊢
     generalize scaleD p.2.2.2.2.2.2.1 p.2.2.2.2.2.2.2.1 n = V at hr hx hs hag ⊢
     obtain ⟨x, e⟩ := V
     cases e with
     | some e =>
      show (bif e != 0 then _ else _) = _
      rw [ne0 (hs e rfl)]; rfl
     | none =>
      have hr := hr rfl
      have hx := hx rfl
      have hag := hag rfl
      simp only at hr hx hag
      show (bif (0 : Int) != 0 then _ else _) = _
      rw [show ((0 : Int) != 0) = false from rfl]
      simp only [cond_false]
      refine (bindP _ _ _ (rnsum_at N hr ⟨by decide, by decide⟩)).trans ?_
      refine (bindP _ _ _ (rnbnd_of N (s := x + 1) rfl)).trans ?_
      refine (bindP _ _ _ (rgrow_at N ke.1 ⟨by omega, by omega⟩ k.parts.1 k.parts.2 (sat1_nn hx) (satI_rng _))).trans ?_
      refine (bindP _ _ _ (rroff_at hN k.pl hn hn1)).trans ?_
      rw [wi64 (n := n / 2 ^ (p.2.2.2.2.2.2.2.1).toNat + 2 + 2) (by omega) (by omega), show n / 2 ^ (p.2.2.2.2.2.2.2.1).toNat + 2 + 2 = n / 2 ^ (p.2.2.2.2.2.2.2.1).toNat + 4 by omega]
      refine (bindP _ _ _ (rnsum_at N (satI_rng _) ⟨by omega, by omega⟩)).trans ?_
      exact (bindP _ _ _ (rnbnd_of N (s := satI (p.2.2.2.1 + upD p.2.2.2.2.2.2.2.2.1 (satI (x + 1))) + (n / 2 ^ (p.2.2.2.2.2.2.2.1).toNat + 4)) rfl)).trans rfl
end Go.Proofs.YthpljlpokmoeeaaGreatDoor.Mir
namespace Go.Proofs.YthpljlpokmoeeaaGreatDoor.Mir
open Go Go.RowKit
set_option maxRecDepth 100000
theorem rbof_loop (N : Nat) {p : PageT} {s : Nat} (hs : p.2.2.2.2.2.2.2.1 = (s : Int)) (hs1 : s ≤ 31) (how : PolT) (z o : PartsT) : ∀ (k M i : Nat) (n : Int), i + k = s → k < M → 0 ≤ n → n ≤ 9223372036854775807 →
  iter (b_13_0 N) M ((), (), (), n, (), (i : Int), p, how, z, o) = some ((), (), n / 2 ^ k, (), how, z, o) := by
 obtain ⟨p1, p2, p3, p4, p5, p6, p7, p8, p9, p10⟩ := p
 obtain ⟨h1, h2, h3, h4, h5, h6, h7, h8, h9, h10⟩ := how
 obtain ⟨z1, z2, z3, z4, z5, z6, z7⟩ := z
 obtain ⟨o1, o2, o3, o4, o5, o6, o7⟩ := o
 simp only at hs
 subst hs
 intro k
 induction k with
 | zero =>
  intro M i n hi hM h0 h1
  obtain ⟨M, rfl⟩ : ∃ m, M = m + 1 := ⟨M - 1, by omega⟩
  show b_13_0 N (iter (b_13_0 N) M) _ = _
  generalize iter (b_13_0 N) M = T
  unfold b_13_0
  simp only
  rw [decide_eq_false (show ¬ (i : Int) < (s : Int) by omega), Int.pow_zero, Int.ediv_one]; rfl
 | succ k ih =>
  intro M i n hi hM h0 h1
  obtain ⟨M, rfl⟩ : ∃ m, M = m + 1 := ⟨M - 1, by omega⟩
  have key := fun n h0 h1 => ih M (i + 1) n (by omega) (by omega) h0 h1
  show b_13_0 N (iter (b_13_0 N) M) _ = _
  generalize iter (b_13_0 N) M = T at key ⊢
  unfold b_13_0
  simp only
  rw [decide_eq_true (show (i : Int) < (s : Int) by omega), tdivH h0 h1, wi64 (n := (i : Int) + 1) (by omega) (by omega), show (i : Int) + 1 = ((i + 1 : Nat) : Int) by omega, cond_true, key _ (by omega) (by omega), half_step]
theorem rbof_at {N : Nat} (hN : 3000 ≤ N) {p : PageT} (w : PageW p) {c : Int} (hc : R64 c) {how : PolT} (hL : how.2.2.2.2.2.2.2.2.2.length ≤ 1000) (hn : how.2.2.2.2.2.2.2.1.size ≤ 1000) (hs : ∀ i, i < how.2.2.2.2.2.2.2.2.2.length → (gR how.2.2.2.2.2.2.2.2.2 i).2.2.size ≤ 1000) (r : Int) :
  f_13 N p.1 p.2.1 p.2.2.1 p.2.2.2.1 p.2.2.2.2.1 p.2.2.2.2.2.1 p.2.2.2.2.2.2.1 p.2.2.2.2.2.2.2.1 p.2.2.2.2.2.2.2.2.1 p.2.2.2.2.2.2.2.2.2 c how.1 how.2.1 how.2.2.1 how.2.2.2.1 how.2.2.2.2.1 how.2.2.2.2.2.1 how.2.2.2.2.2.2.1 how.2.2.2.2.2.2.2.1 how.2.2.2.2.2.2.2.2.1 how.2.2.2.2.2.2.2.2.2 r = some ((partsD p c how r).1, errN (partsD p c how r).2) := by
 unfold f_13 l_13_0 partsD
 refine (bindP _ _ _ (rpmay_at hN _ _ _ _ _ _ _ hL hn hs)).trans ?_
 rw [show mayP how.1 how.2.1 how.2.2.1 how.2.2.2.1 how.2.2.2.2.1 how.2.2.2.2.2.1 how.2.2.2.2.2.2.2.1 how.2.2.2.2.2.2.2.2.1 how.2.2.2.2.2.2.2.2.2 = mayPT how from rfl]
 cases hm : mayPT how with
 | false => rfl
 | true =>
  have hq : 1 ≤ how.2.2.2.1 ∧ how.2.2.2.1 ≤ 68719476736 := qmayB_rng (mayP_q hm)
  simp only [Bool.not_true, cond_false, if_true]
  by_cases h1 : r < 0
  ·rw [decide_eq_true h1, if_pos h1]; rfl
  ·rw [decide_eq_false h1, if_neg h1]
   simp only [cond_false]
   refine (bindP _ _ _ (rahtime_at hN w hc)).trans ?_
   have ht := fun h => timeD_none (p := p) (c := c) h
   have hte := fun e h => timeD_ne (p := p) (c := c) (e := e) h
   generalize timeD p c = T at ht hte ⊢
   obtain ⟨a, b, e⟩ := T
   cases e with
   | some e =>
    show (bif e != 0 then _ else _) = _
    rw [ne0 (hte e rfl)]; rfl
   | none =>
    obtain ⟨hp, hb, hcap, _, hpl, _⟩ := ht rfl
    have k := pageB_ok hp
    have kb := k.base
    have kc := k.cap
    have ks := facB_ok k.pl
    have hc2 := hc.2
    show (bif (0 : Int) != 0 then _ else _) = _
    rw [show ((0 : Int) != 0) = false from rfl]
    simp only [cond_false]
    rw [wi64 (n := c - p.2.1) (by omega) (by omega)]
    unfold partsV ageD fitD
    have hn : 0 ≤ c - p.2.1 := by omega
    have hn1 : c - p.2.1 ≤ 1125899906842624 := by omega
    generalize c - p.2.1 = n at hn hn1 hpl ⊢
    refine (bindP _ _ _ (rscale_at N w.pm.1 w.pm.2 w.ps ⟨by omega, by omega⟩)).trans ?_
    have hr := plain_R64 hpl
    have hx := scaleD_nn hn hpl
    obtain ⟨q0, q1⟩ := fit_rng (s := p.2.2.2.2.2.2.2.1) hn hn1
    have hl := rbof_loop N (p := p) (s := (p.2.2.2.2.2.2.2.1).toNat) (by omega) (by omega) how
    unfold plainD at hpl hr ⊢
    generalize scaleD p.2.2.2.2.2.2.1 p.2.2.2.2.2.2.2.1 n = V at hpl hr hx ⊢
    obtain ⟨x, e⟩ := V
    simp only at hpl hr hx
    subst hpl
    have D := dig_of k.parts.1 k.parts.2 (sat1_nn hx) (satI_rng _).2
    have hq := D.q
    refine (bindP _ _ _ (rnsum_at N hr ⟨by decide, by decide⟩)).trans ?_
    refine (bindP _ _ _ D.a).trans ?_
    refine (bindP _ _ _ (rnbnd_of N (s := x + 1) rfl)).trans ?_
    refine (bindP _ _ _ D.b).trans ?_
    refine (bindP _ _ _ D.c).trans ?_
    refine (bindP _ _ _ D.d).trans ?_
    refine (bindP _ _ _ D.e).trans ?_
    refine (bindP _ _ _ D.f).trans ?_
    refine (bindP _ _ _ D.z).trans ?_
    rw [upD_more, wi64 (n := how.2.2.2.1 - 1) (by omega) (by omega)]
    generalize p.2.2.2.2.2.2.2.2.1 * satI (x + 1) / 1073741824 = q at hq ⊢
    have hl := fun z o => hl z o (p.2.2.2.2.2.2.2.1).toNat N 0 n (by omega) (by omega) hn (by omega)
    by_cases h : p.2.2.2.2.2.2.2.2.1 * satI (x + 1) % 1073741824 = 0
    ·rw [decide_eq_true h, if_pos h]
     refine (bindP _ _ _ (hl _ _)).trans ?_
     rw [wi64 (n := n / 2 ^ (p.2.2.2.2.2.2.2.1).toNat + 4) (by omega) (by omega)]
     by_cases h0 : how.1 = 0
     ·rw [show (how.1 == 0) = true by simpa using h0, if_pos h0]; rfl
     ·rw [show (how.1 == 0) = false by simpa using h0, if_neg h0]; rfl
    ·rw [decide_eq_false h, if_neg h, wi64 (n := q + 1) (by omega) (by omega)]
     refine (bindP _ _ _ (hl _ _)).trans ?_
     rw [wi64 (n := n / 2 ^ (p.2.2.2.2.2.2.2.1).toNat + 4) (by omega) (by omega)]
     by_cases h0 : how.1 = 0
     ·rw [show (how.1 == 0) = true by simpa using h0, if_pos h0]; rfl
     ·rw [show (how.1 == 0) = false by simpa using h0, if_neg h0]; rfl
theorem rbsum_loop (N : Nat) {l : List Int} (hl : ∀ x ∈ l, R64 x) (hlen : l.length ≤ 1000000) : ∀ (k M i : Nat) (a : Int), i + k = l.length → k < M → R64 a → iter (b_16_0 N) M (a, l, (i : Int)) = some ((l.drop i).foldl (fun a x => satI (a + x)) a) := by
 intro k
 induction k with
 | zero =>
  intro M i a hi hM ha
  obtain ⟨M, rfl⟩ : ∃ m, M = m + 1 := ⟨M - 1, by omega⟩
  show b_16_0 N (iter (b_16_0 N) M) _ = _
  generalize iter (b_16_0 N) M = T
  unfold b_16_0
  simp only
  rw [decide_eq_false (show ¬ (i : Int) < (l.length : Int) by omega), List.drop_eq_nil_of_le (by omega)]; rfl
 | succ k ih =>
  intro M i a hi hM ha
  obtain ⟨M, rfl⟩ : ∃ m, M = m + 1 := ⟨M - 1, by omega⟩
  have key := fun a ha => ih M (i + 1) a (by omega) (by omega) ha
  show b_16_0 N (iter (b_16_0 N) M) _ = _
  generalize iter (b_16_0 N) M = T at key ⊢
  have h1 : i < l.length := by omega
  have g1 : l.getD (Int.toNat (i : Int)) 0 = l[i] := by rw [Int.toNat_natCast, List.getD_eq_getElem?_getD, List.getElem?_eq_getElem h1]; rfl
  unfold b_16_0
  simp only
  rw [decide_eq_true (show (i : Int) < (l.length : Int) by omega), decide_eq_true (show 0 ≤ (i : Int) ∧ (i : Int) < (l.length : Int) by omega), g1, wi64 (n := (i : Int) + 1) (by omega) (by omega), show (i : Int) + 1 = ((i + 1 : Nat) : Int) by omega]
  simp only [cond_true]
  refine (bindP _ _ _ (rnsum_at N ha (hl _ (List.getElem_mem h1)))).trans ?_
  refine (bindP _ _ _ (rnbnd_of N (s := a + l[i]) rfl)).trans ?_
  rw [key _ (satI_rng _), List.drop_eq_getElem_cons h1]; rfl
theorem rbsum_at {N : Nat} (hN : 3000 ≤ N) {v : PartsT} (h : PartsR v) : f_16 N v.1 v.2.1 v.2.2.1 v.2.2.2.1 v.2.2.2.2.1 v.2.2.2.2.2.1 v.2.2.2.2.2.2 = some (sumP v) := by
 unfold f_16 l_16_0
 exact (bindP _ _ _ (rbsum_loop N h.all (by simp) 7 N 0 0 (by simp) (by omega) ⟨by decide, by decide⟩)).trans rfl
structure HowOk (how : PolT) : Prop where
 l : how.2.2.2.2.2.2.2.2.2.length ≤ 1000
 n : how.2.2.2.2.2.2.2.1.size ≤ 1000
 s : ∀ i, i < how.2.2.2.2.2.2.2.2.2.length → (gR how.2.2.2.2.2.2.2.2.2 i).2.2.size ≤ 1000
theorem rbgood_at {N : Nat} (hN : 3000 ≤ N) {p : PageT} (w : PageW p) (k : PageOk p) {how : PolT} (hh : HowOk how) (limit : Int) {n : Int} (h0 : 0 ≤ n) (h1 : n ≤ 1125899906842625) :
  f_67 N p.1 p.2.1 p.2.2.1 p.2.2.2.1 p.2.2.2.2.1 p.2.2.2.2.2.1 p.2.2.2.2.2.2.1 p.2.2.2.2.2.2.2.1 p.2.2.2.2.2.2.2.2.1 p.2.2.2.2.2.2.2.2.2 n how.1 how.2.1 how.2.2.1 how.2.2.2.1 how.2.2.2.2.1 how.2.2.2.2.2.1 how.2.2.2.2.2.2.1 how.2.2.2.2.2.2.2.1 how.2.2.2.2.2.2.2.2.1 how.2.2.2.2.2.2.2.2.2 limit = some (goodB p how limit n) := by
 have kb := k.base
 unfold f_67 goodB
 rw [wi64 (n := p.2.1 + n) (by omega) (by omega)]
 refine (bindP _ _ _ (rbof_at hN w ⟨by omega, by omega⟩ hh.l hh.n hh.s 0)).trans ?_
 have hR := partsD_R (p := p) (c := p.2.1 + n) (how := how) (r := 0) ⟨by decide, by decide⟩
 have he := fun e h => partsD_ne (p := p) (c := p.2.1 + n) (how := how) (r := 0) (e := e) h
 generalize partsD p (p.2.1 + n) how 0 = V at hR he ⊢
 obtain ⟨v, e⟩ := V
 cases e with
 | some e =>
  show (bif e == 0 then _ else _) = _
  rw [show (e == 0) = false by simpa using he e rfl]; rfl
 | none => exact (bindP _ _ _ (rbsum_at hN hR)).trans rfl
theorem bageP_at {N : Nat} (hN : 3000 ≤ N) {p : PageT} (w : PageW p) (k : PageOk p) {how : PolT} (hh : HowOk how) (limit : Int) {n : Int} (h0 : 0 ≤ n) (h1 : n ≤ 1125899906842625) :
  f_65 N n p.1 p.2.1 p.2.2.1 p.2.2.2.1 p.2.2.2.2.1 p.2.2.2.2.2.1 p.2.2.2.2.2.2.1 p.2.2.2.2.2.2.2.1 p.2.2.2.2.2.2.2.2.1 p.2.2.2.2.2.2.2.2.2 how.1 how.2.1 how.2.2.1 how.2.2.2.1 how.2.2.2.2.1 how.2.2.2.2.2.1 how.2.2.2.2.2.2.1 how.2.2.2.2.2.2.2.1 how.2.2.2.2.2.2.2.2.1 how.2.2.2.2.2.2.2.2.2 limit = some (!goodB p how limit n, p, how, limit) := by
 have kb := k.base
 unfold f_65 goodB
 rw [wi64 (n := p.2.1 + n) (by omega) (by omega)]
 refine (bindP _ _ _ (bof_at hN w ⟨by omega, by omega⟩ hh.l 0)).trans ?_
 have hR := partsD_R (p := p) (c := p.2.1 + n) (how := how) (r := 0) ⟨by decide, by decide⟩
 generalize partsD p (p.2.1 + n) how 0 = V at hR ⊢
 obtain ⟨v, e⟩ := V
 cases e with
 | some e => rfl
 | none =>
  simp only [Option.isNone_none, Bool.not_true, cond_false, Bool.true_and] at hR ⊢
  refine (bindP _ _ _ (bsump_at hN hR)).trans ?_
  rw [d_gt]
theorem search_loop {N : Nat} (hN : 3000 ≤ N) {p : PageT} (w : PageW p) (q : PageOk p) {how : PolT} (hh : HowOk how) (limit : Int) {n : Int} (hn : n ≤ 1125899906842625) : ∀ (k M : Nat) (i j : Int), j - i < 2 ^ k → k < M → 0 ≤ i → i ≤ j → j ≤ n → (i = 0 ∨ goodB p how limit (i - 1) = true) → (j = n ∨ goodB p how limit j = false) →
  ∃ r, 0 ≤ r ∧ (r = 0 ∨ goodB p how limit (r - 1) = true) ∧ (r = n ∨ goodB p how limit r = false) ∧ iter (b_64c65k0_0 N) M (((), (), ()), i, j, p, how, limit) = some (r, p, how, limit) := by
 intro k
 induction k with
 | zero =>
  intro M i j hd hM i0 hij hjn hi hj
  obtain ⟨M, rfl⟩ : ∃ m, M = m + 1 := ⟨M - 1, by omega⟩
  rw [Int.pow_zero] at hd
  refine ⟨i, i0, hi, by rw [show i = j by omega]; exact hj, ?_⟩
  show b_64c65k0_0 N (iter (b_64c65k0_0 N) M) _ = _
  generalize iter (b_64c65k0_0 N) M = T
  obtain ⟨p1, p2, p3, p4, p5, p6, p7, p8, p9, p10⟩ := p
  obtain ⟨h1, h2, h3, h4, h5, h6, h7, h8, h9, h10⟩ := how
  unfold b_64c65k0_0
  simp only
  rw [decide_eq_false (show ¬ i < j by omega)]; rfl
 | succ k ih =>
  intro M i j hd hM i0 hij hjn hi hj
  obtain ⟨M, rfl⟩ : ∃ m, M = m + 1 := ⟨M - 1, by omega⟩
  rw [Int.pow_succ] at hd
  have key := fun i j hd h1 h2 h3 h4 h5 => ih M i j hd (by omega) h1 h2 h3 h4 h5
  have hc := fun h0 h1 => bageP_at hN w q hh limit (n := (i + j) / 2) h0 h1
  generalize (2 : Int) ^ k = P at hd key
  show ∃ r, _ ∧ _ ∧ _ ∧ b_64c65k0_0 N (iter (b_64c65k0_0 N) M) _ = _
  generalize iter (b_64c65k0_0 N) M = T at key ⊢
  by_cases h : i < j
  ·have hm : IntKind.i64.wrap (IntKind.u64.wrap (IntKind.i64.wrap (i + j)) / 2 ^ (min (Int.toNat 1) IntKind.u64.bits)) = (i + j) / 2 := by
    rw [show min (Int.toNat 1) IntKind.u64.bits = 1 from rfl, Int.pow_one, wi64 (n := i + j) (by omega) (by omega), IntKind.wrap_u64, Int.emod_eq_of_lt (by omega) (by omega), wi64 (by omega) (by omega)]
   have hc := hc (by omega) (by omega)
   have hw : IntKind.i64.wrap ((i + j) / 2 + 1) = (i + j) / 2 + 1 := wi64 (by omega) (by omega)
   cases hg : goodB p how limit ((i + j) / 2) with
   | true =>
    rw [hg] at hc
    obtain ⟨r, r0, r1, r2, r3⟩ := key ((i + j) / 2 + 1) j (by omega) (by omega) (by omega) hjn (.inr (by rw [show (i + j) / 2 + 1 - 1 = (i + j) / 2 by omega]; exact hg)) hj
    refine ⟨r, r0, r1, r2, ?_⟩
    obtain ⟨p1, p2, p3, p4, p5, p6, p7, p8, p9, p10⟩ := p
    obtain ⟨h1, h2, h3, h4, h5, h6, h7, h8, h9, h10⟩ := how
    unfold b_64c65k0_0
    simp only
    rw [decide_eq_true h, hm, hw, cond_true]
    exact (bindP _ _ _ hc).trans r3
   | false =>
    rw [hg] at hc
    obtain ⟨r, r0, r1, r2, r3⟩ := key i ((i + j) / 2) (by omega) i0 (by omega) (by omega) hi (.inr hg)
    refine ⟨r, r0, r1, r2, ?_⟩
    obtain ⟨p1, p2, p3, p4, p5, p6, p7, p8, p9, p10⟩ := p
    obtain ⟨h1, h2, h3, h4, h5, h6, h7, h8, h9, h10⟩ := how
    unfold b_64c65k0_0
    simp only
    rw [decide_eq_true h, hm, cond_true]
    exact (bindP _ _ _ hc).trans r3
  ·refine ⟨i, i0, hi, by rw [show i = j by omega]; exact hj, ?_⟩
   obtain ⟨p1, p2, p3, p4, p5, p6, p7, p8, p9, p10⟩ := p
   obtain ⟨h1, h2, h3, h4, h5, h6, h7, h8, h9, h10⟩ := how
   unfold b_64c65k0_0
   simp only
   rw [decide_eq_false h]; rfl
def AgeIs (p : PageT) (how : PolT) (limit : Int) (r : Int × Option Int) : Prop :=
 (pageB p = false ∧ r = (0, some 1)) ∨ (pageB p = true ∧ mayPT how = false ∧ r = (0, some 1)) ∨ (pageB p = true ∧ mayPT how = true ∧ goodB p how limit 0 = false ∧ r = (0, some 13)) ∨ (pageB p = true ∧ mayPT how = true ∧ ∃ n, Last p how limit n ∧ r = (n, none))
theorem AgeIs.bad {p : PageT} {how : PolT} {limit : Int} (h : pageB p = false) : AgeIs p how limit (0, some 1) := .inl ⟨h, rfl⟩
theorem AgeIs.bad2 {p : PageT} {how : PolT} {limit : Int} (h : pageB p = true) (h2 : mayPT how = false) : AgeIs p how limit (0, some 1) := .inr (.inl ⟨h, h2, rfl⟩)
theorem AgeIs.none {p : PageT} {how : PolT} {limit : Int} (h : pageB p = true) (h2 : mayPT how = true) (h3 : goodB p how limit 0 = false) : AgeIs p how limit (0, some 13) := .inr (.inr (.inl ⟨h, h2, h3, rfl⟩))
theorem AgeIs.some {p : PageT} {how : PolT} {limit n : Int} (h : pageB p = true) (h2 : mayPT how = true) (h3 : Last p how limit n) : AgeIs p how limit (n, .none) := .inr (.inr (.inr ⟨h, h2, n, h3, rfl⟩))
theorem goodB_far {p : PageT} {how : PolT} {limit n : Int} (h : p.2.2.2.2.2.2.2.2.2 < n) : goodB p how limit n = false := by
 cases hg : goodB p how limit n with
 | false => rfl
 | true => have := goodB_cap hg; omega
theorem bage_at {N : Nat} (hN : 3000 ≤ N) {p : PageT} (w : PageW p) {how : PolT} (hh : HowOk how) (limit : Int) :
  ∃ r, AgeIs p how limit r ∧ f_14 N p.1 p.2.1 p.2.2.1 p.2.2.2.1 p.2.2.2.2.1 p.2.2.2.2.2.1 p.2.2.2.2.2.2.1 p.2.2.2.2.2.2.2.1 p.2.2.2.2.2.2.2.2.1 p.2.2.2.2.2.2.2.2.2 how.1 how.2.1 how.2.2.1 how.2.2.2.1 how.2.2.2.2.1 how.2.2.2.2.2.1 how.2.2.2.2.2.2.1 how.2.2.2.2.2.2.2.1 how.2.2.2.2.2.2.2.2.1 how.2.2.2.2.2.2.2.2.2 limit = some r := by
 unfold f_14
 rw [pgchk_at N w]
 simp only [Option.bind_some]
 cases hp : pageB p with
 | false => exact ⟨_, AgeIs.bad hp, rfl⟩
 | true =>
  have k := pageB_ok hp
  have kc := k.cap
  simp only [cond_true, Option.isNone_none, Bool.not_true, cond_false]
  rw [pchk_at hN _ _ _ _ _ _ _ hh.l, show mayP how.1 how.2.1 how.2.2.1 how.2.2.2.1 how.2.2.2.2.1 how.2.2.2.2.2.1 how.2.2.2.2.2.2.2.1 how.2.2.2.2.2.2.2.2.1 how.2.2.2.2.2.2.2.2.2 = mayPT how from rfl]
  simp only [Option.bind_some]
  cases hm : mayPT how with
  | false => exact ⟨_, AgeIs.bad2 hp hm, rfl⟩
  | true =>
   simp only [cond_true, Option.isNone_none, Bool.not_true, cond_false]
   rw [wi64 (n := p.2.2.2.2.2.2.2.2.2 + 1) (by omega) (by omega)]
   obtain ⟨r, r0, r1, r2, r3⟩ := search_loop hN w k hh limit (n := p.2.2.2.2.2.2.2.2.2 + 1) (by omega) 51 N 0 (p.2.2.2.2.2.2.2.2.2 + 1) (by rw [show (2 : Int) ^ 51 = 2251799813685248 from rfl]; omega) (by omega) (by omega) (by omega) (by omega) (.inl rfl) (.inl rfl)
   have hs : f_64c65k0 N (p.2.2.2.2.2.2.2.2.2 + 1) p.1 p.2.1 p.2.2.1 p.2.2.2.1 p.2.2.2.2.1 p.2.2.2.2.2.1 p.2.2.2.2.2.2.1 p.2.2.2.2.2.2.2.1 p.2.2.2.2.2.2.2.2.1 p.2.2.2.2.2.2.2.2.2 how.1 how.2.1 how.2.2.1 how.2.2.2.1 how.2.2.2.2.1 how.2.2.2.2.2.1 how.2.2.2.2.2.2.1 how.2.2.2.2.2.2.2.1 how.2.2.2.2.2.2.2.2.1 how.2.2.2.2.2.2.2.2.2 limit = some (r, p, how, limit) := by
    unfold f_64c65k0 l_64c65k0_0
    exact (bindP _ _ _ r3).trans rfl
   rw [hs]
   simp only [Option.bind_some]
   by_cases h : r = 0
   ·subst h
    refine ⟨(0, some 13), AgeIs.none hp hm ?_, rfl⟩
    rcases r2 with h | h
    ·omega
    ·exact h
   ·rw [show (r == 0) = false by simpa using h]
    have hg : goodB p how limit (r - 1) = true := by rcases r1 with h' | h'; exact absurd h' h; exact h'
    have hcap := goodB_cap hg
    refine ⟨(r - 1, none), AgeIs.some hp hm ⟨by omega, hg, ?_⟩, ?_⟩
    ·rw [show r - 1 + 1 = r by omega]
     rcases r2 with h' | h'
     ·exact goodB_far (by omega)
     ·exact h'
    ·rw [wi64 (n := r - 1) (by omega) (by omega)]; rfl
def bitK : Nat → Int
 | 0 => 0
 | k + 1 => 2 ^ k
theorem bitK_half (k : Nat) (hk : k ≤ 50) : IntKind.i64.wrap (Int.tdiv (bitK (k + 1)) 2) = bitK k := by
 have h : ∀ k : Fin 51, IntKind.i64.wrap (Int.tdiv (bitK (k.val + 1)) 2) = bitK k.val := by decide +kernel
 exact h ⟨k, by omega⟩
theorem pow_le50 (k : Nat) (hk : k ≤ 50) : (2 : Int) ^ k ≤ 1125899906842624 := by
 have h : ∀ k : Fin 51, (2 : Int) ^ k.val ≤ 1125899906842624 := by decide +kernel
 exact h ⟨k, by omega⟩
theorem rbage_loop {N : Nat} (hN : 3000 ≤ N) {p : PageT} (w : PageW p) (q : PageOk p) {how : PolT} (hh : HowOk how) (limit : Int) : ∀ (k M : Nat) (n : Int), k ≤ 51 → k < M → 0 ≤ n → goodB p how limit n = true → (∀ m, goodB p how limit m = true → m < n + 2 ^ k) →
  ∃ r, Last p how limit r ∧ iter (b_15_0 N) M (limit, (), (), n, bitK k, p, how) = some r := by
 intro k
 induction k with
 | zero =>
  intro M n hk hM n0 hg hm
  obtain ⟨M, rfl⟩ : ∃ m, M = m + 1 := ⟨M - 1, by omega⟩
  refine ⟨n, ⟨n0, hg, ?_⟩, ?_⟩
  ·cases h : goodB p how limit (n + 1) with
   | false => rfl
   | true => have := hm _ h; rw [Int.pow_zero] at this; omega
  ·show b_15_0 N (iter (b_15_0 N) M) _ = _
   generalize iter (b_15_0 N) M = T
   obtain ⟨p1, p2, p3, p4, p5, p6, p7, p8, p9, p10⟩ := p
   obtain ⟨h1, h2, h3, h4, h5, h6, h7, h8, h9, h10⟩ := how
   unfold b_15_0 bitK
   rfl
 | succ k ih =>
  intro M n hk hM n0 hg hm
  obtain ⟨M, rfl⟩ : ∃ m, M = m + 1 := ⟨M - 1, by omega⟩
  have key := fun n h0 h1 h2 => ih M n (by omega) (by omega) h0 h1 h2
  have hcap := goodB_cap hg
  have kc := q.cap
  have hP := pow_le50 k (by omega)
  have hP0 := pow2_pos k
  have hb : bitK (k + 1) = 2 ^ k := rfl
  have hh2 := bitK_half k (by omega)
  rw [hb] at hh2 ⊢
  rw [Int.pow_succ] at hm
  generalize (2 : Int) ^ k = P at *
  show ∃ r, _ ∧ b_15_0 N (iter (b_15_0 N) M) _ = _
  generalize iter (b_15_0 N) M = T at key ⊢
  have hw : IntKind.i64.wrap (n + P) = n + P := wi64 (by omega) (by omega)
  have hlow : goodB p how limit (n + P) = false → ∀ m, goodB p how limit m = true → m < n + P := fun hf m h => by
   rcases Int.lt_or_le m (n + P) with h' | h'
   ·exact h'
   ·have := goodB_mono (n := n + P) (by omega) h' h
    rw [hf] at this; cases this
  by_cases hc : n + P ≤ p.2.2.2.2.2.2.2.2.2
  ·have hgd := rbgood_at hN w q hh limit (n := n + P) (by omega) (by omega)
   cases hf : goodB p how limit (n + P) with
   | true =>
    rw [hf] at hgd
    obtain ⟨r, r1, r2⟩ := key (n + P) (by omega) hf (fun m h => by have := hm m h; omega)
    refine ⟨r, r1, ?_⟩
    obtain ⟨p1, p2, p3, p4, p5, p6, p7, p8, p9, p10⟩ := p
    obtain ⟨h1, h2, h3, h4, h5, h6, h7, h8, h9, h10⟩ := how
    simp only at hc
    unfold b_15_0
    simp only
    rw [decide_eq_true (show P > 0 by omega), hw, decide_eq_true hc, hh2]
    simp only [cond_true]
    exact (bindP _ _ _ hgd).trans r2
   | false =>
    rw [hf] at hgd
    obtain ⟨r, r1, r2⟩ := key n n0 hg (hlow hf)
    refine ⟨r, r1, ?_⟩
    obtain ⟨p1, p2, p3, p4, p5, p6, p7, p8, p9, p10⟩ := p
    obtain ⟨h1, h2, h3, h4, h5, h6, h7, h8, h9, h10⟩ := how
    simp only at hc
    unfold b_15_0
    simp only
    rw [decide_eq_true (show P > 0 by omega), hw, decide_eq_true hc, hh2]
    simp only [cond_true]
    exact (bindP _ _ _ hgd).trans r2
  ·obtain ⟨r, r1, r2⟩ := key n n0 hg (hlow (goodB_far (by omega)))
   refine ⟨r, r1, ?_⟩
   obtain ⟨p1, p2, p3, p4, p5, p6, p7, p8, p9, p10⟩ := p
   obtain ⟨h1, h2, h3, h4, h5, h6, h7, h8, h9, h10⟩ := how
   simp only at hc
   unfold b_15_0
   simp only
   rw [decide_eq_true (show P > 0 by omega), hw, decide_eq_false hc, hh2]
   simp only [cond_true, cond_false]
   exact r2
theorem rbage_at {N : Nat} (hN : 3000 ≤ N) {p : PageT} (w : PageW p) {how : PolT} (hh : HowOk how) (limit : Int) :
  ∃ r, AgeIs p how limit r ∧ f_15 N p.1 p.2.1 p.2.2.1 p.2.2.2.1 p.2.2.2.2.1 p.2.2.2.2.2.1 p.2.2.2.2.2.2.1 p.2.2.2.2.2.2.2.1 p.2.2.2.2.2.2.2.2.1 p.2.2.2.2.2.2.2.2.2 how.1 how.2.1 how.2.2.1 how.2.2.2.1 how.2.2.2.2.1 how.2.2.2.2.2.1 how.2.2.2.2.2.2.1 how.2.2.2.2.2.2.2.1 how.2.2.2.2.2.2.2.2.1 how.2.2.2.2.2.2.2.2.2 limit = some (r.1, errN r.2) := by
 unfold f_15 l_15_0
 rw [rpgmay_at]
 simp only [Option.bind_some]
 cases hp : pageB p with
 | false => exact ⟨_, AgeIs.bad hp, rfl⟩
 | true =>
  have k := pageB_ok hp
  have kc := k.cap
  simp only [Bool.not_true, cond_false]
  rw [rpmay_at hN _ _ _ _ _ _ _ hh.l hh.n hh.s, show mayP how.1 how.2.1 how.2.2.1 how.2.2.2.1 how.2.2.2.2.1 how.2.2.2.2.2.1 how.2.2.2.2.2.2.2.1 how.2.2.2.2.2.2.2.2.1 how.2.2.2.2.2.2.2.2.2 = mayPT how from rfl]
  simp only [Option.bind_some]
  cases hm : mayPT how with
  | false => exact ⟨_, AgeIs.bad2 hp hm, rfl⟩
  | true =>
   simp only [Bool.not_true, cond_false]
   rw [rbgood_at hN w k hh limit (n := 0) (by omega) (by omega)]
   simp only [Option.bind_some]
   cases hg : goodB p how limit 0 with
   | false => exact ⟨_, AgeIs.none hp hm hg, rfl⟩
   | true =>
    obtain ⟨r, r1, r2⟩ := rbage_loop hN w k hh limit 51 N 0 (by omega) (by omega) (by omega) hg (fun m h => by have := goodB_cap h; rw [show (2 : Int) ^ 51 = 2251799813685248 from rfl]; omega)
    refine ⟨(r, none), AgeIs.some hp hm r1, ?_⟩
    exact (bindP _ _ _ r2).trans rfl
theorem AgeIs.uniq {p : PageT} {how : PolT} {limit : Int} {r s : Int × Option Int} (a : AgeIs p how limit r) (b : AgeIs p how limit s) : r = s := by
 unfold AgeIs at a b
 rcases a with ⟨a1, ha⟩ | ⟨a1, a2, ha⟩ | ⟨a1, a2, a3, ha⟩ | ⟨a1, a2, n, a3, ha⟩ <;> rcases b with ⟨b1, hb⟩ | ⟨b1, b2, hb⟩ | ⟨b1, b2, b3, hb⟩ | ⟨b1, b2, m, b3, hb⟩ <;> rw [ha, hb]
 all_goals first
  | exact absurd (a1.symm.trans b1) (by decide)
  | exact absurd (a2.symm.trans b2) (by decide)
  | exact absurd ((goodB_mono (Int.le_refl 0) a3.1 a3.2.1).symm.trans b3) (by decide)
  | exact absurd ((goodB_mono (Int.le_refl 0) b3.1 b3.2.1).symm.trans a3) (by decide)
  | rw [a3.uniq b3]
end Go.Proofs.YthpljlpokmoeeaaGreatDoor.Mir
namespace Go.Proofs.YthpljlpokmoeeaaGreatDoor.Mir
open Go Go.RowKit
set_option maxRecDepth 100000
theorem give_loop30 (N : Nat) {n : ByteArray} {f : Int} {L : List Rul} (hL : L.length ≤ 4398046511104) (z : ByteArray × Int × List Rul) : ∀ (k M i : Nat) (acc : List Rul), i + k = L.length → k < M → acc.length = i →
  iter (b_48_0 N) M ((), (), (), (i : Int), (n, f, L), z, (n, f, acc)) = some ((), (), z, (n, f, acc ++ L.drop i)) := by
 intro k
 induction k with
 | zero =>
  intro M i acc hi hM ha
  obtain ⟨M, rfl⟩ : ∃ m, M = m + 1 := ⟨M - 1, by omega⟩
  show b_48_0 N (iter (b_48_0 N) M) _ = _
  unfold b_48_0
  simp only
  rw [decide_eq_false (show ¬ (i : Int) < (L.length : Int) by omega), List.drop_eq_nil_of_le (by omega), List.append_nil]; rfl
 | succ k ih =>
  intro M i acc hi hM ha
  obtain ⟨M, rfl⟩ : ∃ m, M = m + 1 := ⟨M - 1, by omega⟩
  have ih' := ih M (i + 1) (acc ++ [gR L i]) (by omega) (by omega) (by rw [List.length_append, ha]; rfl)
  show b_48_0 N (iter (b_48_0 N) M) _ = _
  generalize iter (b_48_0 N) M = I at ih' ⊢
  unfold b_48_0
  simp only
  rw [decide_eq_true (show (i : Int) < (L.length : Int) by omega), decide_eq_true (show 0 ≤ (i : Int) ∧ (i : Int) < (L.length : Int) by omega), wi64 (n := (i : Int) + 1) (by omega) (by omega), show (i : Int) + 1 = ((i + 1 : Nat) : Int) by omega]
  simp only [cond_true, Int.toNat_natCast]
  show (bif decide ((acc.length + [gR L i].length) * 32 ≤ 140737488355328) then I ((), (), (), ((i + 1 : Nat) : Int), (n, f, L), z, (n, f, acc ++ [gR L i])) else none) = _
  rw [decide_eq_true (by rw [List.length_singleton]; omega), cond_true, ih', List.append_assoc]
  have hi' : i < L.length := by omega
  have e : gR L i = L[i] := by unfold gR; rw [List.getD_eq_getElem?_getD, List.getElem?_eq_getElem hi']; rfl
  rw [List.drop_eq_getElem_cons hi', e]; rfl
theorem give_at30 {N : Nat} (n : ByteArray) (f : Int) {L : List Rul} (hL : L.length ≤ 4398046511104) (hN : L.length < N) : f_48 N n f L = some (n, f, L) := by
 have h := give_loop30 N (n := n) (f := f) hL (ByteArray.empty, 0, []) L.length N 0 [] (by omega) hN rfl
 have h' : l_48_0 N ((), (), (), 0, (n, f, L), (ByteArray.empty, 0, []), (n, f, [])) = some ((), (), (ByteArray.empty, 0, []), (n, f, L)) := h
 unfold f_48
 rw [h']; rfl
theorem big_loop30 (N : Nat) {n : ByteArray} {f : Int} {L : List Rul} : ∀ (k M i : Nat), i + k = 60 → k < M → ∃ r, iter (b_8_0 N) M ((), (i : Int), (n, f, L)) = some r ∧ (r = .inl true ∨ (r = .inr ((), (n, f, L)) ∧ ∀ j, i ≤ j → j < L.length → j < 60 → (gR L j).2.2.size ≤ 200)) := by
 intro k
 induction k with
 | zero =>
  intro M i hi hM
  obtain ⟨M, rfl⟩ : ∃ m, M = m + 1 := ⟨M - 1, by omega⟩
  refine ⟨.inr ((), (n, f, L)), ?_, .inr ⟨rfl, fun j h1 h2 h3 => by omega⟩⟩
  show b_8_0 N (iter (b_8_0 N) M) _ = _
  unfold b_8_0
  simp only
  rw [decide_eq_false (show ¬ (i : Int) < 60 by omega)]
  cases decide ((i : Int) < (L.length : Int)) <;> rfl
 | succ k ih =>
  intro M i hi hM
  obtain ⟨M, rfl⟩ : ∃ m, M = m + 1 := ⟨M - 1, by omega⟩
  obtain ⟨r, h1, h2⟩ := ih M (i + 1) (by omega) (by omega)
  by_cases hl : i < L.length
  ·by_cases hs : (gR L i).2.2.size > 200
   ·refine ⟨.inl true, ?_, .inl rfl⟩
    show b_8_0 N (iter (b_8_0 N) M) _ = _
    unfold b_8_0
    simp only
    rw [decide_eq_true (show (i : Int) < 60 by omega), decide_eq_true (show (i : Int) < (L.length : Int) by omega), decide_eq_true (show 0 ≤ (i : Int) ∧ (i : Int) < (L.length : Int) by omega), Int.toNat_natCast]
    show (bif decide (((gR L i).2.2.size : Int) > 200) then _ else _) = _
    rw [decide_eq_true (by omega)]; rfl
   ·refine ⟨r, ?_, ?_⟩
    ·rw [← h1]
     show b_8_0 N (iter (b_8_0 N) M) _ = _
     generalize iter (b_8_0 N) M = I
     unfold b_8_0
     simp only
     rw [decide_eq_true (show (i : Int) < 60 by omega), decide_eq_true (show (i : Int) < (L.length : Int) by omega), decide_eq_true (show 0 ≤ (i : Int) ∧ (i : Int) < (L.length : Int) by omega), Int.toNat_natCast, wi64 (n := (i : Int) + 1) (by omega) (by omega)]
     show (bif decide (((gR L i).2.2.size : Int) > 200) then _ else _) = _
     rw [decide_eq_false (by omega)]; rfl
    ·rcases h2 with h2 | ⟨h2, h3⟩
     ·exact .inl h2
     ·refine .inr ⟨h2, fun j a b c => ?_⟩
      by_cases hj : j = i
      ·subst hj; omega
      ·exact h3 j (by omega) b c
  ·refine ⟨.inr ((), (n, f, L)), ?_, .inr ⟨rfl, fun j h1 h2 h3 => by omega⟩⟩
   show b_8_0 N (iter (b_8_0 N) M) _ = _
   unfold b_8_0
   simp only
   rw [decide_eq_false (show ¬ (i : Int) < (L.length : Int) by omega)]; rfl
theorem big_at30 {N : Nat} (n : ByteArray) (f : Int) (L : List Rul) (hN : 61 ≤ N) : ∃ b, f_8 N n f L = some b ∧ (b = false → L.length ≤ 60 ∧ n.size ≤ 200 ∧ ∀ i, i < L.length → (gR L i).2.2.size ≤ 200) := by
 obtain ⟨r, h1, h2⟩ := big_loop30 N (n := n) (f := f) (L := L) 60 N 0 rfl (by omega)
 have h' : l_8_0 N ((), 0, (n, f, L)) = some r := h1
 unfold f_8
 rw [h']
 rcases h2 with rfl | ⟨rfl, h3⟩
 ·exact ⟨true, rfl, fun h => by cases h⟩
 ·show ∃ b, (bif decide ((L.length : Int) > 60) then some true else some (decide ((n.size : Int) > 200))) = some b ∧ _
  by_cases hl : L.length > 60
  ·rw [decide_eq_true (show (L.length : Int) > 60 by omega)]
   exact ⟨true, rfl, fun h => by cases h⟩
  ·rw [decide_eq_false (show ¬ (L.length : Int) > 60 by omega)]
   refine ⟨_, rfl, fun h => ?_⟩
   have := of_decide_eq_false h
   exact ⟨by omega, by omega, fun i hi => h3 i (Nat.zero_le _) hi (by omega)⟩
end Go.Proofs.YthpljlpokmoeeaaGreatDoor.Mir
namespace Go.Proofs.YthpljlpokmoeeaaGreatDoor.Mir
open Go Go.RowKit
set_option maxRecDepth 100000
abbrev TenT := ByteArray × List Int × Int × Int × Int × Int × Int × Int × Bool × ByteArray × Int × List Rul × Bool × Int × Int × Bool × Int × Int
def mayTT (t : TenT) : Bool := mayT t.1 t.2.2.1 t.2.2.2.1 t.2.2.2.2.1 t.2.2.2.2.2.1 t.2.2.2.2.2.2.1 t.2.2.2.2.2.2.2.1 t.2.2.2.2.2.2.2.2.2.1 t.2.2.2.2.2.2.2.2.2.2.1 t.2.2.2.2.2.2.2.2.2.2.2.1 t.2.2.2.2.2.2.2.2.2.2.2.2.1 t.2.2.2.2.2.2.2.2.2.2.2.2.2.1 t.2.2.2.2.2.2.2.2.2.2.2.2.2.2.1 t.2.2.2.2.2.2.2.2.2.2.2.2.2.2.2.1 t.2.2.2.2.2.2.2.2.2.2.2.2.2.2.2.2.1 t.2.2.2.2.2.2.2.2.2.2.2.2.2.2.2.2.2
structure TFit (t : TenT) : Prop where
 n : (t.1).size ≤ 1000
 zn : (t.2.2.2.2.2.2.2.2.2.1).size ≤ 1000
 zL : (t.2.2.2.2.2.2.2.2.2.2.2.1).length ≤ 1000
 rn : ∀ i, i < (t.2.2.2.2.2.2.2.2.2.2.2.1).length → (gR (t.2.2.2.2.2.2.2.2.2.2.2.1) i).2.2.size ≤ 1000
 ta : R64 (t.2.2.2.2.2.2.2.2.2.2.2.2.2.1)
 tl : R64 (t.2.2.2.2.2.2.2.2.2.2.2.2.2.2.2.2.1)
structure TKey (t : TenT) : Prop where
 len : (t.2.1).length = 16
 by_ : By (t.2.1)
end Go.Proofs.YthpljlpokmoeeaaGreatDoor.Mir
namespace Go.Proofs.YthpljlpokmoeeaaGreatDoor.Mir
open Go Go.RowKit
set_option maxRecDepth 100000
theorem num_at30 (N : Nat) (e : Option Int) : f_17 N e = some (errN e) := by cases e <;> rfl
theorem pgive_at30 {N : Nat} (k b a q w c : Int) (j : Bool) (n : ByteArray) (f : Int) {L : List Rul} (hL : L.length ≤ 4398046511104) (hN : L.length < N) : f_11 N k b a q w c j n f L = some (k, b, a, q, w, c, j, n, f, L) := by
 unfold f_11
 rw [give_at30 n f hL hN]; rfl
structure TBig30 (t : TenT) : Prop where
 zL : (t.2.2.2.2.2.2.2.2.2.2.2.1).length ≤ 60
 zn : (t.2.2.2.2.2.2.2.2.2.1).size ≤ 200
 rn : ∀ i, i < (t.2.2.2.2.2.2.2.2.2.2.2.1).length → (gR (t.2.2.2.2.2.2.2.2.2.2.2.1) i).2.2.size ≤ 200
 n : (t.1).size ≤ 100
theorem TBig30.fit {t : TenT} (h : TBig30 t) (ha : R64 (t.2.2.2.2.2.2.2.2.2.2.2.2.2.1)) (hl : R64 (t.2.2.2.2.2.2.2.2.2.2.2.2.2.2.2.2.1)) : TFit t :=
 ⟨by have := h.n; omega, by have := h.zn; omega, by have := h.zL; omega, fun i hi => by have := h.rn i hi; omega, ha, hl⟩
end Go.Proofs.YthpljlpokmoeeaaGreatDoor.Mir
namespace Go.Proofs.YthpljlpokmoeeaaGreatDoor.Mir
open Go Go.RowKit
set_option maxRecDepth 100000
structure Cut (L : List Rul) (s : Int) (n : Nat) : Prop where
 le : n ≤ L.length
 lo : ∀ i, i < n → (gR L i).1 ≤ s
 hi : ∀ i, n ≤ i → i < L.length → s < (gR L i).1
theorem Cut.uniq {L : List Rul} {s : Int} {n m : Nat} (a : Cut L s n) (b : Cut L s m) : n = m := by
 rcases Nat.lt_trichotomy n m with h | h | h
 ·have h1 := b.lo n h
  have h2 := a.hi n (Nat.le_refl _) (by have := b.le; omega)
  omega
 ·exact h
 ·have h1 := a.lo m h
  have h2 := b.hi m (Nat.le_refl _) (by have := a.le; omega)
  omega
end Go.Proofs.YthpljlpokmoeeaaGreatDoor.Mir
namespace Go.Proofs.YthpljlpokmoeeaaGreatDoor.Mir
open Go Go.RowKit
set_option maxRecDepth 100000
end Go.Proofs.YthpljlpokmoeeaaGreatDoor.Mir
namespace Go.Proofs.YthpljlpokmoeeaaGreatDoor.Mir
open Go Go.RowKit
set_option maxRecDepth 100000
end Go.Proofs.YthpljlpokmoeeaaGreatDoor.Mir
namespace Go.Proofs.YthpljlpokmoeeaaGreatDoor.Mir
open Go Go.RowKit
set_option maxRecDepth 100000
def SmOk (k bf af : Int) : Prop := (0 ≤ bf ∧ bf ≤ 43200 ∧ 0 ≤ af ∧ af ≤ 43200) ∧ ((k = 0 ∧ bf + af = 0) ∨ (k = 1 ∧ bf + af ≥ 1) ∨ (k = 2 ∧ bf + af ≥ 3600))
instance (k bf af : Int) : Decidable (SmOk k bf af) := by unfold SmOk; infer_instance
def lenS (bf af : Int) : Int := (bf + 1 + af) * 1000000000
def LagOk (k bf af g : Int) : Prop := SmOk k bf af ∧ k ≠ 0 ∧ 0 ≤ g ∧ g ≤ lenS bf af
instance (k bf af g : Int) : Decidable (LagOk k bf af g) := by unfold LagOk; infer_instance
end Go.Proofs.YthpljlpokmoeeaaGreatDoor.Mir
namespace Go.Proofs.YthpljlpokmoeeaaGreatDoor.Mir
open Go Go.RowKit
set_option maxRecDepth 100000
end Go.Proofs.YthpljlpokmoeeaaGreatDoor.Mir
namespace Go.Proofs.YthpljlpokmoeeaaGreatDoor.Mir
open Go Go.RowKit
set_option maxRecDepth 100000
end Go.Proofs.YthpljlpokmoeeaaGreatDoor.Mir
namespace Go.Proofs.YthpljlpokmoeeaaGreatDoor.Mir
open Go Go.RowKit
set_option maxRecDepth 100000
end Go.Proofs.YthpljlpokmoeeaaGreatDoor.Mir
namespace Go.Proofs.YthpljlpokmoeeaaGreatDoor.Mir
open Go Go.RowKit
set_option maxRecDepth 100000
end Go.Proofs.YthpljlpokmoeeaaGreatDoor.Mir
namespace Go.Proofs.YthpljlpokmoeeaaGreatDoor.Mir
open Go Go.RowKit
set_option maxRecDepth 100000
theorem r64_0 : R64 0 := ⟨by decide, by decide⟩
end Go.Proofs.YthpljlpokmoeeaaGreatDoor.Mir
namespace Go.Proofs.YthpljlpokmoeeaaGreatDoor.Mir
open Go Go.RowKit
set_option maxRecDepth 100000
end Go.Proofs.YthpljlpokmoeeaaGreatDoor.Mir
namespace Go.Proofs.YthpljlpokmoeeaaGreatDoor.Mir
open Go Go.RowKit
set_option maxRecDepth 100000
structure TBig29 (t : TenT) : Prop where
 zL : (t.2.2.2.2.2.2.2.2.2.2.2.1).length ≤ 60
 zn : (t.2.2.2.2.2.2.2.2.2.1).size ≤ 200
 rn : ∀ i, i < (t.2.2.2.2.2.2.2.2.2.2.2.1).length → (gR (t.2.2.2.2.2.2.2.2.2.2.2.1) i).2.2.size ≤ 200
 n : (t.1).size ≤ 100
theorem TBig29.fit {t : TenT} (h : TBig29 t) (ha : R64 (t.2.2.2.2.2.2.2.2.2.2.2.2.2.1)) (hl : R64 (t.2.2.2.2.2.2.2.2.2.2.2.2.2.2.2.2.1)) : TFit t :=
 ⟨by have := h.n; omega, by have := h.zn; omega, by have := h.zL; omega, fun i hi => by have := h.rn i hi; omega, ha, hl⟩
end Go.Proofs.YthpljlpokmoeeaaGreatDoor.Mir
namespace Go.Proofs.YthpljlpokmoeeaaGreatDoor.Mir
open Go Go.RowKit
set_option maxRecDepth 100000
end Go.Proofs.YthpljlpokmoeeaaGreatDoor.Mir
namespace Go.Proofs.YthpljlpokmoeeaaGreatDoor.Mir
open Go Go.RowKit
set_option maxRecDepth 100000
structure On (x : TenT) (last : Int) (any : Bool) : Prop where
 may : mayTT x = true
 fit : TFit x
 key : TKey x
 low : any = true → x.2.2.2.2.2.2.2.2.2.2.2.2.2.2.2.1 = true ∧ last ≤ x.2.2.2.2.2.2.2.2.2.2.2.2.2.2.2.2.1
end Go.Proofs.YthpljlpokmoeeaaGreatDoor.Mir
namespace Go.Proofs.YthpljlpokmoeeaaGreatDoor.Mir
open Go Go.RowKit
set_option maxRecDepth 100000
theorem sureB {q : Option Bool} (h : q = some true) : (q.bind fun r => some r) = some true := by rw [h]; rfl
theorem blsure_at (n : Nat) : f_9 (n + 3000) = some true := by kernel_rfl
theorem sum3 {a b c : Int} : sumP (a, b, c, 0, 0, 0, 0) = sumL [a, b, c] := by
 have h : ∀ s, satI (satI s + 0) = satI s := fun s => by rw [Int.add_zero, satI_in (satI_rng s)]
 show satI (satI (satI (satI (satI (satI (satI (0 + a) + b) + c) + 0) + 0) + 0) + 0) = satI (satI (satI (0 + a) + b) + c)
 rw [h, h, h, h]
theorem btells_holds (F : Nat) {p : PageT} (w : PageW p) {how : PolT} {of : List Int} (o0 : R64 (of.getD (Int.toNat 0) 0)) (o1 : R64 (of.getD (Int.toNat 1) 0))
  (hL : how.2.2.2.2.2.2.2.2.2.length ≤ 4398046511104) (hF : how.2.2.2.2.2.2.2.2.2.length < F) (h3 : 3000 ≤ F) (hs : f_9 F = some true) :
  f_3 F p.1 p.2.1 p.2.2.1 p.2.2.2.1 p.2.2.2.2.1 p.2.2.2.2.2.1 p.2.2.2.2.2.2.1 p.2.2.2.2.2.2.2.1 p.2.2.2.2.2.2.2.2.1 p.2.2.2.2.2.2.2.2.2 how.1 how.2.1 how.2.2.1 how.2.2.2.1 how.2.2.2.2.1 how.2.2.2.2.2.1 how.2.2.2.2.2.2.1 how.2.2.2.2.2.2.2.1 how.2.2.2.2.2.2.2.2.1 how.2.2.2.2.2.2.2.2.2 of = some true := by
 unfold f_3
 obtain ⟨z, hz, hZ⟩ := big_at30 (N := F) how.2.2.2.2.2.2.2.1 how.2.2.2.2.2.2.2.2.1 how.2.2.2.2.2.2.2.2.2 (by omega)
 refine (bindP _ _ _ hz).trans ?_
 cases z with
 | true => exact sureB hs
 | false =>
 simp only [cond_false]
 obtain ⟨z1, z2, z3⟩ := hZ rfl
 have hh : HowOk how := ⟨by omega, by omega, fun i hi => by have := z3 i hi; omega⟩
 refine (bindP _ p _ rfl).trans ?_
 refine (bindP _ _ _ (pgive_at30 _ _ _ _ _ _ _ _ _ hL hF)).trans ?_
 generalize of.getD (Int.toNat 0) 0 = c0 at o0 ⊢
 generalize of.getD (Int.toNat 1) 0 = c1 at o1 ⊢
 generalize of.getD (Int.toNat 2) 0 = c2
 refine (bindP _ _ _ (bof_at h3 w o0 hh.l c1)).trans ?_
 refine (bindP _ _ _ (rbof_at h3 w o0 hh.l hh.n hh.s c1)).trans ?_
 obtain ⟨a, ha, ea⟩ := bage_at h3 w hh c2
 obtain ⟨b, hb, eb⟩ := rbage_at h3 w hh c2
 have hab := ha.uniq hb
 subst hab
 refine (bindP _ _ _ ea).trans ?_
 refine (bindP _ _ _ eb).trans ?_
 have hT := btold_at h3 w o0 hh.l o1 0 c2 c1
 unfold toldB at hT
 have hR := partsD_R (p := p) (c := c0) (how := how) o1
 have he := fun e h => partsD_ne (p := p) (c := c0) (how := how) (r := c1) (e := e) h
 generalize partsD p c0 how c1 = V at hR he hT ⊢
 obtain ⟨v, e⟩ := V
 obtain ⟨a, f⟩ := a
 simp only [beq_self_eq_true, Bool.and_self, cond_true] at hR ⊢
 cases e with
 | some e =>
  show (bif e == 0 then _ else _) = _
  rw [show (e == 0) = false by simpa using he e rfl]
  simp only [cond_false]
  refine (bindP _ _ _ (num_at30 F _)).trans ?_
  simp only [beq_self_eq_true, cond_true]
  refine (bindP _ _ _ (bsump_at h3 hR)).trans ?_
  refine (bindP _ _ _ (rbsum_at h3 hR)).trans ?_
  simp only [beq_self_eq_true, cond_true]
  refine (bindP _ _ _ (num_at30 F _)).trans ?_
  simp only [beq_self_eq_true, cond_true]
  refine (bindP _ _ _ hT).trans ?_
  exact sureB hs
 | none =>
  have hR3 : PartsR (v.1, v.2.1, v.2.2.1, 0, 0, 0, 0) := ⟨hR.a, hR.b, hR.c, r64_0, r64_0, r64_0, r64_0⟩
  show (bif (0 : Int) == 0 then _ else _) = _
  rw [show ((0 : Int) == 0) = true from rfl]
  simp only [cond_true]
  refine (bindP _ _ _ (rbsum_at h3 hR)).trans ?_
  simp only [Option.isNone_none, Bool.true_and] at hT
  cases hc : (sumP v == c2) with
  | true =>
   rw [hc] at hT
   simp only [Bool.true_and] at hT
   simp only [cond_true]
   refine (bindP _ _ _ (rbsum_at h3 hR3)).trans ?_
   rw [sum3]
   refine (bindP _ _ _ (num_at30 F _)).trans ?_
   rw [show (errN none == errN none) = true from rfl]
   simp only [cond_true]
   refine (bindP _ _ _ (bsump_at h3 hR)).trans ?_
   refine (bindP _ _ _ (rbsum_at h3 hR)).trans ?_
   simp only [beq_self_eq_true, cond_true]
   refine (bindP _ _ _ (num_at30 F _)).trans ?_
   simp only [beq_self_eq_true, cond_true]
   refine (bindP _ _ _ hT).trans ?_
   simp only [beq_self_eq_true, cond_true]
   exact sureB hs
  | false =>
   rw [hc] at hT
   simp only [Bool.false_and] at hT
   simp only [cond_false]
   refine (bindP _ _ _ (num_at30 F _)).trans ?_
   rw [show (errN none == errN none) = true from rfl]
   simp only [cond_true]
   refine (bindP _ _ _ (bsump_at h3 hR)).trans ?_
   refine (bindP _ _ _ (rbsum_at h3 hR)).trans ?_
   simp only [beq_self_eq_true, cond_true]
   refine (bindP _ _ _ (num_at30 F _)).trans ?_
   simp only [beq_self_eq_true, cond_true]
   refine (bindP _ _ _ hT).trans ?_
   exact sureB hs
end Go.Proofs.YthpljlpokmoeeaaGreatDoor.Mir
namespace Go.Proofs.YthpljlpokmoeeaaGreatDoor
open Go Go.RowKit Mir
theorem laid_Q {w : World} (hL : LaidW w) : ∀ q ∈ Mir.laidL, w.cell? ⟨q.1, q.2.1, none⟩ = some q.2.2 := fun q hq => by
 obtain rfl := List.mem_singleton.1 hq
 exact hL
theorem len_ok' {n : Nat} (h : n * bySL [.int .i64, .int .i64, .str] ≤ reachBytes) : n ≤ 4398046511104 := by
 have h : n * 32 ≤ reachBytes := h
 have : reachBytes = 140737488351232 := by decide
 omega
theorem i64_ok {n : Int} (hw : (Lit.int .i64 n).wf = true) : -9223372036854775808 ≤ n ∧ n < 9223372036854775808 := by
 have := wf_range hw
 have c0 : IntKind.i64.min = -9223372036854775808 := by decide
 have c1 : IntKind.i64.max = 9223372036854775807 := by decide
 omega
end Go.Proofs.YthpljlpokmoeeaaGreatDoor
namespace Go.Proofs.YthpljlpokmoeeaaGreatDoor
open Go Go.RowKit Mir
end Go.Proofs.YthpljlpokmoeeaaGreatDoor
namespace Go.Proofs.YthpljlpokmoeeaaGreatDoor
open Go Go.RowKit Mir
abbrev pgSh : List Sh := [.int .i64, .int .i64, .int .i64, .int .i64, .int .u32, .int .i64, .int .u32, .int .i64, .int .i64, .int .i64]
theorem u32_ok {n : Int} (hw : (Lit.int .u32 n).wf = true) : 0 ≤ n ∧ n < 4294967296 := by
 have := wf_range hw
 have c0 : IntKind.u32.min = 0 := by decide
 have c1 : IntKind.u32.max = 4294967295 := by decide
 omega
theorem page_ok {y : TL pgSh} (k : OkL _ y) : PageW y := by
 obtain ⟨p1, p2, p3, p4, p5, p6, p7, p8, p9, p10⟩ := y
 simp only [OkL, OkS] at k
 obtain ⟨_, h2, h3, _, h5, h6, h7, h8, _, _⟩ := k
 exact ⟨i64_ok h2, i64_ok h3, u32_ok h5, i64_ok h6, u32_ok h7, i64_ok h8⟩
theorem arr_r64b {xs : List Int} (h : ∀ x ∈ xs, (Lit.int .i64 x).wf = true) (i : Nat) : R64 (xs.getD i 0) := by
 rw [List.getD_eq_getElem?_getD]
 cases hg : xs[i]? with
 | none => exact ⟨by decide, by decide⟩
 | some x => exact i64_ok (h x (List.mem_of_getElem? hg))
end Go.Proofs.YthpljlpokmoeeaaGreatDoor
namespace Go.Proofs.YthpljlpokmoeeaaGreatDoor
open Go Go.RowKit Mir
abbrev poSh : List Sh := [.int .i64, .int .i64, .int .i64, .int .i64, .int .i64, .int .i64, .bool, .str, .int .i64, .sl [.int .i64, .int .i64, .str]]
set_option maxRecDepth 100000 in
theorem law_BoundTells_row (w : World) (hL : LaidW w) {v0 v1 v2 : Value} {y0 : TL pgSh} (k0 : OkL _ y0) (e0 : RepA (gW w) (.agg (encL _ y0)) v0) {y1 : TL poSh} (k1 : OkL _ y1) (e1 : RepA (gW w) (.agg (encL _ y1)) v1)
  {y2 : TL [.arr .i64 3]} (k2 : OkL _ y2) (e2 : RepA (gW w) (.agg (encL [.arr .i64 3] y2)) v2) :
  Calls Tryz.prog 3 #[v0, v1, v2] w fun e w' => e = .returned (.bool true) ∧ Below w.heap.size w w' := by
 have a0 := page_ok k0
 obtain ⟨p1, p2, p3, p4, p5, p6, p7, p8, p9, p10⟩ := y1
 simp only [OkL, OkS] at k1 k2
 obtain ⟨_, _, _, _, _, _, _, _, _, h10⟩ := k1
 have h10 : List.length (α := Rul) p10 ≤ 4398046511104 := len_ok' h10.2.1
 have hh := btells_holds (List.length (α := Rul) p10 + 3000) a0 (how := (p1, p2, p3, p4, p5, p6, p7, p8, p9, p10)) (of := y2) (arr_r64b k2 _) (arr_r64b k2 _) h10 (show List.length (α := Rul) p10 < _ by omega) (by omega) (blsure_at _)
 generalize List.length (α := Rul) p10 = m at hh
 have hr : (S_3 (m + 3000)).run [.agg (encL pgSh y0), .agg (encL poSh (p1, p2, p3, p4, p5, p6, p7, p8, p9, p10)), .agg (encL [.arr .i64 3] y2)] [] = f_3 (m + 3000) y0.1 y0.2.1 y0.2.2.1 y0.2.2.2.1 y0.2.2.2.2.1 y0.2.2.2.2.2.1 y0.2.2.2.2.2.2.1 y0.2.2.2.2.2.2.2.1 y0.2.2.2.2.2.2.2.2.1 y0.2.2.2.2.2.2.2.2.2 p1 p2 p3 p4 p5 p6 p7 p8 p9 p10 y2 := by kernel_rfl
 have ho : ((S_3 (m + 3000)).out [.agg (encL pgSh y0), .agg (encL poSh (p1, p2, p3, p4, p5, p6, p7, p8, p9, p10)), .agg (encL [.arr .i64 3] y2)] [] true).1 = .a (.one (Mir.boolC true)) := by kernel_rfl
 exact calls_open (vs := [v0, v1, v2]) (s_3 (m + 3000)) (by kernel_rfl) Tryz.func3 (by kernel_rfl) (by kernel_rfl) (hr.trans hh)
  ⟨v0, _, rfl, e0, v1, _, rfl, e1, v2, _, rfl, e2, rfl⟩ (laid_Q hL) (fun g x h => by rw [ho] at h; exact h)
end Go.Proofs.YthpljlpokmoeeaaGreatDoor
