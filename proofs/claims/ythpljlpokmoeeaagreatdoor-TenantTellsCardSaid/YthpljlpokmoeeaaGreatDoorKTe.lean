/- Texts joined. -/
import Derived.RangeFuncBox
import Derived.RangeFuncNested
import Derived.RangeFuncBound
import Derived.RangeFuncCalls
import Derived.RangeFuncLeaves
import Derived.Shelf.Abstract
import Derived.WalkKit
import Derived.OwnWalkIn
import Derived.TacticsInMore
import Derived.LoopNIn
import Derived.LoopIn
import Derived.Test.YthpljlpokmoeeaaGreatDoorProg
import Derived.Test.YthpljlpokmoeeaaGreatDoorKx26a1f8
import Derived.Test.YthpljlpokmoeeaaGreatDoorKx973da9
import Derived.Shelf.Strings.SlTrimAscii
namespace Go.Proofs.YthpljlpokmoeeaaGreatDoor
open Go Go.RowKit Go.Shelf Go.Proofs
attribute [local go_sem] Oper.semAt_some
def upTo {α : Type} (f : Nat → α) (k : Nat) : List α := (List.range k).map f
theorem upTo_succ {α : Type} (f : Nat → α) (k : Nat) : upTo f (k + 1) = upTo f k ++ [f k] := by simp [upTo, List.range_succ]
theorem upTo_length {α : Type} (f : Nat → α) (k : Nat) : (upTo f k).length = k := by simp [upTo]
def backAt (zs : List Int) (len k : Nat) : Int × Int := ((len : Int) - 1 - k, zs[len - 1 - k]?.getD 0)
def KeepB (Bs n₀ : Nat) (W W' : World) : Prop := (∀ v, W.cell? ⟨Bs, 0, none⟩ = some v → W'.cell? ⟨Bs, 0, none⟩ = some v) ∧ Below n₀ W W'
theorem KeepB.trans {Bs n₀ : Nat} {A B C : World} (h : KeepB Bs n₀ A B) (k : KeepB Bs n₀ B C) : KeepB Bs n₀ A C := ⟨fun v e => k.1 v (h.1 v e), h.2.trans k.2⟩
set_option maxRecDepth 100000 in
set_option maxHeartbeats 2000000 in
theorem back1_in (F : Fence) (n : Nat) (h8 : F.fn 239) (hro : F.round = none) (hn : 1 ≤ n) (l Bs n₀ b off len cap : Nat) (zs : List Int) (hreach : len ≤ 140737488351232) (hb : b < n₀) (J Jx : List (Int × Int) → World → Prop)
  (hY : ∀ pre x W, J pre W → pre.length < len → YieldAt F (n - 1) Tryz.prog l #[.int .i64 x.1, .int .u8 x.2] W fun e W' =>
   (e = .returned (.bool true) ∧ J (pre ++ [x]) W' ∧ KeepB Bs n₀ W W') ∨ (e = .returned (.bool false) ∧ Jx (pre ++ [x]) W'))
  (W : World) (hBs : W.cell? ⟨Bs, 0, none⟩ = some (.slice (some ⟨b, off, none⟩) len cap)) (hc : ∀ j, j < len → W.cell? ⟨b, off + j, none⟩ = some (.int .u8 (zs[j]?.getD 0))) (h0 : J [] W) :
  CallsIn F n Tryz.prog 239 #[.func (.yield l) #[] #[], .pointer (some ⟨Bs, 0, none⟩)] W fun e W' => (∃ v, e = .returned v) ∧
   ((∃ ys, ys = upTo (backAt zs len) len ∧ J ys W') ∨ (∃ pre, (∃ k, k ≤ len ∧ pre = upTo (backAt zs len) k) ∧ Jx pre W')) := by
 refine callsIn_of_wp Tryz.func239 rfl h8 ?_ hro
 simp only [Tryz.ntmps239, List.size_toArray, List.length_cons, List.length_nil, Nat.reduceAdd, Nat.reduceSub, Array.replicate_succ, Array.replicate_zero, List.push_toArray, List.append_toArray, List.nil_append, List.cons_append]
 gi_wp2
 gi_loopw [3] (fun i wr => ∃ k : Nat, k ≤ len ∧ i = .int .i64 ((len : Int) - 1 - k) ∧ J (upTo (backAt zs len) k) wr ∧ wr.cell? ⟨Bs, 0, none⟩ = some (.slice (some ⟨b, off, none⟩) len cap) ∧ Below n₀ W wr)
  (fun i _ => (intOf i + 1).toNat)
 case atStart => exact ⟨0, Nat.zero_le _, by simp, h0, hBs, Below.refl _ _⟩
 case round =>
  obtain ⟨k, hk, rfl, hJs, hBs', hnx⟩ := hrel
  have hcx : k < len → wr.cell? ⟨b, off + (len - 1 - k), none⟩ = some (.int .u8 (zs[len - 1 - k]?.getD 0)) := fun h => (hnx.cell (p := ⟨b, off + (len - 1 - k), none⟩) hb).trans (hc _ (by omega))
  by_cases hlt : k < len
  ·obtain ⟨fn, tmps, assign, body, hy, hR⟩ := hY _ (backAt zs len k) wr hJs (by rw [upTo_length]; exact hlt)
   dsimp only [backAt] at hy
   have hcx' := hcx hlt
   obtain ⟨m, hm1, hm2, hm3⟩ : ∃ m : Nat, (len : Int) - 1 - k = m ∧ len - 1 - k = m ∧ m < len := ⟨len - 1 - k, by omega, rfl, by omega⟩
   rw [hm2] at hcx'
   rw [hm1, hm2] at hy
   rw [hm1]
   gi_wp2
   refine hR.mono ?_
   rintro e W3 (⟨rfl, hJ3, hk3⟩ | ⟨rfl, hJx3⟩)
   ·gi_wp2
    go_roundw
    case rel => exact ⟨k + 1, by omega, by congr 1; omega, by rw [upTo_succ]; exact hJ3, hk3.1 _ hBs', hnx.trans hk3.2⟩
    case measure => simp [intOf]
   ·gi_wp2
    refine bodyPost_ret (results_none rfl _ _ _) rfl ?_
    exact ⟨⟨_, rfl⟩, .inr ⟨_, ⟨k + 1, by omega, (upTo_succ _ _).symm⟩, hJx3⟩⟩
  ·obtain rfl : k = len := by omega
   gi_wp2
   go_end0
   exact ⟨⟨_, rfl⟩, .inl ⟨_, rfl, hJs⟩⟩
set_option maxRecDepth 100000 in
set_option maxHeartbeats 1000000 in
theorem back1_nil_in (F : Fence) (n : Nat) (h8 : F.fn 239) (hro : F.round = none) (l Bs : Nat) (J : List (Int × Int) → World → Prop) (W : World) (hBs : W.cell? ⟨Bs, 0, none⟩ = some (.slice none 0 0)) (h0 : J [] W) :
  CallsIn F n Tryz.prog 239 #[.func (.yield l) #[] #[], .pointer (some ⟨Bs, 0, none⟩)] W fun e W' => (∃ v, e = .returned v) ∧ J [] W' := by
 refine callsIn_of_wp Tryz.func239 rfl h8 ?_ hro
 simp only [Tryz.ntmps239, List.size_toArray, List.length_cons, List.length_nil, Nat.reduceAdd, Nat.reduceSub, Array.replicate_succ, Array.replicate_zero, List.push_toArray, List.append_toArray, List.nil_append, List.cons_append]
 gi_wp2
 gi_loopw [3] (fun i wr => i = .int .i64 (-1) ∧ J [] wr) (fun _ _ => 0)
 case atStart => exact ⟨rfl, h0⟩
 case round =>
  obtain ⟨rfl, hJs⟩ := hrel
  gi_wp2
  go_end0
  exact ⟨⟨_, rfl⟩, hJs⟩
set_option maxHeartbeats 1000000 in
theorem backward_in (F : Fence) (n : Nat) (h6 : F.fn 237) (hro : F.round = none) (a : Option Addr) (len cap : Nat) (w : World) :
  CallsIn F n Tryz.prog 237 #[.slice a len cap] w fun e w' => e = .returned (.func (.func 239) #[] #[.pointer (some ⟨w.heap.size, 0, none⟩)]) ∧ w' = w.alloc (.cells #[.slice a len cap] 305) := by
 refine callsIn_of_wp Tryz.func237 rfl h6 ?_ hro
 simp only [Tryz.ntmps237, List.size_toArray, List.length_cons, List.length_nil, Nat.reduceAdd, Nat.reduceSub, Array.replicate_succ, Array.replicate_zero, List.push_toArray, List.append_toArray, List.nil_append, List.cons_append]
 gi_wp2
 go_ret
 exact ⟨rfl, rfl⟩
def Bytes (n₀ : Nat) (W : World) (sv : Value) (zs : List Int) : Prop :=
 (sv = .slice none 0 0 ∧ zs = []) ∨ ∃ b off cap, sv = .slice (some ⟨b, off, none⟩) zs.length cap ∧ b < n₀ ∧ ∀ j, j < zs.length → W.cell? ⟨b, off + j, none⟩ = some (.int .u8 (zs[j]?.getD 0))
theorem Bytes.below {n₀ : Nat} {A B : World} (h : Below n₀ A B) {sv : Value} {zs : List Int} : Bytes n₀ A sv zs → Bytes n₀ B sv zs
 | .inl e => .inl e
 | .inr ⟨b, off, cap, e, hb, hc⟩ => .inr ⟨b, off, cap, e, hb, fun j hj => (h.cell (p := ⟨b, off + j, none⟩) hb).trans (hc j hj)⟩
theorem back_stops (F : Fence) (n : Nat) (h8 : F.fn 239) (hro : F.round = none) (hn : 1 ≤ n) (Bs n₀ : Nat) (sv : Value) (zs : List Int) (hreach : zs.length ≤ 140737488351232) (w : World) (hBs : Bs < w.heap.size) (hn₀ : n₀ ≤ w.heap.size)
  (hc : w.cell? ⟨Bs, 0, none⟩ = some sv) (hI : Bytes n₀ w sv zs) :
  SeqStopsK F n Tryz.prog 239 #[.pointer (some ⟨Bs, 0, none⟩)] (fun x : Int × Int => #[Value.int .i64 x.1, Value.int .u8 x.2]) (KeepB Bs n₀) (fun ys => ys = upTo (backAt zs zs.length) zs.length)
   (fun pre => ∃ k, k ≤ zs.length ∧ pre = upTo (backAt zs zs.length) k) zs.length w := fun l J Jx W hW _ _ hY h0 => by
 have hc' := (hW.cell (p := ⟨Bs, 0, none⟩) hBs).trans hc
 rcases hI.below (hW.mono hn₀) with ⟨rfl, rfl⟩ | ⟨b, off, cap, rfl, hb, hcs⟩
 ·exact (back1_nil_in F n h8 hro l Bs J W hc' h0).mono fun e W' ⟨he, hj⟩ => ⟨he, .inl ⟨_, rfl, hj⟩⟩
 ·exact back1_in F n h8 hro hn l Bs n₀ b off zs.length cap zs hreach hb J Jx hY W hc' hcs h0
def numStep (v : Int) (x : Int × Int) : Int := bits .or .u64 (IntKind.u64.wrap (v * 256)) (IntKind.u64.wrap x.2)
def leftOf (b off len cap n : Nat) : Value := .slice (some ⟨b, if cap = n then off else off + n, none⟩) (len - n) (cap - n)
set_option maxRecDepth 100000 in
set_option maxHeartbeats 1000000 in
theorem take_good (β b off len cap n : Nat) (w : World) (hn : 1 ≤ n) (hnl : n ≤ len) (hcap : len ≤ cap)
  (h0 : w.cell? ⟨β, 0, none⟩ = some (.slice (some ⟨b, off, none⟩) len cap)) (h1 : w.cell? ⟨β, 1, none⟩ = some (.bool false)) (hf : w.frozen? ⟨β, 0, none⟩ = false) :
  Calls Tryz.prog 238 #[.pointer (some ⟨β, 0, none⟩), .int .i64 n] w fun e W' => e = .returned (.slice (some ⟨b, off, none⟩) n cap) ∧ W' = w.setCell ⟨β, 0, none⟩ (leftOf b off len cap n) := by
 go_enter Tryz.func238, Tryz.ntmps238
 go_wp2
 ·go_ret
  exact ⟨rfl, by unfold leftOf; simp⟩
 ·have hcn : ¬ cap = n := by omega
  go_ret
  exact ⟨rfl, by unfold leftOf; rw [if_neg hcn]⟩
def gone (β : Nat) (w : World) : World := (w.setCell ⟨β, 0, none⟩ (.slice none 0 0)).setCell ⟨β, 1, none⟩ (.bool true)
set_option maxRecDepth 100000 in
set_option maxHeartbeats 1000000 in
theorem take_bad (β len cap n : Nat) (a : Option Addr) (bd : Bool) (w : World) (hbad : bd = true ∨ len < n)
  (h0 : w.cell? ⟨β, 0, none⟩ = some (.slice a len cap)) (h1 : w.cell? ⟨β, 1, none⟩ = some (.bool bd)) (hf : w.frozen? ⟨β, 0, none⟩ = false) (hf1 : w.frozen? ⟨β, 1, none⟩ = false) :
  Calls Tryz.prog 238 #[.pointer (some ⟨β, 0, none⟩), .int .i64 n] w fun e W' => e = .returned (.slice none 0 0) ∧ W' = gone β w := by
 cases bd with
 | true =>
  go_enter Tryz.func238, Tryz.ntmps238
  go_wp2
  go_ret
  exact ⟨rfl, rfl⟩
 | false =>
  have hbad : len < n := by simpa using hbad
  go_enter Tryz.func238, Tryz.ntmps238
  go_wp2
  go_ret
  exact ⟨rfl, rfl⟩
set_option maxRecDepth 100000 in
set_option maxHeartbeats 2000000 in
theorem number_bad (β len cap n : Nat) (ad : Option Addr) (bd : Bool) (w : World) (hbad : bd = true ∨ len < n) (hβ : β < w.heap.size)
  (h0 : w.cell? ⟨β, 0, none⟩ = some (.slice ad len cap)) (h1 : w.cell? ⟨β, 1, none⟩ = some (.bool bd)) (hf : w.frozen? ⟨β, 0, none⟩ = false) (hf1 : w.frozen? ⟨β, 1, none⟩ = false) :
  CallsIn Fence.wide 5 Tryz.prog 235 #[.pointer (some ⟨β, 0, none⟩), .int .i64 n] w fun e W' => e = .returned (.int .u64 0) ∧ Below w.heap.size (gone β w) W' := by
 refine callsIn_of_wp_marks Tryz.func235 rfl trivial ?_ rfl
 simp only [Tryz.ntmps235, List.size_toArray, List.length_cons, List.length_nil, Nat.reduceAdd, Nat.reduceSub, Array.replicate_succ, Array.replicate_zero, List.push_toArray, List.append_toArray, List.nil_append, List.cons_append]
 have h0' : (w.alloc (.cells #[.int .u64 0] 138)).cell? ⟨β, 0, none⟩ = some (.slice ad len cap) := by rw [World.cell?_alloc_lt _ _ _ hβ]; exact h0
 have h1' : (w.alloc (.cells #[.int .u64 0] 138)).cell? ⟨β, 1, none⟩ = some (.bool bd) := by rw [World.cell?_alloc_lt _ _ _ hβ]; exact h1
 have hf' : (w.alloc (.cells #[.int .u64 0] 138)).frozen? ⟨β, 0, none⟩ = false := by rw [frozen?_alloc_cells]; exact hf
 have hf1' : (w.alloc (.cells #[.int .u64 0] 138)).frozen? ⟨β, 1, none⟩ = false := by rw [frozen?_alloc_cells]; exact hf1
 gi_wp2_with (first | (refine ⟨trivial, ?_⟩; gi_at_call 237; refine (backward_in Fence.wide _ trivial rfl _ _ _ _).mono ?_; rintro e w' ⟨rfl, rfl⟩) | (refine ⟨trivial, ?_⟩; gi_at_call 238; refine (callsIn_wide.2 (take_bad β len cap n ad bd _ hbad h0' h1' hf' hf1')).mono ?_; rintro e w' ⟨rfl, rfl⟩; unfold gone))
 have hAs : (gone β w).heap.size = w.heap.size := by simp [gone]
 have hAe : (w.setCell ⟨β, 0, none⟩ (.slice none 0 0)).setCell ⟨β, 1, none⟩ (.bool true) = gone β w := rfl
 try rw [hAe]
 generalize hA : gone β w = A at hAs ⊢
 have bS := Boxed.new A 138 (.int .u64 0)
 have bN := Boxed.new (A.alloc (.cells #[.int .u64 0] 138)) 305 (.slice none 0 0)
 rw [World.size_alloc, hAs] at bN
 rw [hAs] at bS
 have hB0 : Below w.heap.size A ((A.alloc (.cells #[.int .u64 0] 138)).alloc (.cells #[.slice none 0 0] 305)) := ((Below.refl _ A).alloc (by omega) _).alloc (by simp; omega) _
 have hBy : Bytes w.heap.size A (.slice none 0 0) [] := .inl ⟨rfl, rfl⟩
 refine wpIn_rangeFunc_ownG rfl (by omega) (gf := 239) (lb := #[.pointer (some ⟨w.heap.size + 1, 0, none⟩)]) (by simp [Act.eval]) trivial (enters_of Tryz.func239 (by kernel_rfl) rfl)
  (back_stops Fence.wide 4 trivial rfl (by omega) (w.heap.size + 1) w.heap.size _ [] (by simp) _ (by simp; omega) (by simp; omega) bN.cell (hBy.below hB0)) KeepB.trans
  (fun W l o o' hl h hcl _ => ⟨fun v e => by
   have hne' : l ≠ w.heap.size + 1 := fun el => by
    subst el
    unfold World.cell? at e
    rw [h] at e
    cases o <;> simp_all [Obj.isCells]
   exact cell_kept e (grownBy_putObj' W l o') (fun r e => by cases e; exact ⟨_, h, hcl⟩), belowK_b (w := A) (by omega) W l o o' (by simp at hl; omega) h hcl (by assumption)⟩) (Below.refl _ _) (fun _ => rfl)
  (fun pre W => (W.cell? ⟨w.heap.size, 0, none⟩ = some (.int .u64 (pre.foldl numStep 0)) ∧ W.frozen? ⟨w.heap.size, 0, none⟩ = false) ∧ Below w.heap.size A W)
  (fun _ _ _ => False)
  (OwnFrom.and (Own.from (fun s A B row hs hg hr => ⟨cell_kept hs.1 hg hr, (frozen_kept hs.1 hg hr).trans hs.2⟩) _) (ownFrom_below (by omega) (by simp; omega)))
  (fun _ _ _ _ _ hs _ _ => hs)
  ⟨⟨(bS.alloc _).cell, (bS.alloc _).frozen⟩, hB0⟩
  (fun x => { tmps := #[.pointer (some ⟨β, 0, none⟩), .int .i64 n, undef, undef, .int .u64 0, .pointer (some ⟨w.heap.size, 0, none⟩), undef, .int .u8 x.2, .pointer (some ⟨β, 0, none⟩), .int .i64 n, .slice none 0 0, .func (.func 239) #[] #[.pointer (some ⟨w.heap.size + 1, 0, none⟩)], .int .i64 x.1, .int .u8 x.2, undef, undef, undef, undef, undef, undef], defers := [] }) ?assign ?body ?done ?stop
 case assign =>
  intro l x W K hK
  gi_wp2
  exact hK
 case body =>
  rintro l pre x W _ hlen
  exact absurd hlen (Nat.not_lt_zero _)
 case done =>
  rintro D ys W hD rfl ⟨⟨hc, _⟩, hB⟩ hK
  gi_wp2
  refine ⟨by simp, .inl ⟨_, _, rfl, run_takeDeferred hK, ?_⟩⟩
  exact ⟨_, results_tmp rfl _ _ _, rfl, by rw [hA]; exact hB.trans (belowK_b (w := A) (by omega) W D _ _ (by simp at hD; omega) hK rfl rfl)⟩
 case stop =>
  rintro D c pre W _ _ h _
  exact h.elim
set_option maxRecDepth 100000 in
set_option maxHeartbeats 2000000 in
theorem number_good (β b off len cap : Nat) (zs : List Int) (w : World) (hn : 1 ≤ zs.length) (hnl : zs.length ≤ len) (hcap : len ≤ cap) (hmax : zs.length ≤ 140737488351232) (hβ : β < w.heap.size)
  (hb : b < w.heap.size) (hne : b ≠ β) (h0 : w.cell? ⟨β, 0, none⟩ = some (.slice (some ⟨b, off, none⟩) len cap)) (h1 : w.cell? ⟨β, 1, none⟩ = some (.bool false)) (hf : w.frozen? ⟨β, 0, none⟩ = false)
  (hc : ∀ j, j < zs.length → w.cell? ⟨b, off + j, none⟩ = some (.int .u8 (zs[j]?.getD 0))) :
  CallsIn Fence.wide 5 Tryz.prog 235 #[.pointer (some ⟨β, 0, none⟩), .int .i64 (zs.length : Int)] w fun e W' => e = .returned (.int .u64 ((upTo (backAt zs zs.length) zs.length).foldl numStep 0)) ∧
   Below w.heap.size (w.setCell ⟨β, 0, none⟩ (leftOf b off len cap zs.length)) W' := by
 refine callsIn_of_wp_marks Tryz.func235 rfl trivial ?_ rfl
 simp only [Tryz.ntmps235, List.size_toArray, List.length_cons, List.length_nil, Nat.reduceAdd, Nat.reduceSub, Array.replicate_succ, Array.replicate_zero, List.push_toArray, List.append_toArray, List.nil_append, List.cons_append]
 have h0' : (w.alloc (.cells #[.int .u64 0] 138)).cell? ⟨β, 0, none⟩ = some (.slice (some ⟨b, off, none⟩) len cap) := by rw [World.cell?_alloc_lt _ _ _ hβ]; exact h0
 have h1' : (w.alloc (.cells #[.int .u64 0] 138)).cell? ⟨β, 1, none⟩ = some (.bool false) := by rw [World.cell?_alloc_lt _ _ _ hβ]; exact h1
 have hf' : (w.alloc (.cells #[.int .u64 0] 138)).frozen? ⟨β, 0, none⟩ = false := by rw [frozen?_alloc_cells]; exact hf
 gi_wp2_with (first | (refine ⟨trivial, ?_⟩; gi_at_call 237; refine (backward_in Fence.wide _ trivial rfl _ _ _ _).mono ?_; rintro e w' ⟨rfl, rfl⟩) | (refine ⟨trivial, ?_⟩; gi_at_call 238; refine (callsIn_wide.2 (take_good β b off len cap zs.length _ hn hnl hcap h0' h1' hf')).mono ?_; rintro e w' ⟨rfl, rfl⟩))
 have hAs : (w.setCell ⟨β, 0, none⟩ (leftOf b off len cap zs.length)).heap.size = w.heap.size := by simp
 generalize hA : w.setCell ⟨β, 0, none⟩ (leftOf b off len cap zs.length) = A at hAs ⊢
 have bS := Boxed.new A 138 (.int .u64 0)
 have bN := Boxed.new (A.alloc (.cells #[.int .u64 0] 138)) 305 (.slice (some ⟨b, off, none⟩) zs.length cap)
 rw [World.size_alloc, hAs] at bN
 rw [hAs] at bS
 have hB0 : Below w.heap.size A ((A.alloc (.cells #[.int .u64 0] 138)).alloc (.cells #[.slice (some ⟨b, off, none⟩) zs.length cap] 305)) := ((Below.refl _ A).alloc (by omega) _).alloc (by simp; omega) _
 have hBy : Bytes w.heap.size A (.slice (some ⟨b, off, none⟩) zs.length cap) zs := .inr ⟨b, off, cap, rfl, hb, fun j hj => by
  rw [← hA, World.cell?_setCell_other _ _ _ _ (by simp)]
  exact hc j hj⟩
 refine wpIn_rangeFunc_ownG rfl (by omega) (gf := 239) (lb := #[.pointer (some ⟨w.heap.size + 1, 0, none⟩)]) (by simp [Act.eval]) trivial (enters_of Tryz.func239 (by kernel_rfl) rfl)
  (back_stops Fence.wide 4 trivial rfl (by omega) (w.heap.size + 1) w.heap.size _ zs (by omega) _ (by simp; omega) (by simp; omega) bN.cell (hBy.below hB0)) KeepB.trans
  (fun W l o o' hl h hcl _ => ⟨fun v e => by
   have hne' : l ≠ w.heap.size + 1 := fun el => by
    subst el
    unfold World.cell? at e
    rw [h] at e
    cases o <;> simp_all [Obj.isCells]
   exact cell_kept e (grownBy_putObj' W l o') (fun r e => by cases e; exact ⟨_, h, hcl⟩), belowK_b (w := A) (by omega) W l o o' (by simp at hl; omega) h hcl (by assumption)⟩) (Below.refl _ _) (fun _ => rfl)
  (fun pre W => (W.cell? ⟨w.heap.size, 0, none⟩ = some (.int .u64 (pre.foldl numStep 0)) ∧ W.frozen? ⟨w.heap.size, 0, none⟩ = false) ∧ Below w.heap.size A W)
  (fun _ _ _ => False)
  (OwnFrom.and (Own.from (fun s A B row hs hg hr => ⟨cell_kept hs.1 hg hr, (frozen_kept hs.1 hg hr).trans hs.2⟩) _) (ownFrom_below (by omega) (by simp; omega)))
  (fun _ _ _ _ _ hs _ _ => hs)
  ⟨⟨(bS.alloc _).cell, (bS.alloc _).frozen⟩, hB0⟩
  (fun x => { tmps := #[.pointer (some ⟨β, 0, none⟩), .int .i64 (zs.length : Int), undef, undef, .int .u64 0, .pointer (some ⟨w.heap.size, 0, none⟩), undef, .int .u8 x.2, .pointer (some ⟨β, 0, none⟩), .int .i64 (zs.length : Int), .slice (some ⟨b, off, none⟩) zs.length cap, .func (.func 239) #[] #[.pointer (some ⟨w.heap.size + 1, 0, none⟩)], .int .i64 x.1, .int .u8 x.2, undef, undef, undef, undef, undef, undef], defers := [] }) ?assign ?body ?done ?stop
 case assign =>
  intro l x W K hK
  gi_wp2
  exact hK
 case body =>
  rintro l pre x W ⟨⟨hc, hf⟩, hB⟩ _
  gi_wp2
  refine ⟨(KeepsOthers.setCell _ _ _).from _, ⟨fun v e => ?_, (Below.refl w.heap.size W).setCell (p := ⟨w.heap.size, 0, none⟩) (Nat.le_refl _) _⟩, ⟨?_, by rw [World.frozen?_setCell]; exact hf⟩, hB.setCell (p := ⟨w.heap.size, 0, none⟩) (Nat.le_refl _) _⟩
  ·rw [World.cell?_setCell_other _ _ _ _ (by simp)]; exact e
  ·rw [List.foldl_append]; exact World.cell?_setCell_same' _ _ _ (by rw [hc]; rfl)
 case done =>
  rintro D ys W hD rfl ⟨⟨hc, _⟩, hB⟩ hK
  gi_wp2
  refine ⟨by simp, .inl ⟨_, _, rfl, run_takeDeferred hK, ?_⟩⟩
  exact ⟨_, results_tmp rfl _ _ _, rfl, by rw [hA]; exact hB.trans (belowK_b (w := A) (by omega) W D _ _ (by simp at hD; omega) hK rfl rfl)⟩
 case stop =>
  rintro D c pre W _ _ h _
  exact h.elim
end Go.Proofs.YthpljlpokmoeeaaGreatDoor
namespace Go.Proofs.YthpljlpokmoeeaaGreatDoor.Mir
open Go Go.RowKit
def numV (zs : List Int) : Int := (upTo (backAt zs zs.length) zs.length).foldl numStep 0
def rdF (n : Int) (xs : List Int) (bd : Bool) : Option (Int × List Int × Bool) :=
 bif decide (1 ≤ n ∧ n ≤ 140737488351232) then (bif bd || decide ((xs.length : Int) < n) then some (0, [], true) else some (numV (xs.take n.toNat), xs.drop n.toNat, false)) else none
def rdS : Sum := fnSum 2 1 1 [.one (.ptr 0 0), .one (.d (.int .i64)), .agg [.d (.sl [.int .u8]), .d .bool]] [.one (.d (.int .u64)), .agg [.d (.sl [.int .u8]), .d .bool]] (fun p => rdF p.2.1 p.2.2.1 p.2.2.2)
theorem ends1 {n : Nat} {PS RS : List ShA} {F : TAs PS → Option (TAs RS)} {al : List A} {cs cs' : List C} {r : TAs RS} {g : Gh} {w w' : World} {v : Value} {β : Nat} {vs : Array Value} {ty : TypeId}
  (htk : tksOf RS = []) (hB : Blks g w [cs]) (hk : Knows g w) (hj : g.j 0 = some β) (hout : ((fnSum n 1 1 PS RS F).out al [cs] r).2 = [cs'])
  (hv : RepV { K := g.K, j := g.j, th := fun _ _ => none } ((fnSum n 1 1 PS RS F).out al [cs] r).1 v)
  (hb : w'.heap[β]? = some (.cells vs ty (0, 0))) (hr : RepL { K := g.K, j := g.j, th := fun _ _ => none } cs' vs.toList) (ho : Only (fun k => k = β) w w') : Ends (fnSum n 1 1 PS RS F) al [cs] r g w v w' { K := g.K, j := g.j, th := fun _ _ => none } := by
 obtain ⟨β0, _, _, h1, h2, _, h4⟩ := hB.blk 0 cs rfl
 obtain rfl := Option.some.inj (hj.symm.trans h1)
 have dom : ∀ n β', g.j n = some β' → n = 0 := fun n β' e => by
  obtain ⟨i, h5, h6⟩ := hB.dom n β' e
  simp only [List.length_singleton] at h6
  omega
 refine ⟨fun _ _ _ e => e, fun _ _ _ e => .inl e, fun β' o u e => ?_, hv, ⟨fun i cs0 e => ?_, fun i k β' e1 e2 => ?_, fun m β' e => ?_⟩, ?_, fun i _ => rfl, fun i β' hi e => ?_, noTks (fun _ _ => rfl) (fun p => ?_), noLvs (fun p => ?_), fun β' ⟨n', e, cap, h⟩ => (by cases h), ?_⟩
 ·have hne : β' ≠ β := fun e' => by subst e'; have := h4 o; rw [this] at e; cases e
  have := hk β' o u e
  have hl := block_lt_of_cell this
  unfold World.cell? at this ⊢
  rw [ho.block β' hl hne]; exact this
 ·rw [hout] at e
  cases i with
  | zero => simp at e; subst e; exact ⟨β, vs, ty, h1, hb, hr, h4⟩
  | succ i => simp at e
 ·have := dom _ _ e1; have := dom _ _ e2; omega
 ·rw [hout]; exact ⟨0, dom m β' e, by simp⟩
 ·rw [hout]; simp
 ·have := dom _ _ e; simp at hi; omega
 ·show (tksOf RS)[p]? = none
  rw [htk]; rfl
 ·show (tksOf RS)[p]? = none
  rw [htk]; rfl
 ·exact ho.mono fun k _ e => .inl ⟨0, by simp, by subst e; exact h1⟩
theorem setCell_row {w : World} {β o : Nat} {vs : Array Value} {ty : TypeId} {u : Value} (h : w.heap[β]? = some (.cells vs ty (0, 0))) : (w.setCell ⟨β, o, none⟩ u).heap[β]? = some (.cells (vs.setIfInBounds o u) ty (0, 0)) := by
 have hl := (Array.getElem?_eq_some_iff.1 h).1
 have he := (Array.getElem?_eq_some_iff.1 h).2
 show (w.heap.modify β _)[β]? = _
 rw [Array.getElem?_eq_getElem (by simpa using hl), Array.getElem_modify_self, he]
 rfl
theorem frozen_row {w : World} {β o : Nat} {vs : Array Value} {ty : TypeId} (h : w.heap[β]? = some (.cells vs ty (0, 0))) : w.frozen? ⟨β, o, none⟩ = false := by
 simp [World.frozen?, h]
set_option maxRecDepth 100000 in
theorem rdS_ok {laid : List (Nat × Nat × Value)} : SumOk Tryz.prog laid 235 rdS := by
 intro al bs r hr g w vs hlaid hknown hA hB hTk hLv
 simp only [rdS, fnSum] at hr
 cases hk : (Nat.beq al.length 2 && Nat.beq bs.length 1) with
 | false => rw [hk] at hr; cases hr
 | true =>
  rw [hk] at hr
  simp only [cond_true] at hr
  simp only [Bool.and_eq_true] at hk
  obtain ⟨a0, a1, rfl⟩ : ∃ a0 a1, al = [a0, a1] := by
   match al, Nat.eq_of_beq_eq_true hk.1 with
   | [a0, a1], _ => exact ⟨a0, a1, rfl⟩
  obtain ⟨cs, rfl⟩ : ∃ cs, bs = [cs] := by
   match bs, Nat.eq_of_beq_eq_true hk.2 with
   | [cs], _ => exact ⟨cs, rfl⟩
  split at hr
  ·rename_i p ep
   obtain ⟨u, n, xs, bd⟩ := p
   simp only at hr
   obtain ⟨d1, d2⟩ := decAs_get ep
   obtain ⟨x0, _, rfl, h0, x1, _, rfl, h1, rfl⟩ := hA
   obtain ⟨a0', e0, q0, _⟩ := d2 0 a0 rfl
   obtain rfl := Option.some.inj e0
   obtain ⟨β, hj, rfl⟩ : RepC g (.ptr 0 0) x0 := q0 g x0 h0
   obtain ⟨a1', e1, q1, _⟩ := d2 1 a1 rfl
   obtain rfl := Option.some.inj e1
   obtain rfl : x1 = .int .i64 n := q1 g x1 h1
   obtain ⟨a2', e2, q2, _⟩ := d2 2 (.agg cs) rfl
   obtain rfl := Option.some.inj e2
   obtain ⟨β', vs', ty, hb1, hb2, hb3, hb4⟩ := hB.blk 0 cs rfl
   obtain rfl := Option.some.inj (hj.symm.trans hb1)
   obtain ⟨us, eu, hu⟩ := q2 g (.agg vs') ⟨vs'.toList, by simp, hb3⟩
   injection eu with eu
   subst eu
   obtain ⟨sv, _, rfl, hs, bv, _, rfl, hv, rfl⟩ : RepL g [.sl none [.int .u8] xs, boolC bd] us := hu
   obtain rfl : bv = .bool bd := hv
   have hβ : β < w.heap.size := (Array.getElem?_eq_some_iff.1 hb2).1
   have c0 : w.cell? ⟨β, 0, none⟩ = some sv := by rw [cell_row hb2]; rfl
   have c1 : w.cell? ⟨β, 1, none⟩ = some (.bool bd) := by rw [cell_row hb2]; rfl
   have f0 := frozen_row (o := 0) hb2
   have f1 := frozen_row (o := 1) hb2
   unfold rdF at hr
   cases hn : decide (1 ≤ n ∧ n ≤ 140737488351232) with
   | false => rw [hn] at hr; cases hr
   | true =>
    rw [hn] at hr
    simp only [cond_true] at hr
    obtain ⟨hn1, hn2⟩ := of_decide_eq_true hn
    obtain ⟨m, hm⟩ := Int.eq_ofNat_of_zero_le (a := n) (Int.le_trans (by decide) hn1)
    subst hm
    have hn1 : (1 : Int) ≤ (m : Int) := hn1
    have hn2 : (m : Int) ≤ (140737488351232 : Int) := hn2
    have hslice : ∃ ad cap, sv = .slice ad xs.length cap := by
     rcases hs.1 with ⟨rfl, ad, cz, rfl⟩ | ⟨b, off, cap, rfl, _⟩
     ·exact ⟨ad, cz, rfl⟩
     ·exact ⟨_, cap, rfl⟩
    cases hbad : (bd || decide ((xs.length : Int) < (m : Int))) with
    | true =>
     rw [hbad] at hr
     obtain rfl := Option.some.inj hr
     obtain ⟨ad, cap, rfl⟩ := hslice
     have hb' : bd = true ∨ xs.length < m := by
      rcases Bool.or_eq_true_iff.1 hbad with h | h
      ·exact .inl h
      ·have h2 : ((List.length (α := Int) xs : Nat) : Int) < (m : Int) := of_decide_eq_true h
       exact .inr (by omega)
     have hC := callsIn_wide.1 (number_bad β xs.length cap m ad bd w hb' hβ c0 c1 f0 f1)
     refine invokes_of_calls Tryz.func235 (by kernel_rfl) rfl (Calls.mono hC ?_)
     rintro e w' ⟨rfl, hw⟩
     refine ⟨_, rfl, _, ends1 (cs := cs) (cs' := [.sl none [.int .u8] [], boolC true]) (β := β) (vs := #[.slice none 0 0, .bool true]) (ty := ty) rfl hB hknown hj rfl rfl ?_ ?_ ?_⟩
     ·rw [hw.block β hβ]
      exact setCell_row (setCell_row hb2)
     ·exact ⟨_, _, rfl, ⟨.inl ⟨rfl, none, 0, rfl⟩, fun _ _ e => by cases e⟩, _, _, rfl, rfl, rfl⟩
     ·refine ⟨hw.os, hw.tape, hw.output, ?_, fun k hk hne => ?_⟩
      ·have := hw.size; simpa [gone] using this
      ·rw [hw.block k hk]
       unfold gone
       rw [Below.heap_setCell _ _ _ _ hne, Below.heap_setCell _ _ _ _ hne]
    | false =>
     rw [hbad] at hr
     obtain rfl := Option.some.inj hr
     obtain ⟨rfl, hlt⟩ := Bool.or_eq_false_iff.1 hbad
     have hlt : ¬ (((List.length (α := Int) xs : Nat) : Int) < (m : Int)) := of_decide_eq_false hlt
     rcases hs.1 with ⟨rfl, _⟩ | ⟨b, off, cap, rfl, hcap, hel⟩
     ·simp at hlt; omega
     have hcap : List.length (α := Int) xs ≤ cap := hcap
     have hbl : ∀ j, j < List.length (α := Int) xs → g.K b (off + j) = some (.int .u8 (xs[j]?.getD 0)) := fun j hj => by
      obtain ⟨us, u1, u2, u3⟩ := hel j xs[j] (List.getElem?_eq_getElem hj)
      obtain rfl : us = [Value.int .u8 xs[j]] := u2
      have := u3 0 _ rfl
      rw [List.getElem?_eq_getElem hj]
      simpa [widSL, widS] using this
     have hbK := hbl 0 (by omega)
     have hbs : b < w.heap.size := block_lt_of_cell (hknown _ _ _ hbK)
     have hne : b ≠ β := fun e => by subst e; rw [hb4] at hbK; cases hbK
     have hzl : (xs.take m).length = m := by rw [List.length_take]; omega
     have hC := callsIn_wide.1 (number_good β b off xs.length cap (xs.take m) w (by omega) (by omega) hcap (by omega) hβ hbs hne c0 c1 f0 (fun j hj => by
      rw [hknown _ _ _ (hbl j (by omega)), List.getElem?_take, if_pos (by omega)]))
     rw [hzl] at hC
     refine invokes_of_calls Tryz.func235 (by kernel_rfl) rfl (Calls.mono hC ?_)
     rintro e w' ⟨rfl, hw⟩
     refine ⟨_, rfl, _, ends1 (cs := cs) (cs' := [.sl none [.int .u8] (xs.drop m), boolC false]) (β := β) (vs := #[leftOf b off xs.length cap m, .bool false]) (ty := ty) rfl hB hknown hj rfl ?_ ?_ ?_ ?_⟩
     ·show Value.int .u64 _ = Value.int .u64 (numV (xs.take m))
      unfold numV
      rw [hzl]
     ·rw [hw.block β hβ]
      exact setCell_row hb2
     ·refine ⟨_, _, rfl, ⟨?_, fun _ _ e => by cases e⟩, _, _, rfl, rfl, rfl⟩
      show RowS g.K _ _ (xs.drop m) (leftOf b off xs.length cap m)
      unfold leftOf
      refine .inr ⟨b, if cap = m then off else off + m, cap - m, by simp, by simp; omega, fun i x hx => ?_⟩
      rw [List.getElem?_drop] at hx
      have hi := (List.getElem?_eq_some_iff.1 hx).1
      obtain ⟨us, u1, u2, u3⟩ := hel (m + i) x hx
      refine ⟨us, u1, u2, fun j u hu => ?_⟩
      rw [if_neg (by omega)]
      have := u3 j u hu
      rw [show off + m + (i * widSL [.int .u8] + j) = off + ((m + i) * widSL [.int .u8] + j) by simp [widSL, widS]; omega]
      exact this
     ·refine ⟨hw.os, hw.tape, hw.output, ?_, fun k hk hne => ?_⟩
      ·have := hw.size; simpa using this
      ·rw [hw.block k hk, Below.heap_setCell _ _ _ _ hne]
  ·cases hr
end Go.Proofs.YthpljlpokmoeeaaGreatDoor.Mir
namespace Go.Proofs.YthpljlpokmoeeaaGreatDoor.Mir
open Go Go.RowKit
set_option maxRecDepth 1000000
def trimF (s c : ByteArray) : Option (TAs [.one (.d .str)]) := bif Nat.blt c.size 4294967281 && c.data.toList.all (fun b => Nat.blt b.toNat 128) then some ⟨(Lib.trimLeftS s.data.toList c.data.toList).toArray⟩ else none
def trimS : Sum := fnSum 2 0 1 [.one (.d .str), .one (.d .str)] [.one (.d .str)] (fun p => trimF p.1 p.2)
theorem trimS_ok : SumOk Tryz.prog laidL 70 trimS := by
 refine bridge rfl (fun _ => rfl) ?_
 rintro ⟨s, c⟩ r h g w vs _ ⟨_, _, rfl, hs, _, _, rfl, hc, rfl⟩
 simp only [trimF] at h
 cases hk : (Nat.blt c.size 4294967281 && c.data.toList.all (fun b => Nat.blt b.toNat 128)) with
 | false => rw [hk] at h; cases h
 | true =>
  rw [hk] at h
  obtain rfl := Option.some.inj h
  simp only [Bool.and_eq_true] at hk
  cases hs; cases hc
  refine invokes_of_calls Tryz.func70 (by kernel_rfl) (by kernel_rfl) ((Any.strings_TrimLeft_laid Tryz.lays161 (by kernel_rfl) s c w (Nat.le_of_ble_eq_true hk.1) (fun j b hb => ?_)).mono ?_)
  ·exact Nat.le_of_ble_eq_true (List.all_eq_true.1 hk.2 b (List.mem_of_getElem? hb))
  ·rintro e w' ⟨rfl, hw⟩
   exact ⟨_, rfl, rfl, hw⟩
end Go.Proofs.YthpljlpokmoeeaaGreatDoor.Mir
namespace Go.Proofs.YthpljlpokmoeeaaGreatDoor.Mir
open Go Go.RowKit
set_option maxRecDepth 100000
def ti_2 : TI := ⟨.int .i64, 1, 8, [int .i64 0], [.int .i64]⟩
theorem tk_2 : TyOk1 Go.Proofs.Tryz.prog 2 ti_2 := ⟨by kernel_rfl, fieldsNone (fun fs h => by cases h), ⟨Go.Proofs.Tryz.t2, (Go.Proofs.Tryz.t2.zero).getD .nilIface, by kernel_rfl, by kernel_rfl, by kernel_rfl, by kernel_rfl, by kernel_rfl⟩⟩
def ti_3 : TI := ⟨.int .i64, 1, 8, [int .i64 0], [.int .i64]⟩
theorem tk_3 : TyOk1 Go.Proofs.Tryz.prog 3 ti_3 := ⟨by kernel_rfl, fieldsNone (fun fs h => by cases h), ⟨Go.Proofs.Tryz.t3, (Go.Proofs.Tryz.t3.zero).getD .nilIface, by kernel_rfl, by kernel_rfl, by kernel_rfl, by kernel_rfl, by kernel_rfl⟩⟩
def ti_4 : TI := ⟨.bool, 1, 1, [boolC false], [.bool]⟩
theorem tk_4 : TyOk1 Go.Proofs.Tryz.prog 4 ti_4 := ⟨by kernel_rfl, fieldsNone (fun fs h => by cases h), ⟨Go.Proofs.Tryz.t4, (Go.Proofs.Tryz.t4.zero).getD .nilIface, by kernel_rfl, by kernel_rfl, by kernel_rfl, by kernel_rfl, by kernel_rfl⟩⟩
def ti_5 : TI := ⟨.int .u8, 1, 1, [int .u8 0], [.int .u8]⟩
theorem tk_5 : TyOk1 Go.Proofs.Tryz.prog 5 ti_5 := ⟨by kernel_rfl, fieldsNone (fun fs h => by cases h), ⟨Go.Proofs.Tryz.t5, (Go.Proofs.Tryz.t5.zero).getD .nilIface, by kernel_rfl, by kernel_rfl, by kernel_rfl, by kernel_rfl, by kernel_rfl⟩⟩
def ti_9 : TI := ⟨.string, 1, 16, [.lit (.string ByteArray.empty)], [.str]⟩
theorem tk_9 : TyOk1 Go.Proofs.Tryz.prog 9 ti_9 := ⟨by kernel_rfl, fieldsNone (fun fs h => by cases h), ⟨Go.Proofs.Tryz.t9, (Go.Proofs.Tryz.t9.zero).getD .nilIface, by kernel_rfl, by kernel_rfl, by kernel_rfl, by kernel_rfl, by kernel_rfl⟩⟩
def ti_28 : TI := ⟨.struct #[{ name := "Kind", type := 3, offset := 0, embedded := false, tag := "", pkgPath := "", byteOffset := 0 }, { name := "Before", type := 2, offset := 1, embedded := false, tag := "", pkgPath := "", byteOffset := 8 }, { name := "After", type := 2, offset := 2, embedded := false, tag := "", pkgPath := "", byteOffset := 16 }], 3, 24, [int .i64 0, int .i64 0, int .i64 0], [.int .i64, .int .i64, .int .i64]⟩
theorem tk_28 : TyOk1 Go.Proofs.Tryz.prog 28 ti_28 := ⟨by kernel_rfl, fieldsSome rfl (by kernel_rfl), ⟨Go.Proofs.Tryz.t28, (Go.Proofs.Tryz.t28.zero).getD .nilIface, by kernel_rfl, by kernel_rfl, by kernel_rfl, by kernel_rfl, by kernel_rfl⟩⟩
def ti_30 : TI := ⟨.struct #[{ name := "Width", type := 2, offset := 0, embedded := false, tag := "", pkgPath := "", byteOffset := 0 }, { name := "Cell", type := 2, offset := 1, embedded := false, tag := "", pkgPath := "", byteOffset := 8 }], 2, 16, [int .i64 0, int .i64 0], [.int .i64, .int .i64]⟩
theorem tk_30 : TyOk1 Go.Proofs.Tryz.prog 30 ti_30 := ⟨by kernel_rfl, fieldsSome rfl (by kernel_rfl), ⟨Go.Proofs.Tryz.t30, (Go.Proofs.Tryz.t30.zero).getD .nilIface, by kernel_rfl, by kernel_rfl, by kernel_rfl, by kernel_rfl, by kernel_rfl⟩⟩
def ti_31 : TI := ⟨.slice 124, 1, 24, [.lit (.slice none 0 0)], [.sl [.int .i64, .int .i64, .str]]⟩
theorem tk_31 : TyOk1 Go.Proofs.Tryz.prog 31 ti_31 := ⟨by kernel_rfl, fieldsNone (fun fs h => by cases h), ⟨Go.Proofs.Tryz.t31, (Go.Proofs.Tryz.t31.zero).getD .nilIface, by kernel_rfl, by kernel_rfl, by kernel_rfl, by kernel_rfl, by kernel_rfl⟩⟩
def ti_33 : TI := ⟨.struct #[{ name := "Name", type := 9, offset := 0, embedded := false, tag := "", pkgPath := "", byteOffset := 0 }, { name := "First", type := 2, offset := 1, embedded := false, tag := "", pkgPath := "", byteOffset := 16 }, { name := "L", type := 31, offset := 2, embedded := false, tag := "", pkgPath := "", byteOffset := 24 }], 3, 48, [.lit (.string ByteArray.empty), int .i64 0, .lit (.slice none 0 0)], [.str, .int .i64, .sl [.int .i64, .int .i64, .str]]⟩
theorem tk_33 : TyOk1 Go.Proofs.Tryz.prog 33 ti_33 := ⟨by kernel_rfl, fieldsSome rfl (by kernel_rfl), ⟨Go.Proofs.Tryz.t33, (Go.Proofs.Tryz.t33.zero).getD .nilIface, by kernel_rfl, by kernel_rfl, by kernel_rfl, by kernel_rfl, by kernel_rfl⟩⟩
def ti_35 : TI := ⟨.struct #[{ name := "Smear", type := 28, offset := 0, embedded := false, tag := "", pkgPath := "", byteOffset := 0 }, { name := "Quantum", type := 2, offset := 3, embedded := false, tag := "", pkgPath := "", byteOffset := 24 }, { name := "Fuzz", type := 30, offset := 4, embedded := false, tag := "", pkgPath := "", byteOffset := 32 }, { name := "Jump", type := 4, offset := 6, embedded := false, tag := "", pkgPath := "", byteOffset := 48 }, { name := "Zone", type := 33, offset := 7, embedded := false, tag := "", pkgPath := "", byteOffset := 56 }], 10, 104, [int .i64 0, int .i64 0, int .i64 0, int .i64 0, int .i64 0, int .i64 0, boolC false, .lit (.string ByteArray.empty), int .i64 0, .lit (.slice none 0 0)], [.int .i64, .int .i64, .int .i64, .int .i64, .int .i64, .int .i64, .bool, .str, .int .i64, .sl [.int .i64, .int .i64, .str]]⟩
theorem tk_35 : TyOk1 Go.Proofs.Tryz.prog 35 ti_35 := ⟨by kernel_rfl, fieldsSome rfl (by kernel_rfl), ⟨Go.Proofs.Tryz.t35, (Go.Proofs.Tryz.t35.zero).getD .nilIface, by kernel_rfl, by kernel_rfl, by kernel_rfl, by kernel_rfl, by kernel_rfl⟩⟩
def ti_36 : TI := ⟨.array 3 2, 3, 24, [.arr .i64 3 (List.replicate 3 0)], [.arr .i64 3]⟩
theorem tk_36 : TyOk1 Go.Proofs.Tryz.prog 36 ti_36 := ⟨by kernel_rfl, fieldsNone (fun fs h => by cases h), ⟨Go.Proofs.Tryz.t36, (Go.Proofs.Tryz.t36.zero).getD .nilIface, by kernel_rfl, by kernel_rfl, by kernel_rfl, by kernel_rfl, by kernel_rfl⟩⟩
def ti_43 : TI := ⟨.struct #[{ name := "Kind", type := 3, offset := 0, embedded := false, tag := "", pkgPath := "", byteOffset := 0 }, { name := "Before", type := 2, offset := 1, embedded := false, tag := "", pkgPath := "", byteOffset := 8 }, { name := "After", type := 2, offset := 2, embedded := false, tag := "", pkgPath := "", byteOffset := 16 }], 3, 24, [int .i64 0, int .i64 0, int .i64 0], [.int .i64, .int .i64, .int .i64]⟩
theorem tk_43 : TyOk1 Go.Proofs.Tryz.prog 43 ti_43 := ⟨by kernel_rfl, fieldsSome rfl (by kernel_rfl), ⟨Go.Proofs.Tryz.t43, (Go.Proofs.Tryz.t43.zero).getD .nilIface, by kernel_rfl, by kernel_rfl, by kernel_rfl, by kernel_rfl, by kernel_rfl⟩⟩
def ti_44 : TI := ⟨.struct #[{ name := "Width", type := 2, offset := 0, embedded := false, tag := "", pkgPath := "", byteOffset := 0 }, { name := "Cell", type := 2, offset := 1, embedded := false, tag := "", pkgPath := "", byteOffset := 8 }], 2, 16, [int .i64 0, int .i64 0], [.int .i64, .int .i64]⟩
theorem tk_44 : TyOk1 Go.Proofs.Tryz.prog 44 ti_44 := ⟨by kernel_rfl, fieldsSome rfl (by kernel_rfl), ⟨Go.Proofs.Tryz.t44, (Go.Proofs.Tryz.t44.zero).getD .nilIface, by kernel_rfl, by kernel_rfl, by kernel_rfl, by kernel_rfl, by kernel_rfl⟩⟩
def ti_45 : TI := ⟨.slice 195, 1, 24, [.lit (.slice none 0 0)], [.sl [.int .i64, .int .i64, .str]]⟩
theorem tk_45 : TyOk1 Go.Proofs.Tryz.prog 45 ti_45 := ⟨by kernel_rfl, fieldsNone (fun fs h => by cases h), ⟨Go.Proofs.Tryz.t45, (Go.Proofs.Tryz.t45.zero).getD .nilIface, by kernel_rfl, by kernel_rfl, by kernel_rfl, by kernel_rfl, by kernel_rfl⟩⟩
def ti_47 : TI := ⟨.struct #[{ name := "Name", type := 9, offset := 0, embedded := false, tag := "", pkgPath := "", byteOffset := 0 }, { name := "First", type := 2, offset := 1, embedded := false, tag := "", pkgPath := "", byteOffset := 16 }, { name := "L", type := 45, offset := 2, embedded := false, tag := "", pkgPath := "", byteOffset := 24 }], 3, 48, [.lit (.string ByteArray.empty), int .i64 0, .lit (.slice none 0 0)], [.str, .int .i64, .sl [.int .i64, .int .i64, .str]]⟩
theorem tk_47 : TyOk1 Go.Proofs.Tryz.prog 47 ti_47 := ⟨by kernel_rfl, fieldsSome rfl (by kernel_rfl), ⟨Go.Proofs.Tryz.t47, (Go.Proofs.Tryz.t47.zero).getD .nilIface, by kernel_rfl, by kernel_rfl, by kernel_rfl, by kernel_rfl, by kernel_rfl⟩⟩
def ti_49 : TI := ⟨.struct #[{ name := "Smear", type := 43, offset := 0, embedded := false, tag := "", pkgPath := "", byteOffset := 0 }, { name := "Quantum", type := 2, offset := 3, embedded := false, tag := "", pkgPath := "", byteOffset := 24 }, { name := "Fuzz", type := 44, offset := 4, embedded := false, tag := "", pkgPath := "", byteOffset := 32 }, { name := "Jump", type := 4, offset := 6, embedded := false, tag := "", pkgPath := "", byteOffset := 48 }, { name := "Zone", type := 47, offset := 7, embedded := false, tag := "", pkgPath := "", byteOffset := 56 }], 10, 104, [int .i64 0, int .i64 0, int .i64 0, int .i64 0, int .i64 0, int .i64 0, boolC false, .lit (.string ByteArray.empty), int .i64 0, .lit (.slice none 0 0)], [.int .i64, .int .i64, .int .i64, .int .i64, .int .i64, .int .i64, .bool, .str, .int .i64, .sl [.int .i64, .int .i64, .str]]⟩
theorem tk_49 : TyOk1 Go.Proofs.Tryz.prog 49 ti_49 := ⟨by kernel_rfl, fieldsSome rfl (by kernel_rfl), ⟨Go.Proofs.Tryz.t49, (Go.Proofs.Tryz.t49.zero).getD .nilIface, by kernel_rfl, by kernel_rfl, by kernel_rfl, by kernel_rfl, by kernel_rfl⟩⟩
def ti_54 : TI := ⟨.interface #[("Error", 349)], 1, 16, [.lit .nilIface], [.err 129]⟩
theorem tk_54 : TyOk1 Go.Proofs.Tryz.prog 54 ti_54 := ⟨by kernel_rfl, fieldsNone (fun fs h => by cases h), ⟨Go.Proofs.Tryz.t54, (Go.Proofs.Tryz.t54.zero).getD .nilIface, by kernel_rfl, by kernel_rfl, by kernel_rfl, by kernel_rfl, by kernel_rfl⟩⟩
def ti_65 : TI := ⟨.struct #[{ name := "Value", type := 2, offset := 0, embedded := false, tag := "", pkgPath := "", byteOffset := 0 }, { name := "Bound", type := 2, offset := 1, embedded := false, tag := "", pkgPath := "", byteOffset := 8 }, { name := "Raised", type := 2, offset := 2, embedded := false, tag := "", pkgPath := "", byteOffset := 16 }, { name := "Host", type := 2, offset := 3, embedded := false, tag := "", pkgPath := "", byteOffset := 24 }], 4, 32, [int .i64 0, int .i64 0, int .i64 0, int .i64 0], [.int .i64, .int .i64, .int .i64, .int .i64]⟩
theorem tk_65 : TyOk1 Go.Proofs.Tryz.prog 65 ti_65 := ⟨by kernel_rfl, fieldsSome rfl (by kernel_rfl), ⟨Go.Proofs.Tryz.t65, (Go.Proofs.Tryz.t65.zero).getD .nilIface, by kernel_rfl, by kernel_rfl, by kernel_rfl, by kernel_rfl, by kernel_rfl⟩⟩
def ti_71 : TI := ⟨.array 16 5, 16, 16, [.arr .u8 16 (List.replicate 16 0)], [.arr .u8 16]⟩
theorem tk_71 : TyOk1 Go.Proofs.Tryz.prog 71 ti_71 := ⟨by kernel_rfl, fieldsNone (fun fs h => by cases h), ⟨Go.Proofs.Tryz.t71, (Go.Proofs.Tryz.t71.zero).getD .nilIface, by kernel_rfl, by kernel_rfl, by kernel_rfl, by kernel_rfl, by kernel_rfl⟩⟩
def ti_73 : TI := ⟨.struct #[{ name := "On", type := 4, offset := 0, embedded := false, tag := "", pkgPath := "", byteOffset := 0 }, { name := "At", type := 2, offset := 1, embedded := false, tag := "", pkgPath := "", byteOffset := 8 }, { name := "Lost", type := 2, offset := 2, embedded := false, tag := "", pkgPath := "", byteOffset := 16 }], 3, 24, [boolC false, int .i64 0, int .i64 0], [.bool, .int .i64, .int .i64]⟩
theorem tk_73 : TyOk1 Go.Proofs.Tryz.prog 73 ti_73 := ⟨by kernel_rfl, fieldsSome rfl (by kernel_rfl), ⟨Go.Proofs.Tryz.t73, (Go.Proofs.Tryz.t73.zero).getD .nilIface, by kernel_rfl, by kernel_rfl, by kernel_rfl, by kernel_rfl, by kernel_rfl⟩⟩
def ti_75 : TI := ⟨.struct #[{ name := "Set", type := 4, offset := 0, embedded := false, tag := "", pkgPath := "", byteOffset := 0 }, { name := "At", type := 2, offset := 1, embedded := false, tag := "", pkgPath := "", byteOffset := 8 }], 2, 16, [boolC false, int .i64 0], [.bool, .int .i64]⟩
theorem tk_75 : TyOk1 Go.Proofs.Tryz.prog 75 ti_75 := ⟨by kernel_rfl, fieldsSome rfl (by kernel_rfl), ⟨Go.Proofs.Tryz.t75, (Go.Proofs.Tryz.t75.zero).getD .nilIface, by kernel_rfl, by kernel_rfl, by kernel_rfl, by kernel_rfl, by kernel_rfl⟩⟩
def ti_77 : TI := ⟨.struct #[{ name := "Name", type := 9, offset := 0, embedded := false, tag := "", pkgPath := "", byteOffset := 0 }, { name := "Key", type := 71, offset := 1, embedded := false, tag := "", pkgPath := "", byteOffset := 16 }, { name := "P", type := 35, offset := 17, embedded := false, tag := "", pkgPath := "", byteOffset := 32 }, { name := "Pause", type := 73, offset := 27, embedded := false, tag := "", pkgPath := "", byteOffset := 136 }, { name := "Floor", type := 75, offset := 30, embedded := false, tag := "", pkgPath := "", byteOffset := 160 }, { name := "Epoch", type := 2, offset := 32, embedded := false, tag := "", pkgPath := "", byteOffset := 176 }], 33, 184, [.lit (.string ByteArray.empty), .arr .u8 16 (List.replicate 16 0), int .i64 0, int .i64 0, int .i64 0, int .i64 0, int .i64 0, int .i64 0, boolC false, .lit (.string ByteArray.empty), int .i64 0, .lit (.slice none 0 0), boolC false, int .i64 0, int .i64 0, boolC false, int .i64 0, int .i64 0], [.str, .arr .u8 16, .int .i64, .int .i64, .int .i64, .int .i64, .int .i64, .int .i64, .bool, .str, .int .i64, .sl [.int .i64, .int .i64, .str], .bool, .int .i64, .int .i64, .bool, .int .i64, .int .i64]⟩
theorem tk_77 : TyOk1 Go.Proofs.Tryz.prog 77 ti_77 := ⟨by kernel_rfl, fieldsSome rfl (by kernel_rfl), ⟨Go.Proofs.Tryz.t77, (Go.Proofs.Tryz.t77.zero).getD .nilIface, by kernel_rfl, by kernel_rfl, by kernel_rfl, by kernel_rfl, by kernel_rfl⟩⟩
def ti_78 : TI := ⟨.slice 2, 1, 24, [.lit (.slice none 0 0)], [.sl [.int .i64]]⟩
theorem tk_78 : TyOk1 Go.Proofs.Tryz.prog 78 ti_78 := ⟨by kernel_rfl, fieldsNone (fun fs h => by cases h), ⟨Go.Proofs.Tryz.t78, (Go.Proofs.Tryz.t78.zero).getD .nilIface, by kernel_rfl, by kernel_rfl, by kernel_rfl, by kernel_rfl, by kernel_rfl⟩⟩
def ti_80 : TI := ⟨.struct #[{ name := "Base", type := 2, offset := 0, embedded := false, tag := "", pkgPath := "", byteOffset := 0 }, { name := "Last", type := 2, offset := 1, embedded := false, tag := "", pkgPath := "", byteOffset := 8 }, { name := "L", type := 78, offset := 2, embedded := false, tag := "", pkgPath := "", byteOffset := 16 }], 3, 40, [int .i64 0, int .i64 0, .lit (.slice none 0 0)], [.int .i64, .int .i64, .sl [.int .i64]]⟩
theorem tk_80 : TyOk1 Go.Proofs.Tryz.prog 80 ti_80 := ⟨by kernel_rfl, fieldsSome rfl (by kernel_rfl), ⟨Go.Proofs.Tryz.t80, (Go.Proofs.Tryz.t80.zero).getD .nilIface, by kernel_rfl, by kernel_rfl, by kernel_rfl, by kernel_rfl, by kernel_rfl⟩⟩
def ti_81 : TI := ⟨.array 16 5, 16, 16, [.arr .u8 16 (List.replicate 16 0)], [.arr .u8 16]⟩
theorem tk_81 : TyOk1 Go.Proofs.Tryz.prog 81 ti_81 := ⟨by kernel_rfl, fieldsNone (fun fs h => by cases h), ⟨Go.Proofs.Tryz.t81, (Go.Proofs.Tryz.t81.zero).getD .nilIface, by kernel_rfl, by kernel_rfl, by kernel_rfl, by kernel_rfl, by kernel_rfl⟩⟩
def ti_82 : TI := ⟨.struct #[{ name := "On", type := 4, offset := 0, embedded := false, tag := "", pkgPath := "", byteOffset := 0 }, { name := "At", type := 2, offset := 1, embedded := false, tag := "", pkgPath := "", byteOffset := 8 }, { name := "Lost", type := 2, offset := 2, embedded := false, tag := "", pkgPath := "", byteOffset := 16 }], 3, 24, [boolC false, int .i64 0, int .i64 0], [.bool, .int .i64, .int .i64]⟩
theorem tk_82 : TyOk1 Go.Proofs.Tryz.prog 82 ti_82 := ⟨by kernel_rfl, fieldsSome rfl (by kernel_rfl), ⟨Go.Proofs.Tryz.t82, (Go.Proofs.Tryz.t82.zero).getD .nilIface, by kernel_rfl, by kernel_rfl, by kernel_rfl, by kernel_rfl, by kernel_rfl⟩⟩
def ti_83 : TI := ⟨.struct #[{ name := "Set", type := 4, offset := 0, embedded := false, tag := "", pkgPath := "", byteOffset := 0 }, { name := "At", type := 2, offset := 1, embedded := false, tag := "", pkgPath := "", byteOffset := 8 }], 2, 16, [boolC false, int .i64 0], [.bool, .int .i64]⟩
theorem tk_83 : TyOk1 Go.Proofs.Tryz.prog 83 ti_83 := ⟨by kernel_rfl, fieldsSome rfl (by kernel_rfl), ⟨Go.Proofs.Tryz.t83, (Go.Proofs.Tryz.t83.zero).getD .nilIface, by kernel_rfl, by kernel_rfl, by kernel_rfl, by kernel_rfl, by kernel_rfl⟩⟩
def ti_85 : TI := ⟨.struct #[{ name := "Name", type := 9, offset := 0, embedded := false, tag := "", pkgPath := "", byteOffset := 0 }, { name := "Key", type := 81, offset := 1, embedded := false, tag := "", pkgPath := "", byteOffset := 16 }, { name := "P", type := 49, offset := 17, embedded := false, tag := "", pkgPath := "", byteOffset := 32 }, { name := "Pause", type := 82, offset := 27, embedded := false, tag := "", pkgPath := "", byteOffset := 136 }, { name := "Floor", type := 83, offset := 30, embedded := false, tag := "", pkgPath := "", byteOffset := 160 }, { name := "Epoch", type := 2, offset := 32, embedded := false, tag := "", pkgPath := "", byteOffset := 176 }], 33, 184, [.lit (.string ByteArray.empty), .arr .u8 16 (List.replicate 16 0), int .i64 0, int .i64 0, int .i64 0, int .i64 0, int .i64 0, int .i64 0, boolC false, .lit (.string ByteArray.empty), int .i64 0, .lit (.slice none 0 0), boolC false, int .i64 0, int .i64 0, boolC false, int .i64 0, int .i64 0], [.str, .arr .u8 16, .int .i64, .int .i64, .int .i64, .int .i64, .int .i64, .int .i64, .bool, .str, .int .i64, .sl [.int .i64, .int .i64, .str], .bool, .int .i64, .int .i64, .bool, .int .i64, .int .i64]⟩
theorem tk_85 : TyOk1 Go.Proofs.Tryz.prog 85 ti_85 := ⟨by kernel_rfl, fieldsSome rfl (by kernel_rfl), ⟨Go.Proofs.Tryz.t85, (Go.Proofs.Tryz.t85.zero).getD .nilIface, by kernel_rfl, by kernel_rfl, by kernel_rfl, by kernel_rfl, by kernel_rfl⟩⟩
def ti_87 : TI := ⟨.struct #[{ name := "Base", type := 2, offset := 0, embedded := false, tag := "", pkgPath := "", byteOffset := 0 }, { name := "Last", type := 2, offset := 1, embedded := false, tag := "", pkgPath := "", byteOffset := 8 }, { name := "L", type := 78, offset := 2, embedded := false, tag := "", pkgPath := "", byteOffset := 16 }], 3, 40, [int .i64 0, int .i64 0, .lit (.slice none 0 0)], [.int .i64, .int .i64, .sl [.int .i64]]⟩
theorem tk_87 : TyOk1 Go.Proofs.Tryz.prog 87 ti_87 := ⟨by kernel_rfl, fieldsSome rfl (by kernel_rfl), ⟨Go.Proofs.Tryz.t87, (Go.Proofs.Tryz.t87.zero).getD .nilIface, by kernel_rfl, by kernel_rfl, by kernel_rfl, by kernel_rfl, by kernel_rfl⟩⟩
def ti_95 : TI := ⟨.struct #[{ name := "Tai", type := 2, offset := 0, embedded := false, tag := "", pkgPath := "", byteOffset := 0 }, { name := "Off", type := 2, offset := 1, embedded := false, tag := "", pkgPath := "", byteOffset := 8 }, { name := "P", type := 35, offset := 2, embedded := false, tag := "", pkgPath := "", byteOffset := 16 }, { name := "Kind", type := 3, offset := 12, embedded := false, tag := "", pkgPath := "", byteOffset := 120 }], 13, 128, [int .i64 0, int .i64 0, int .i64 0, int .i64 0, int .i64 0, int .i64 0, int .i64 0, int .i64 0, boolC false, .lit (.string ByteArray.empty), int .i64 0, .lit (.slice none 0 0), int .i64 0], [.int .i64, .int .i64, .int .i64, .int .i64, .int .i64, .int .i64, .int .i64, .int .i64, .bool, .str, .int .i64, .sl [.int .i64, .int .i64, .str], .int .i64]⟩
theorem tk_95 : TyOk1 Go.Proofs.Tryz.prog 95 ti_95 := ⟨by kernel_rfl, fieldsSome rfl (by kernel_rfl), ⟨Go.Proofs.Tryz.t95, (Go.Proofs.Tryz.t95.zero).getD .nilIface, by kernel_rfl, by kernel_rfl, by kernel_rfl, by kernel_rfl, by kernel_rfl⟩⟩
def ti_96 : TI := ⟨.struct #[{ name := "Value", type := 2, offset := 0, embedded := false, tag := "", pkgPath := "", byteOffset := 0 }, { name := "Bound", type := 2, offset := 1, embedded := false, tag := "", pkgPath := "", byteOffset := 8 }, { name := "Raised", type := 2, offset := 2, embedded := false, tag := "", pkgPath := "", byteOffset := 16 }, { name := "Host", type := 2, offset := 3, embedded := false, tag := "", pkgPath := "", byteOffset := 24 }], 4, 32, [int .i64 0, int .i64 0, int .i64 0, int .i64 0], [.int .i64, .int .i64, .int .i64, .int .i64]⟩
theorem tk_96 : TyOk1 Go.Proofs.Tryz.prog 96 ti_96 := ⟨by kernel_rfl, fieldsSome rfl (by kernel_rfl), ⟨Go.Proofs.Tryz.t96, (Go.Proofs.Tryz.t96.zero).getD .nilIface, by kernel_rfl, by kernel_rfl, by kernel_rfl, by kernel_rfl, by kernel_rfl⟩⟩
def ti_108 : TI := ⟨.struct #[{ name := "Day", type := 2, offset := 0, embedded := false, tag := "", pkgPath := "", byteOffset := 0 }, { name := "Second", type := 2, offset := 1, embedded := false, tag := "", pkgPath := "", byteOffset := 8 }], 2, 16, [int .i64 0, int .i64 0], [.int .i64, .int .i64]⟩
theorem tk_108 : TyOk1 Go.Proofs.Tryz.prog 108 ti_108 := ⟨by kernel_rfl, fieldsSome rfl (by kernel_rfl), ⟨Go.Proofs.Tryz.t108, (Go.Proofs.Tryz.t108.zero).getD .nilIface, by kernel_rfl, by kernel_rfl, by kernel_rfl, by kernel_rfl, by kernel_rfl⟩⟩
def ti_111 : TI := ⟨.struct #[{ name := "Day", type := 2, offset := 0, embedded := false, tag := "", pkgPath := "", byteOffset := 0 }, { name := "Second", type := 2, offset := 1, embedded := false, tag := "", pkgPath := "", byteOffset := 8 }], 2, 16, [int .i64 0, int .i64 0], [.int .i64, .int .i64]⟩
theorem tk_111 : TyOk1 Go.Proofs.Tryz.prog 111 ti_111 := ⟨by kernel_rfl, fieldsSome rfl (by kernel_rfl), ⟨Go.Proofs.Tryz.t111, (Go.Proofs.Tryz.t111.zero).getD .nilIface, by kernel_rfl, by kernel_rfl, by kernel_rfl, by kernel_rfl, by kernel_rfl⟩⟩
def ti_116 : TI := ⟨.slice 95, 1, 24, [.lit (.slice none 0 0)], [.sl [.int .i64, .int .i64, .int .i64, .int .i64, .int .i64, .int .i64, .int .i64, .int .i64, .bool, .str, .int .i64, .sl [.int .i64, .int .i64, .str], .int .i64]]⟩
theorem tk_116 : TyOk1 Go.Proofs.Tryz.prog 116 ti_116 := ⟨by kernel_rfl, fieldsNone (fun fs h => by cases h), ⟨Go.Proofs.Tryz.t116, (Go.Proofs.Tryz.t116.zero).getD .nilIface, by kernel_rfl, by kernel_rfl, by kernel_rfl, by kernel_rfl, by kernel_rfl⟩⟩
def ti_124 : TI := ⟨.struct #[{ name := "At", type := 2, offset := 0, embedded := false, tag := "", pkgPath := "", byteOffset := 0 }, { name := "Off", type := 2, offset := 1, embedded := false, tag := "", pkgPath := "", byteOffset := 8 }, { name := "Name", type := 9, offset := 2, embedded := false, tag := "", pkgPath := "", byteOffset := 16 }], 3, 32, [int .i64 0, int .i64 0, .lit (.string ByteArray.empty)], [.int .i64, .int .i64, .str]⟩
theorem tk_124 : TyOk1 Go.Proofs.Tryz.prog 124 ti_124 := ⟨by kernel_rfl, fieldsSome rfl (by kernel_rfl), ⟨Go.Proofs.Tryz.t124, (Go.Proofs.Tryz.t124.zero).getD .nilIface, by kernel_rfl, by kernel_rfl, by kernel_rfl, by kernel_rfl, by kernel_rfl⟩⟩
def ti_129 : TI := ⟨.int .i64, 1, 8, [int .i64 0], [.int .i64]⟩
theorem tk_129 : TyOk1 Go.Proofs.Tryz.prog 129 ti_129 := ⟨by kernel_rfl, fieldsNone (fun fs h => by cases h), ⟨Go.Proofs.Tryz.t129, (Go.Proofs.Tryz.t129.zero).getD .nilIface, by kernel_rfl, by kernel_rfl, by kernel_rfl, by kernel_rfl, by kernel_rfl⟩⟩
def ti_138 : TI := ⟨.int .u64, 1, 8, [int .u64 0], [.int .u64]⟩
theorem tk_138 : TyOk1 Go.Proofs.Tryz.prog 138 ti_138 := ⟨by kernel_rfl, fieldsNone (fun fs h => by cases h), ⟨Go.Proofs.Tryz.t138, (Go.Proofs.Tryz.t138.zero).getD .nilIface, by kernel_rfl, by kernel_rfl, by kernel_rfl, by kernel_rfl, by kernel_rfl⟩⟩
def ti_156 : TI := ⟨.pointer 129, 1, 8, [.lit (Value.pointer none)], []⟩
theorem tk_156 : TyOk1 Go.Proofs.Tryz.prog 156 ti_156 := ⟨by kernel_rfl, fieldsNone (fun fs h => by cases h), ⟨Go.Proofs.Tryz.t156, (Go.Proofs.Tryz.t156.zero).getD .nilIface, by kernel_rfl, by kernel_rfl, by kernel_rfl, by kernel_rfl, by kernel_rfl⟩⟩
def ti_195 : TI := ⟨.struct #[{ name := "At", type := 2, offset := 0, embedded := false, tag := "", pkgPath := "", byteOffset := 0 }, { name := "Off", type := 2, offset := 1, embedded := false, tag := "", pkgPath := "", byteOffset := 8 }, { name := "Name", type := 9, offset := 2, embedded := false, tag := "", pkgPath := "", byteOffset := 16 }], 3, 32, [int .i64 0, int .i64 0, .lit (.string ByteArray.empty)], [.int .i64, .int .i64, .str]⟩
theorem tk_195 : TyOk1 Go.Proofs.Tryz.prog 195 ti_195 := ⟨by kernel_rfl, fieldsSome rfl (by kernel_rfl), ⟨Go.Proofs.Tryz.t195, (Go.Proofs.Tryz.t195.zero).getD .nilIface, by kernel_rfl, by kernel_rfl, by kernel_rfl, by kernel_rfl, by kernel_rfl⟩⟩
def ti_200 : TI := ⟨.array 4 54, 4, 64, [.lit .nilIface, .lit .nilIface, .lit .nilIface, .lit .nilIface], [.err 129, .err 129, .err 129, .err 129]⟩
theorem tk_200 : TyOk1 Go.Proofs.Tryz.prog 200 ti_200 := ⟨by kernel_rfl, fieldsNone (fun fs h => by cases h), ⟨Go.Proofs.Tryz.t200, (Go.Proofs.Tryz.t200.zero).getD .nilIface, by kernel_rfl, by kernel_rfl, by kernel_rfl, by kernel_rfl, by kernel_rfl⟩⟩
def ti_203 : TI := ⟨.struct #[{ name := "Hi", type := 2, offset := 0, embedded := false, tag := "", pkgPath := "", byteOffset := 0 }, { name := "Lo", type := 138, offset := 1, embedded := false, tag := "", pkgPath := "", byteOffset := 8 }], 2, 16, [int .i64 0, int .u64 0], [.int .i64, .int .u64]⟩
theorem tk_203 : TyOk1 Go.Proofs.Tryz.prog 203 ti_203 := ⟨by kernel_rfl, fieldsSome rfl (by kernel_rfl), ⟨Go.Proofs.Tryz.t203, (Go.Proofs.Tryz.t203.zero).getD .nilIface, by kernel_rfl, by kernel_rfl, by kernel_rfl, by kernel_rfl, by kernel_rfl⟩⟩
def ti_217 : TI := ⟨.int .u64, 1, 8, [int .u64 0], [.int .u64]⟩
theorem tk_217 : TyOk1 Go.Proofs.Tryz.prog 217 ti_217 := ⟨by kernel_rfl, fieldsNone (fun fs h => by cases h), ⟨Go.Proofs.Tryz.t217, (Go.Proofs.Tryz.t217.zero).getD .nilIface, by kernel_rfl, by kernel_rfl, by kernel_rfl, by kernel_rfl, by kernel_rfl⟩⟩
def ti_254 : TI := ⟨.struct #[{ name := "Day", type := 2, offset := 0, embedded := false, tag := "", pkgPath := "", byteOffset := 0 }, { name := "Second", type := 2, offset := 1, embedded := false, tag := "", pkgPath := "", byteOffset := 8 }, { name := "Nano", type := 2, offset := 2, embedded := false, tag := "", pkgPath := "", byteOffset := 16 }], 3, 24, [int .i64 0, int .i64 0, int .i64 0], [.int .i64, .int .i64, .int .i64]⟩
theorem tk_254 : TyOk1 Go.Proofs.Tryz.prog 254 ti_254 := ⟨by kernel_rfl, fieldsSome rfl (by kernel_rfl), ⟨Go.Proofs.Tryz.t254, (Go.Proofs.Tryz.t254.zero).getD .nilIface, by kernel_rfl, by kernel_rfl, by kernel_rfl, by kernel_rfl, by kernel_rfl⟩⟩
def ti_290 : TI := ⟨.struct #[{ name := "Day", type := 2, offset := 0, embedded := false, tag := "", pkgPath := "", byteOffset := 0 }, { name := "Second", type := 2, offset := 1, embedded := false, tag := "", pkgPath := "", byteOffset := 8 }, { name := "Nano", type := 2, offset := 2, embedded := false, tag := "", pkgPath := "", byteOffset := 16 }], 3, 24, [int .i64 0, int .i64 0, int .i64 0], [.int .i64, .int .i64, .int .i64]⟩
theorem tk_290 : TyOk1 Go.Proofs.Tryz.prog 290 ti_290 := ⟨by kernel_rfl, fieldsSome rfl (by kernel_rfl), ⟨Go.Proofs.Tryz.t290, (Go.Proofs.Tryz.t290.zero).getD .nilIface, by kernel_rfl, by kernel_rfl, by kernel_rfl, by kernel_rfl, by kernel_rfl⟩⟩
def ti_305 : TI := ⟨.slice 5, 1, 24, [.lit (.slice none 0 0)], [.sl [.int .u8]]⟩
theorem tk_305 : TyOk1 Go.Proofs.Tryz.prog 305 ti_305 := ⟨by kernel_rfl, fieldsNone (fun fs h => by cases h), ⟨Go.Proofs.Tryz.t305, (Go.Proofs.Tryz.t305.zero).getD .nilIface, by kernel_rfl, by kernel_rfl, by kernel_rfl, by kernel_rfl, by kernel_rfl⟩⟩
def ti_323 : TI := ⟨.array 4 138, 4, 32, [.arr .u64 4 (List.replicate 4 0)], [.arr .u64 4]⟩
theorem tk_323 : TyOk1 Go.Proofs.Tryz.prog 323 ti_323 := ⟨by kernel_rfl, fieldsNone (fun fs h => by cases h), ⟨Go.Proofs.Tryz.t323, (Go.Proofs.Tryz.t323.zero).getD .nilIface, by kernel_rfl, by kernel_rfl, by kernel_rfl, by kernel_rfl, by kernel_rfl⟩⟩
def ti_327 : TI := ⟨.struct #[{ name := "a", type := 138, offset := 0, embedded := false, tag := "", pkgPath := "fusee/prf", byteOffset := 0 }, { name := "b", type := 138, offset := 1, embedded := false, tag := "", pkgPath := "fusee/prf", byteOffset := 8 }, { name := "c", type := 138, offset := 2, embedded := false, tag := "", pkgPath := "fusee/prf", byteOffset := 16 }, { name := "d", type := 138, offset := 3, embedded := false, tag := "", pkgPath := "fusee/prf", byteOffset := 24 }], 4, 32, [int .u64 0, int .u64 0, int .u64 0, int .u64 0], [.int .u64, .int .u64, .int .u64, .int .u64]⟩
theorem tk_327 : TyOk1 Go.Proofs.Tryz.prog 327 ti_327 := ⟨by kernel_rfl, fieldsSome rfl (by kernel_rfl), ⟨Go.Proofs.Tryz.t327, (Go.Proofs.Tryz.t327.zero).getD .nilIface, by kernel_rfl, by kernel_rfl, by kernel_rfl, by kernel_rfl, by kernel_rfl⟩⟩
def ti_329 : TI := ⟨.array 8 5, 8, 8, [.arr .u8 8 (List.replicate 8 0)], [.arr .u8 8]⟩
theorem tk_329 : TyOk1 Go.Proofs.Tryz.prog 329 ti_329 := ⟨by kernel_rfl, fieldsNone (fun fs h => by cases h), ⟨Go.Proofs.Tryz.t329, (Go.Proofs.Tryz.t329.zero).getD .nilIface, by kernel_rfl, by kernel_rfl, by kernel_rfl, by kernel_rfl, by kernel_rfl⟩⟩
def ti_332 : TI := ⟨.struct #[{ name := "B", type := 305, offset := 0, embedded := false, tag := "", pkgPath := "", byteOffset := 0 }, { name := "Bad", type := 4, offset := 1, embedded := false, tag := "", pkgPath := "", byteOffset := 24 }], 2, 32, [.lit (.slice none 0 0), boolC false], [.sl [.int .u8], .bool]⟩
theorem tk_332 : TyOk1 Go.Proofs.Tryz.prog 332 ti_332 := ⟨by kernel_rfl, fieldsSome rfl (by kernel_rfl), ⟨Go.Proofs.Tryz.t332, (Go.Proofs.Tryz.t332.zero).getD .nilIface, by kernel_rfl, by kernel_rfl, by kernel_rfl, by kernel_rfl, by kernel_rfl⟩⟩
def ti_341 : TI := ⟨.struct #[{ name := "b", type := 305, offset := 0, embedded := false, tag := "", pkgPath := "fusee/fields", byteOffset := 0 }, { name := "bad", type := 4, offset := 1, embedded := false, tag := "", pkgPath := "fusee/fields", byteOffset := 24 }], 2, 32, [.lit (.slice none 0 0), boolC false], [.sl [.int .u8], .bool]⟩
theorem tk_341 : TyOk1 Go.Proofs.Tryz.prog 341 ti_341 := ⟨by kernel_rfl, fieldsSome rfl (by kernel_rfl), ⟨Go.Proofs.Tryz.t341, (Go.Proofs.Tryz.t341.zero).getD .nilIface, by kernel_rfl, by kernel_rfl, by kernel_rfl, by kernel_rfl, by kernel_rfl⟩⟩
def tab : List (Nat × TI) := [(2, ti_2), (3, ti_3), (4, ti_4), (5, ti_5), (9, ti_9), (28, ti_28), (30, ti_30), (31, ti_31), (33, ti_33), (35, ti_35), (36, ti_36), (43, ti_43), (44, ti_44), (45, ti_45), (47, ti_47), (49, ti_49), (54, ti_54), (65, ti_65), (71, ti_71), (73, ti_73), (75, ti_75), (77, ti_77), (78, ti_78), (80, ti_80), (81, ti_81), (82, ti_82), (83, ti_83), (85, ti_85), (87, ti_87), (95, ti_95), (96, ti_96), (108, ti_108), (111, ti_111), (116, ti_116), (124, ti_124), (129, ti_129), (138, ti_138), (156, ti_156), (195, ti_195), (200, ti_200), (203, ti_203), (217, ti_217), (254, ti_254), (290, ti_290), (305, ti_305), (323, ti_323), (327, ti_327), (329, ti_329), (332, ti_332), (341, ti_341)]
def tyT : TypeId → Option TI := lookT tab
theorem tyOk : TyOk Go.Proofs.Tryz.prog tyT := TysOk.ok (tysOk_cons tk_2 (tysOk_cons tk_3 (tysOk_cons tk_4 (tysOk_cons tk_5 (tysOk_cons tk_9 (tysOk_cons tk_28 (tysOk_cons tk_30 (tysOk_cons tk_31 (tysOk_cons tk_33 (tysOk_cons tk_35 (tysOk_cons tk_36 (tysOk_cons tk_43 (tysOk_cons tk_44 (tysOk_cons tk_45 (tysOk_cons tk_47 (tysOk_cons tk_49 (tysOk_cons tk_54 (tysOk_cons tk_65 (tysOk_cons tk_71 (tysOk_cons tk_73 (tysOk_cons tk_75 (tysOk_cons tk_77 (tysOk_cons tk_78 (tysOk_cons tk_80 (tysOk_cons tk_81 (tysOk_cons tk_82 (tysOk_cons tk_83 (tysOk_cons tk_85 (tysOk_cons tk_87 (tysOk_cons tk_95 (tysOk_cons tk_96 (tysOk_cons tk_108 (tysOk_cons tk_111 (tysOk_cons tk_116 (tysOk_cons tk_124 (tysOk_cons tk_129 (tysOk_cons tk_138 (tysOk_cons tk_156 (tysOk_cons tk_195 (tysOk_cons tk_200 (tysOk_cons tk_203 (tysOk_cons tk_217 (tysOk_cons tk_254 (tysOk_cons tk_290 (tysOk_cons tk_305 (tysOk_cons tk_323 (tysOk_cons tk_327 (tysOk_cons tk_329 (tysOk_cons tk_332 (tysOk_cons tk_341 tysOk_nil))))))))))))))))))))))))))))))))))))))))))))))))))
theorem ek_43 : EqOk Go.Proofs.Tryz.prog 43 (eqQ [.int .i64, .int .i64, .int .i64]) := eqQ_ok (d := 9) (by kernel_rfl) (by omega) (by kernel_rfl) (by kernel_rfl)
theorem ek_44 : EqOk Go.Proofs.Tryz.prog 44 (eqQ [.int .i64, .int .i64]) := eqQ_ok (d := 9) (by kernel_rfl) (by omega) (by kernel_rfl) (by kernel_rfl)
theorem ek_65 : EqOk Go.Proofs.Tryz.prog 65 (eqQ [.int .i64, .int .i64, .int .i64, .int .i64]) := eqQ_ok (d := 9) (by kernel_rfl) (by omega) (by kernel_rfl) (by kernel_rfl)
theorem ek_81 : EqOk Go.Proofs.Tryz.prog 81 (eqQ [.arr .u8 16]) := eqQ_ok (d := 9) (by kernel_rfl) (by omega) (by kernel_rfl) (by kernel_rfl)
theorem ek_82 : EqOk Go.Proofs.Tryz.prog 82 (eqQ [.bool, .int .i64, .int .i64]) := eqQ_ok (d := 9) (by kernel_rfl) (by omega) (by kernel_rfl) (by kernel_rfl)
theorem ek_83 : EqOk Go.Proofs.Tryz.prog 83 (eqQ [.bool, .int .i64]) := eqQ_ok (d := 9) (by kernel_rfl) (by omega) (by kernel_rfl) (by kernel_rfl)
theorem ek_108 : EqOk Go.Proofs.Tryz.prog 108 (eqQ [.int .i64, .int .i64]) := eqQ_ok (d := 9) (by kernel_rfl) (by omega) (by kernel_rfl) (by kernel_rfl)
theorem ek_195 : EqOk Go.Proofs.Tryz.prog 195 (eqQ [.int .i64, .int .i64, .str]) := eqQ_ok (d := 9) (by kernel_rfl) (by omega) (by kernel_rfl) (by kernel_rfl)
def eqT : TypeId → Option (List C → List C → Option Bool) := lookE [(43, eqQ [.int .i64, .int .i64, .int .i64]), (44, eqQ [.int .i64, .int .i64]), (65, eqQ [.int .i64, .int .i64, .int .i64, .int .i64]), (81, eqQ [.arr .u8 16]), (82, eqQ [.bool, .int .i64, .int .i64]), (83, eqQ [.bool, .int .i64]), (108, eqQ [.int .i64, .int .i64]), (195, eqQ [.int .i64, .int .i64, .str])]
theorem eqOk : ∀ t q, eqT t = some q → EqOk Go.Proofs.Tryz.prog t q := (eqsOk_cons ek_43 (eqsOk_cons ek_44 (eqsOk_cons ek_65 (eqsOk_cons ek_81 (eqsOk_cons ek_82 (eqsOk_cons ek_83 (eqsOk_cons ek_108 (eqsOk_cons ek_195 eqsOk_nil))))))))
theorem mix0 : Tryz.prog.follows .mixedOrders = true := by kernel_rfl
def h0 : Nat → Bool := fun _ => false
theorem fz : FnsOk Tryz.prog laidL [] := fnsOk_nil
theorem fk {g : Nat} {S : Sum} {l : List (Nat × Sum)} (h : SumOk Tryz.prog laidL g S) (t : FnsOk Tryz.prog laidL l) : FnsOk Tryz.prog laidL ((g, S) :: l) := fnsOk_cons h t
def cX (l : List (Nat × Sum)) (h : Nat → Bool) : Ctx := ⟨tyT, lookF l, eqT, h⟩
theorem cx {l : List (Nat × Sum)} (h : Nat → Bool) (H : FnsOk Tryz.prog laidL l) : CtxOk Tryz.prog laidL (cX l h) := ⟨tyOk, eqOk, fun _ _ => H.get, mix0⟩
theorem fn_x {l : List (Nat × Sum)} (h : Nat → Bool) (H : FnsOk Tryz.prog laidL l) {f : FuncId} {fn : Func} (hf : Tryz.prog.funcs[f]? = some fn) {n nOut nr : Nat} {PS RS : List ShA} {F : TAs PS → Option (TAs RS)} {ls : List (Nat × LSum)} (hl : LksOk Tryz.prog laidL nOut fn.ntmps 0 (bodyOf fn) ls)
  (hF : ∀ p, F p = exec (cX l h) fn.ntmps (lookL ls) (bodyOf fn) 0 (fnK (cX l h) fn.results.toList nOut RS) (fnSt n nOut PS p) := by intro _; kernel_rfl)
  (hb : fn.body = some (bodyOf fn) := by kernel_rfl) (hname : (fn.name == "runtime.NumGoroutine") = false := by kernel_rfl) (hnr : fn.results.size = nr := by exact rfl) (hn : nodupB ((loopsIn 0 (bodyOf fn)).map (·.1)) = true := by kernel_rfl) : SumOk Tryz.prog laidL f (fnSum n nOut nr PS RS F) :=
 fn_ok (cx h H) hf hb hname hnr hF (loopsAll hn hl)
theorem lp_x {l : List (Nat × Sum)} (h : Nat → Bool) (H : FnsOk Tryz.prog laidL l) {nOut NT cur k : Nat} {θ : Type} {live bl : List Nat} {sh : List ShA} {O : OutK nOut θ} {c : Code} {b : (TAs sh → Option θ) → TAs sh → Option θ} {N : Nat} {ls : List (Nat × LSum)} (hl : LksOk Tryz.prog laidL nOut NT k (unloop (loopAt cur k c)) ls)
  (hs : ∀ ih p, b ih p = exec (cX l h) NT (lookL ls) (unloop (loopAt cur k c)) k (roundK live bl sh O ih) (stOf live bl sh p) := by intro _ _; kernel_rfl)
  (hne : loopAt cur k c = .loop (unloop (loopAt cur k c)) := by kernel_rfl) (hn : nodupB ((loopsIn k (unloop (loopAt cur k c))).map (·.1)) = true := by kernel_rfl) : SegOk Tryz.prog laidL nOut NT (loopAt cur k c) (loopSum live bl sh O (iter b N)) :=
 (congrArg (fun c => SegOk Tryz.prog laidL nOut NT c (loopSum live bl sh O (iter b N))) hne).mpr (loop_ok (cx h H) (fun n => iter b n) (fun _ => rfl) (fun n p => hs (iter b n) p) (loopsAll hn hl) N)
theorem seg_x {l : List (Nat × Sum)} (h : Nat → Bool) (H : FnsOk Tryz.prog laidL l) {nOut NT cur : Nat} {θ : Type} {live bl : List Nat} {sh : List ShA} {O : OutK nOut θ} {body : Code} {F : TAs sh → Option θ} {ls : List (Nat × LSum)} (hl : LksOk Tryz.prog laidL nOut NT cur body ls)
  (hs : ∀ p, F p = exec (cX l h) NT (lookL ls) body cur O.K0 (stOf live bl sh p) := by intro _; kernel_rfl) (hn : nodupB ((loopsIn cur body).map (·.1)) = true := by kernel_rfl) : SegOk Tryz.prog laidL nOut NT body (loopSum live bl sh O F) :=
 seg_ok (cx h H) F hs (loopsAll hn hl)
abbrev zg0 : ShA := .agg [.d (.str), .d (.arr .u8 16), .d (.int .i64), .d (.int .i64), .d (.int .i64), .d (.int .i64), .d (.int .i64), .d (.int .i64), .d (.bool), .d (.str), .d (.int .i64), .slt [.int .i64, .int .i64, .str] 195 3, .d (.bool), .d (.int .i64), .d (.int .i64), .d (.bool), .d (.int .i64), .d (.int .i64)]
abbrev zg1 : ShA := .agg [.d (.str), .d (.arr .u8 16), .d (.int .i64), .d (.int .i64), .d (.int .i64), .d (.int .i64), .d (.int .i64), .d (.int .i64), .d (.bool), .d (.str), .d (.int .i64), .d (.sl [.int .i64, .int .i64, .str]), .d (.bool), .d (.int .i64), .d (.int .i64), .d (.bool), .d (.int .i64), .d (.int .i64)]
abbrev zg2 : ShA := .agg [.d (.int .i64), .d (.int .i64), .d (.int .i64), .d (.int .i64), .d (.int .i64), .d (.int .i64), .d (.bool), .d (.str), .d (.int .i64), .slt [.int .i64, .int .i64, .str] 195 3]
abbrev zg3 : ShA := .agg [.d (.int .i64), .d (.int .i64), .d (.int .i64), .d (.int .i64), .d (.int .i64), .d (.int .i64), .d (.bool), .d (.str), .d (.int .i64), .d (.sl [.int .i64, .int .i64, .str])]
abbrev zg4 : ShA := .agg [.d (.str), .d (.int .i64), .slt [.int .i64, .int .i64, .str] 195 3]
abbrev zg5 : ShA := .agg [.d (.str), .d (.int .i64), .d (.sl [.int .i64, .int .i64, .str])]
abbrev zg6 : ShA := .agg [.d (.int .u64), .d (.int .u64), .d (.int .u64), .d (.int .u64)]
abbrev zg7 : ShA := .agg [.d (.int .i64), .d (.int .i64), .d (.int .i64), .d (.int .i64)]
abbrev zg8 : ShA := .agg [.d (.int .i64), .d (.int .i64), .d (.sl [.int .i64])]
abbrev zg9 : ShA := .agg [.d (.int .i64), .d (.int .i64), .d (.int .i64)]
abbrev zg10 : ShA := .agg [.d (.bool), .d (.int .i64), .d (.int .i64)]
abbrev zg11 : ShA := .agg [.d (.sl [.int .u8]), .d (.bool)]
abbrev zg12 : ShA := .agg [.slt [.int .u8] 5 1, .d (.bool)]
abbrev zg13 : ShA := .agg [.d (.int .i64), .d (.int .i64)]
abbrev zg14 : ShA := .agg [.d (.bool), .d (.int .i64)]
end Go.Proofs.YthpljlpokmoeeaaGreatDoor.Mir
namespace Go.Proofs.YthpljlpokmoeeaaGreatDoor.Mir
open Go Go.RowKit
set_option maxRecDepth 100000
noncomputable section
def X_26 (_ : Nat) : List (Nat × Sum) := []
theorem x_26 (N : Nat) : FnsOk Tryz.prog laidL (X_26 N) := fz
def sh_26_0 : List ShA := [.one (.ptr 144 0), .one (.d (.int .i64)), zg5]
abbrev T_26_0 := ((TAs [.one (.d (.bool))]) ⊕ (TAs [.one (.ptr 144 0), zg5]))
def o_26_0 : OutK 0 T_26_0 := (outTwo (outOne 0 .ret [2] [] [.one (.d (.bool))]) (outOne 0 (.exit 0) [1] [144] [.one (.ptr 144 0), zg5]))
def b_26_0 (_ : Nat) (ih : TAs sh_26_0 → Option T_26_0) : TAs sh_26_0 → Option T_26_0 := fun (_, y4, (y5, y6, y7)) =>
 (bif (decide (y4 < (List.length y7 : Int))) then (bif (decide (y4 < 60)) then (bif (decide (0 ≤ y4 ∧ y4 < (List.length y7 : Int))) then (bif (decide ((ByteArray.size (List.getD y7 (Int.toNat y4) (0, 0, ByteArray.empty)).2.2 : Int) > 200)) then (some (.inl true)) else (ih ((), (IntKind.i64.wrap (y4 + 1)), (y5, y6, y7)))) else none) else (some (.inr ((), (y5, y6, y7))))) else (some (.inr ((), (y5, y6, y7)))))
def l_26_0 (N : Nat) : TAs sh_26_0 → Option T_26_0 := iter (b_26_0 N) N
def L_26_0 (N : Nat) : LSum := loopSum [1, 3] [144] sh_26_0 o_26_0 (l_26_0 N)
theorem L_ok_26_0 (N : Nat) : SegOk Tryz.prog laidL 0 Tryz.f26.ntmps (loopAt 0 0 (bodyOf Tryz.f26)) (L_26_0 N) :=
 lp_x h0 (x_26 N) (lookOk_nil)
def f_26 (N : Nat) (x1 : ByteArray) (x2 : Int) (x3 : List (Int × Int × ByteArray)) : Option (TAs [.one (.d (.bool))]) :=
 ((l_26_0 N ((), 0, (x1, x2, x3))).bind fun q => (match q with | .inl q8 => (some q8) | .inr q9 => (bif (decide ((List.length q9.2.2.2 : Int) > 60)) then (some true) else (some (decide ((ByteArray.size q9.2.1 : Int) > 200))))))
def S_26 (N : Nat) : Sum := fnSum 1 0 1 [zg5] [.one (.d (.bool))] (fun (x1, x2, x3) => f_26 N x1 x2 x3)
theorem s_26 (N : Nat) : SumOk Tryz.prog laidL 26 (S_26 N) := fn_x h0 (x_26 N) Tryz.func26 ((lookOk_cons (L_ok_26_0 N) lookOk_nil))
def f_33 (_ : Nat) (x1 : Option Int) : Option (TAs [.one (.d (.int .i64))]) :=
 (bif (Option.isNone x1) then (some 0) else ((some (x1, (0 : Int)) : Option (Option Int × Int)).bind fun r2 => (bif (Option.isSome r2.1) then (some (asVal r2.2 r2.1)) else (some (-1)))))
def S_33 (N : Nat) : Sum := fnSum 1 0 1 [.one (.d (.err 129))] [.one (.d (.int .i64))] (fun x1 => f_33 N x1)
theorem s_33 (N : Nat) : SumOk Tryz.prog laidL 33 (S_33 N) := fn_x h0 (fk asS_ok fz) Tryz.func33 (lookOk_nil)
def f_47 (_ : Nat) : Option (TAs [zg2]) :=
 (some (0, 0, 0, 1, 0, 1, false, ⟨#[85, 84, 67]⟩, 0, ([] : List (Int × Int × ByteArray))))
def S_47 (N : Nat) : Sum := fnSum 0 0 1 [] [zg2] (fun _ => f_47 N)
theorem s_47 (N : Nat) : SumOk Tryz.prog laidL 47 (S_47 N) := fn_x h0 fz Tryz.func47 (lookOk_nil)
def f_56 (_ : Nat) (x1 x2 : Int) : Option (TAs [.one (.d (.int .i64)), .one (.d (.int .i64))]) :=
 (bif (decide (x2 > 0)) then (bif (decide (x1 > (IntKind.i64.wrap (9223372036854775807 - x2)))) then (some (0, 1)) else (bif (decide (x2 < 0)) then (bif (decide (x1 < (IntKind.i64.wrap ((-9223372036854775808) - x2)))) then (some (0, (-1))) else (some ((IntKind.i64.wrap (x1 + x2)), 0))) else (some ((IntKind.i64.wrap (x1 + x2)), 0)))) else (bif (decide (x2 < 0)) then (bif (decide (x1 < (IntKind.i64.wrap ((-9223372036854775808) - x2)))) then (some (0, (-1))) else (some ((IntKind.i64.wrap (x1 + x2)), 0))) else (some ((IntKind.i64.wrap (x1 + x2)), 0))))
def S_56 (N : Nat) : Sum := fnSum 2 0 2 [.one (.d (.int .i64)), .one (.d (.int .i64))] [.one (.d (.int .i64)), .one (.d (.int .i64))] (fun (x1, x2) => f_56 N x1 x2)
theorem s_56 (N : Nat) : SumOk Tryz.prog laidL 56 (S_56 N) := fn_x h0 fz Tryz.func56 (lookOk_nil)
def f_60 (_ : Nat) (x1 x2 : Int) : Option (TAs [.one (.d (.int .i64))]) :=
 (bif (decide (x2 > 0)) then (some 9223372036854775807) else (bif (decide (x2 < 0)) then (some (-9223372036854775808)) else (some x1)))
def S_60 (N : Nat) : Sum := fnSum 2 0 1 [.one (.d (.int .i64)), .one (.d (.int .i64))] [.one (.d (.int .i64))] (fun (x1, x2) => f_60 N x1 x2)
theorem s_60 (N : Nat) : SumOk Tryz.prog laidL 60 (S_60 N) := fn_x h0 fz Tryz.func60 (lookOk_nil)
def f_73 (_ : Nat) : Option (TAs [.agg [.d (.int .i64), .d (.int .i64), .slt [.int .i64] 2 1]]) :=
 (some (10, 2000, ([911] : List Int)))
def S_73 (N : Nat) : Sum := fnSum 0 0 1 [] [.agg [.d (.int .i64), .d (.int .i64), .slt [.int .i64] 2 1]] (fun _ => f_73 N)
theorem s_73 (N : Nat) : SumOk Tryz.prog laidL 73 (S_73 N) := fn_x h0 fz Tryz.func73 (lookOk_nil)
def f_75 (_ : Nat) (x1 : ByteArray) (x2 : List Int) (x3 x4 x5 x6 x7 x8 : Int) (x9 : Bool) (x10 : ByteArray) (x11 : Int) (x12 : List (Int × Int × ByteArray)) (x13 : Bool) (x14 x15 : Int) (x16 : Bool) (x17 x18 : Int) : Option (TAs [zg0]) :=
 (bif (decide (0 ≤ (0 : Int) ∧ (0 : Int) ≤ (List.length x12 : Int))) then (bif (decide (0 ≤ (0 : Int) ∧ (0 : Int) ≤ (0 : Int))) then (bif (decide ((0 : Int) = (0 : Int))) then (bif (decide ((List.length (List.drop (Int.toNat (0 : Int)) (List.take (Int.toNat (0 : Int)) x12)) + List.length x12) * 32 ≤ 140737488355328)) then (some (x1, x2, x3, x4, x5, x6, x7, x8, x9, x10, x11, ((List.drop (Int.toNat (0 : Int)) (List.take (Int.toNat (0 : Int)) x12)) ++ x12), x13, x14, x15, x16, x17, x18)) else none) else none) else none) else none)
def S_75 (N : Nat) : Sum := fnSum 1 0 1 [zg1] [zg0] (fun (x1, x2, x3, x4, x5, x6, x7, x8, x9, x10, x11, x12, x13, x14, x15, x16, x17, x18) => f_75 N x1 x2 x3 x4 x5 x6 x7 x8 x9 x10 x11 x12 x13 x14 x15 x16 x17 x18)
theorem s_75 (N : Nat) : SumOk Tryz.prog laidL 75 (S_75 N) := fn_x h0 fz Tryz.func75 (lookOk_nil)
def f_82 (N : Nat) (x1 x2 : Int) : Option (TAs [.one (.d (.int .i64))]) :=
 ((f_56 N x1 x2).bind fun r3 => ((f_60 N r3.1 r3.2).bind fun r4 => (some r4)))
def S_82 (N : Nat) : Sum := fnSum 2 0 1 [.one (.d (.int .i64)), .one (.d (.int .i64))] [.one (.d (.int .i64))] (fun (x1, x2) => f_82 N x1 x2)
theorem s_82 (N : Nat) : SumOk Tryz.prog laidL 82 (S_82 N) := fn_x h0 (fk (s_56 N) (fk (s_60 N) fz)) Tryz.func82 (lookOk_nil)
def X_87 (_ : Nat) : List (Nat × Sum) := []
theorem x_87 (N : Nat) : FnsOk Tryz.prog laidL (X_87 N) := fz
def sh_87_0 : List ShA := [.one (.ptr 144 0), .one (.ptr 160 0), .one (.ptr 176 0), .one (.d (.int .i64)), zg5, zg4, zg4]
abbrev T_87_0 := TAs [.one (.ptr 160 0), .one (.ptr 176 0), zg4, zg4]
def o_87_0 : OutK 0 T_87_0 := (outOne 0 (.exit 0) [2, 3] [160, 176] [.one (.ptr 160 0), .one (.ptr 176 0), zg4, zg4])
def b_87_0 (_ : Nat) (ih : TAs sh_87_0 → Option T_87_0) : TAs sh_87_0 → Option T_87_0 := fun (_, _, _, y4, (y5, y6, y7), (y8, y9, y10), (y11, y12, y13)) =>
 (bif (decide (y4 < (List.length y7 : Int))) then (bif (decide (0 ≤ y4 ∧ y4 < (List.length y7 : Int))) then (bif (decide ((List.length y13 + List.length ([((List.getD y7 (Int.toNat y4) (0, 0, ByteArray.empty)).1, (List.getD y7 (Int.toNat y4) (0, 0, ByteArray.empty)).2.1, (List.getD y7 (Int.toNat y4) (0, 0, ByteArray.empty)).2.2)] : List (Int × Int × ByteArray))) * 32 ≤ 140737488355328)) then (ih ((), (), (), (IntKind.i64.wrap (y4 + 1)), (y5, y6, y7), (y8, y9, y10), (y11, y12, (y13 ++ ([((List.getD y7 (Int.toNat y4) (0, 0, ByteArray.empty)).1, (List.getD y7 (Int.toNat y4) (0, 0, ByteArray.empty)).2.1, (List.getD y7 (Int.toNat y4) (0, 0, ByteArray.empty)).2.2)] : List (Int × Int × ByteArray)))))) else none) else none) else (some (((), (), (y8, y9, y10), (y11, y12, y13)))))
def l_87_0 (N : Nat) : TAs sh_87_0 → Option T_87_0 := iter (b_87_0 N) N
def L_87_0 (N : Nat) : LSum := loopSum [1, 2, 3, 4] [144, 160, 176] sh_87_0 o_87_0 (l_87_0 N)
theorem L_ok_87_0 (N : Nat) : SegOk Tryz.prog laidL 0 Tryz.f87.ntmps (loopAt 0 0 (bodyOf Tryz.f87)) (L_87_0 N) :=
 lp_x h0 (x_87 N) (lookOk_nil)
def f_87 (N : Nat) (x1 : ByteArray) (x2 : Int) (x3 : List (Int × Int × ByteArray)) : Option (TAs [zg4]) :=
 ((l_87_0 N ((), (), (), 0, (x1, x2, x3), (ByteArray.empty, 0, ([] : List (Int × Int × ByteArray))), (x1, x2, ([] : List (Int × Int × ByteArray))))).bind fun q14 => (some (q14.2.2.2.1, q14.2.2.2.2.1, q14.2.2.2.2.2)))
def S_87 (N : Nat) : Sum := fnSum 1 0 1 [zg5] [zg4] (fun (x1, x2, x3) => f_87 N x1 x2 x3)
theorem s_87 (N : Nat) : SumOk Tryz.prog laidL 87 (S_87 N) := fn_x h0 (x_87 N) Tryz.func87 ((lookOk_cons (L_ok_87_0 N) lookOk_nil))
def f_94 (_ : Nat) (x1 x2 : Int) : Option (TAs [.one (.d (.int .i64)), .one (.d (.int .i64)), .one (.d (.err 129))]) :=
 (bif (decide (x2 < 1)) then (some (0, 0, (some 1))) else (bif (decide (x2 = 0)) then none else (bif (decide (x2 = 0)) then none else (bif (decide ((Int.tmod x1 x2) < 0)) then (some ((IntKind.i64.wrap ((IntKind.i64.wrap (Int.tdiv x1 x2)) - 1)), (IntKind.i64.wrap ((Int.tmod x1 x2) + x2)), none)) else (some ((IntKind.i64.wrap (Int.tdiv x1 x2)), (Int.tmod x1 x2), none))))))
def S_94 (N : Nat) : Sum := fnSum 2 0 3 [.one (.d (.int .i64)), .one (.d (.int .i64))] [.one (.d (.int .i64)), .one (.d (.int .i64)), .one (.d (.err 129))] (fun (x1, x2) => f_94 N x1 x2)
theorem s_94 (N : Nat) : SumOk Tryz.prog laidL 94 (S_94 N) := fn_x h0 fz Tryz.func94 (lookOk_nil)
def f_96 (_ : Nat) (x1 x2 : Int) : Option (TAs [.one (.d (.int .i64)), .one (.d (.int .i64))]) :=
 (bif (decide (x2 = 0)) then none else (bif (decide (x1 < 0)) then (bif ((IntKind.i64.wrap ((IntKind.i64.wrap (Int.tdiv x1 x2)) * x2)) != x1) then (some ((IntKind.i64.wrap ((IntKind.i64.wrap (Int.tdiv x1 x2)) - 1)), (IntKind.i64.wrap (x1 - (IntKind.i64.wrap ((IntKind.i64.wrap ((IntKind.i64.wrap (Int.tdiv x1 x2)) - 1)) * x2)))))) else (some ((IntKind.i64.wrap (Int.tdiv x1 x2)), (IntKind.i64.wrap (x1 - (IntKind.i64.wrap ((IntKind.i64.wrap (Int.tdiv x1 x2)) * x2))))))) else (some ((IntKind.i64.wrap (Int.tdiv x1 x2)), (IntKind.i64.wrap (x1 - (IntKind.i64.wrap ((IntKind.i64.wrap (Int.tdiv x1 x2)) * x2))))))))
def S_96 (N : Nat) : Sum := fnSum 2 0 2 [.one (.d (.int .i64)), .one (.d (.int .i64))] [.one (.d (.int .i64)), .one (.d (.int .i64))] (fun (x1, x2) => f_96 N x1 x2)
theorem s_96 (N : Nat) : SumOk Tryz.prog laidL 96 (S_96 N) := fn_x h0 fz Tryz.func96 (lookOk_nil)
def X_98 (_ : Nat) : List (Nat × Sum) := []
theorem x_98 (N : Nat) : FnsOk Tryz.prog laidL (X_98 N) := fz
def sh_98_0 : List ShA := [.one (.d (.str)), .one (.d (.int .i64))]
abbrev T_98_0 := ((TAs [.one (.d (.bool))]) ⊕ (TAs [.one (.d (.str))]))
def o_98_0 : OutK 0 T_98_0 := (outTwo (outOne 0 .ret [2] [] [.one (.d (.bool))]) (outOne 0 (.exit 0) [0] [] [.one (.d (.str))]))
def b_98_0 (_ : Nat) (ih : TAs sh_98_0 → Option T_98_0) : TAs sh_98_0 → Option T_98_0 := fun (y2, y3) =>
 (bif (decide (y3 < (ByteArray.size y2 : Int))) then (bif (decide (0 ≤ y3 ∧ y3 < (ByteArray.size y2 : Int))) then (bif (decide ((byteAt y2 (Int.toNat y3)) ≥ 97)) then (bif (decide (0 ≤ y3 ∧ y3 < (ByteArray.size y2 : Int))) then (bif (decide ((byteAt y2 (Int.toNat y3)) ≤ 122)) then (ih (y2, (IntKind.i64.wrap (y3 + 1)))) else (bif (decide (0 ≤ y3 ∧ y3 < (ByteArray.size y2 : Int))) then (bif (decide ((byteAt y2 (Int.toNat y3)) ≥ 48)) then (bif (decide (0 ≤ y3 ∧ y3 < (ByteArray.size y2 : Int))) then (bif (!(decide ((byteAt y2 (Int.toNat y3)) ≤ 57))) then (some (.inl false)) else (ih (y2, (IntKind.i64.wrap (y3 + 1))))) else none) else (some (.inl false))) else none)) else none) else (bif (decide (0 ≤ y3 ∧ y3 < (ByteArray.size y2 : Int))) then (bif (decide ((byteAt y2 (Int.toNat y3)) ≥ 48)) then (bif (decide (0 ≤ y3 ∧ y3 < (ByteArray.size y2 : Int))) then (bif (!(decide ((byteAt y2 (Int.toNat y3)) ≤ 57))) then (some (.inl false)) else (ih (y2, (IntKind.i64.wrap (y3 + 1))))) else none) else (some (.inl false))) else none)) else none) else (some (.inr y2)))
def l_98_0 (N : Nat) : TAs sh_98_0 → Option T_98_0 := iter (b_98_0 N) N
def L_98_0 (N : Nat) : LSum := loopSum [0, 3] [] sh_98_0 o_98_0 (l_98_0 N)
theorem L_ok_98_0 (N : Nat) : SegOk Tryz.prog laidL 0 Tryz.f98.ntmps (loopAt 0 0 (bodyOf Tryz.f98)) (L_98_0 N) :=
 lp_x h0 (x_98 N) (lookOk_nil)
def f_98 (N : Nat) (x1 : ByteArray) : Option (TAs [.one (.d (.bool))]) :=
 ((l_98_0 N (x1, 0)).bind fun q => (match q with | .inl q4 => (some q4) | .inr q5 => (bif (decide ((ByteArray.size q5 : Int) ≥ 1)) then (some (decide ((ByteArray.size q5 : Int) ≤ 12))) else (some false))))
def S_98 (N : Nat) : Sum := fnSum 1 0 1 [.one (.d (.str))] [.one (.d (.bool))] (fun x1 => f_98 N x1)
theorem s_98 (N : Nat) : SumOk Tryz.prog laidL 98 (S_98 N) := fn_x h0 (x_98 N) Tryz.func98 ((lookOk_cons (L_ok_98_0 N) lookOk_nil))
def f_106 (_ : Nat) (x1 x2 x3 : Int) : Option (TAs [.one (.d (.err 129))]) :=
 (bif (decide (x2 < 0)) then (some (some 1)) else (bif (decide (x2 > 43200)) then (some (some 1)) else (bif (decide (x3 < 0)) then (some (some 1)) else (bif (decide (x3 > 43200)) then (some (some 1)) else (bif (x1 == 0) then (bif ((IntKind.i64.wrap (x2 + x3)) == 0) then (some none) else (some (some 1))) else (bif (x1 == 1) then (bif (decide ((IntKind.i64.wrap (x2 + x3)) > 0)) then (some none) else (some (some 1))) else (bif (x1 == 2) then (bif (decide ((IntKind.i64.wrap (x2 + x3)) ≥ 3600)) then (some none) else (some (some 1))) else (some (some 1)))))))))
def S_106 (N : Nat) : Sum := fnSum 1 0 1 [zg9] [.one (.d (.err 129))] (fun (x1, x2, x3) => f_106 N x1 x2 x3)
theorem s_106 (N : Nat) : SumOk Tryz.prog laidL 106 (S_106 N) := fn_x h0 fz Tryz.func106 (lookOk_nil)
def f_107 (_ : Nat) (x1 : Int) : Option (TAs [.one (.d (.err 129))]) :=
 (bif (decide (x1 < 1)) then (some (some 1)) else (bif (decide (x1 > 68719476736)) then (some (some 1)) else (some none)))
def S_107 (N : Nat) : Sum := fnSum 1 0 1 [.one (.d (.int .i64))] [.one (.d (.err 129))] (fun x1 => f_107 N x1)
theorem s_107 (N : Nat) : SumOk Tryz.prog laidL 107 (S_107 N) := fn_x h0 fz Tryz.func107 (lookOk_nil)
def f_108 (_ : Nat) (x1 x2 : Int) : Option (TAs [.one (.d (.err 129))]) :=
 (bif (decide (x1 < 0)) then (some (some 1)) else (bif (decide (x1 > 1099511627776)) then (some (some 1)) else (bif (decide (x2 < 1)) then (some (some 1)) else (bif (decide (x2 > 1125899906842624)) then (some (some 1)) else (some none)))))
def S_108 (N : Nat) : Sum := fnSum 1 0 1 [zg13] [.one (.d (.err 129))] (fun (x1, x2) => f_108 N x1 x2)
theorem s_108 (N : Nat) : SumOk Tryz.prog laidL 108 (S_108 N) := fn_x h0 fz Tryz.func108 (lookOk_nil)
def f_114 (_ : Nat) (x1 x2 : Int) : Option (TAs [.one (.d (.int .i64)), .one (.d (.err 129))]) :=
 (bif (!((decide ((IntKind.i64.wrap (x1 - x2)) > x1)) == (decide (x2 < 0)))) then (some (0, (some 2))) else (some ((IntKind.i64.wrap (x1 - x2)), none)))
def S_114 (N : Nat) : Sum := fnSum 2 0 2 [.one (.d (.int .i64)), .one (.d (.int .i64))] [.one (.d (.int .i64)), .one (.d (.err 129))] (fun (x1, x2) => f_114 N x1 x2)
theorem s_114 (N : Nat) : SumOk Tryz.prog laidL 114 (S_114 N) := fn_x h0 fz Tryz.func114 (lookOk_nil)
def f_115 (_ : Nat) (x1 : Bool) : Option (TAs [.one (.d (.int .i64))]) :=
 (bif x1 then (some (-9223372036854775808)) else (some 9223372036854775807))
def S_115 (N : Nat) : Sum := fnSum 1 0 1 [.one (.d (.bool))] [.one (.d (.int .i64))] (fun x1 => f_115 N x1)
theorem s_115 (N : Nat) : SumOk Tryz.prog laidL 115 (S_115 N) := fn_x h0 fz Tryz.func115 (lookOk_nil)
def f_116 (_ : Nat) (x1 x2 x3 : Int) : Option (TAs [.one (.d (.bool))]) :=
 (bif (decide (x2 < 0)) then (some false) else (bif (decide (x2 > 43200)) then (some false) else (bif (decide (x3 < 0)) then (some false) else (bif (decide (x3 > 43200)) then (some false) else (bif (x1 == 0) then (bif ((IntKind.i64.wrap (x2 + x3)) == 0) then (some true) else (bif (x1 == 1) then (bif (decide ((IntKind.i64.wrap (x2 + x3)) ≥ 1)) then (some true) else (bif (x1 == 2) then (some (decide ((IntKind.i64.wrap (x2 + x3)) ≥ 3600))) else (some false))) else (bif (x1 == 2) then (some (decide ((IntKind.i64.wrap (x2 + x3)) ≥ 3600))) else (some false)))) else (bif (x1 == 1) then (bif (decide ((IntKind.i64.wrap (x2 + x3)) ≥ 1)) then (some true) else (bif (x1 == 2) then (some (decide ((IntKind.i64.wrap (x2 + x3)) ≥ 3600))) else (some false))) else (bif (x1 == 2) then (some (decide ((IntKind.i64.wrap (x2 + x3)) ≥ 3600))) else (some false))))))))
def S_116 (N : Nat) : Sum := fnSum 1 0 1 [zg9] [.one (.d (.bool))] (fun (x1, x2, x3) => f_116 N x1 x2 x3)
theorem s_116 (N : Nat) : SumOk Tryz.prog laidL 116 (S_116 N) := fn_x h0 fz Tryz.func116 (lookOk_nil)
def f_117 (_ : Nat) (x1 : Int) : Option (TAs [.one (.d (.bool))]) :=
 (bif (decide (x1 ≥ 1)) then (some (decide (x1 ≤ 68719476736))) else (some false))
def S_117 (N : Nat) : Sum := fnSum 1 0 1 [.one (.d (.int .i64))] [.one (.d (.bool))] (fun x1 => f_117 N x1)
theorem s_117 (N : Nat) : SumOk Tryz.prog laidL 117 (S_117 N) := fn_x h0 fz Tryz.func117 (lookOk_nil)
def f_118 (_ : Nat) (x1 x2 : Int) : Option (TAs [.one (.d (.bool))]) :=
 (bif (decide (x1 ≥ 0)) then (bif (decide (x1 ≤ 1099511627776)) then (bif (decide (x2 ≥ 1)) then (some (decide (x2 ≤ 1125899906842624))) else (some false)) else (some false)) else (some false))
def S_118 (N : Nat) : Sum := fnSum 1 0 1 [zg13] [.one (.d (.bool))] (fun (x1, x2) => f_118 N x1 x2)
theorem s_118 (N : Nat) : SumOk Tryz.prog laidL 118 (S_118 N) := fn_x h0 fz Tryz.func118 (lookOk_nil)
def f_142 (N : Nat) (x1 x2 : Int) : Option (TAs [.one (.d (.bool))]) :=
 ((f_107 N x2).bind fun r3 => (bif (Option.isNone r3) then (bif (decide (x2 = 0)) then none else (some ((Int.tmod x1 x2) == 0))) else (some false)))
def S_142 (N : Nat) : Sum := fnSum 2 0 1 [.one (.d (.int .i64)), .one (.d (.int .i64))] [.one (.d (.bool))] (fun (x1, x2) => f_142 N x1 x2)
theorem s_142 (N : Nat) : SumOk Tryz.prog laidL 142 (S_142 N) := fn_x h0 (fk (s_107 N) fz) Tryz.func142 (lookOk_nil)
def f_145 (_ : Nat) (x1 : Bool) (x2 x3 : Int) : Option (TAs [zg14]) :=
 (bif x1 then (some (true, (if x2 > x3 then x2 else x3))) else (some (true, x3)))
def S_145 (N : Nat) : Sum := fnSum 2 0 1 [zg14, .one (.d (.int .i64))] [zg14] (fun ((x1, x2), x3) => f_145 N x1 x2 x3)
theorem s_145 (N : Nat) : SumOk Tryz.prog laidL 145 (S_145 N) := fn_x h0 fz Tryz.func145 (lookOk_nil)
def f_149 (_ : Nat) (_x1 x2 x3 x4 _x5 : Int) (x6 : List Int) (x7 : Int) : Option (TAs [.one (.d (.int .i64)), .one (.d (.int .i64))]) :=
 (bif (decide (0 ≤ x7 ∧ x7 < (List.length x6 : Int))) then (some ((IntKind.i64.wrap ((IntKind.i64.wrap ((IntKind.i64.wrap ((IntKind.i64.wrap ((IntKind.i64.wrap ((IntKind.i64.wrap ((IntKind.i64.wrap ((List.getD x6 (Int.toNat x7) 0) + 1)) * 86400)) + x4)) + x7)) + 1)) - 1)) - x2)), (IntKind.i64.wrap ((IntKind.i64.wrap ((IntKind.i64.wrap ((IntKind.i64.wrap ((IntKind.i64.wrap ((IntKind.i64.wrap ((List.getD x6 (Int.toNat x7) 0) + 1)) * 86400)) + x4)) + x7)) + 1)) + x3)))) else none)
def S_149 (N : Nat) : Sum := fnSum 3 0 2 [zg9, zg8, .one (.d (.int .i64))] [.one (.d (.int .i64)), .one (.d (.int .i64))] (fun ((x1, x2, x3), (x4, x5, x6), x7) => f_149 N x1 x2 x3 x4 x5 x6 x7)
theorem s_149 (N : Nat) : SumOk Tryz.prog laidL 149 (S_149 N) := fn_x h0 fz Tryz.func149 (lookOk_nil)
def f_152 (_ : Nat) (x1 x2 : Int) : Option (TAs [.one (.d (.int .i64)), .one (.d (.int .i64))]) :=
 (bif (decide (x2 < 0)) then (bif (decide (x1 > (IntKind.i64.wrap (9223372036854775807 + x2)))) then (some (0, 1)) else (bif (decide (x2 > 0)) then (bif (decide (x1 < (IntKind.i64.wrap ((-9223372036854775808) + x2)))) then (some (0, (-1))) else (some ((IntKind.i64.wrap (x1 - x2)), 0))) else (some ((IntKind.i64.wrap (x1 - x2)), 0)))) else (bif (decide (x2 > 0)) then (bif (decide (x1 < (IntKind.i64.wrap ((-9223372036854775808) + x2)))) then (some (0, (-1))) else (some ((IntKind.i64.wrap (x1 - x2)), 0))) else (some ((IntKind.i64.wrap (x1 - x2)), 0))))
def S_152 (N : Nat) : Sum := fnSum 2 0 2 [.one (.d (.int .i64)), .one (.d (.int .i64))] [.one (.d (.int .i64)), .one (.d (.int .i64))] (fun (x1, x2) => f_152 N x1 x2)
theorem s_152 (N : Nat) : SumOk Tryz.prog laidL 152 (S_152 N) := fn_x h0 fz Tryz.func152 (lookOk_nil)
def f_153 (_ : Nat) (x1 : Int) : Option (TAs [.one (.d (.bool))]) :=
 (bif (decide (x1 > (-4611686018427387904))) then (some (decide (x1 < 4611686018427387904))) else (some false))
def S_153 (N : Nat) : Sum := fnSum 1 0 1 [.one (.d (.int .i64))] [.one (.d (.bool))] (fun x1 => f_153 N x1)
theorem s_153 (N : Nat) : SumOk Tryz.prog laidL 153 (S_153 N) := fn_x h0 fz Tryz.func153 (lookOk_nil)
def X_158 (_ : Nat) : List (Nat × Sum) := []
theorem x_158 (N : Nat) : FnsOk Tryz.prog laidL (X_158 N) := fz
def sh_158_0 : List ShA := [.one (.d (.int .i64)), .one (.ptr 160 0), .one (.d (.int .i64)), .one (.d (.int .i64)), zg8]
abbrev T_158_0 := TAs [.one (.d (.int .i64))]
def o_158_0 : OutK 0 T_158_0 := (outOne 0 (.exit 0) [5] [] [.one (.d (.int .i64))])
def b_158_0 (_ : Nat) (ih : TAs sh_158_0 → Option T_158_0) : TAs sh_158_0 → Option T_158_0 := fun (y5, _, y6, y7, (y8, y9, y10)) =>
 (bif (decide (y7 < (List.length y10 : Int))) then (bif (decide (0 ≤ y7 ∧ y7 < (List.length y10 : Int))) then (bif (decide ((List.getD y10 (Int.toNat y7) 0) < y5)) then (ih (y5, (), (IntKind.i64.wrap (y6 + 1)), (IntKind.i64.wrap (y7 + 1)), (y8, y9, y10))) else (ih (y5, (), y6, (IntKind.i64.wrap (y7 + 1)), (y8, y9, y10)))) else none) else (some (y6)))
def l_158_0 (N : Nat) : TAs sh_158_0 → Option T_158_0 := iter (b_158_0 N) N
def L_158_0 (N : Nat) : LSum := loopSum [1, 2, 5, 6] [160] sh_158_0 o_158_0 (l_158_0 N)
theorem L_ok_158_0 (N : Nat) : SegOk Tryz.prog laidL 0 Tryz.f158.ntmps (loopAt 0 0 (bodyOf Tryz.f158)) (L_158_0 N) :=
 lp_x h0 (x_158 N) (lookOk_nil)
def f_158 (N : Nat) (x1 x2 : Int) (x3 : List Int) (x4 : Int) : Option (TAs [.one (.d (.int .i64))]) :=
 ((l_158_0 N (x4, (), (IntKind.i64.wrap ((IntKind.i64.wrap (86400 * x4)) + x1)), 0, (x1, x2, x3))).bind fun q11 => (some q11))
def S_158 (N : Nat) : Sum := fnSum 2 0 1 [zg8, .one (.d (.int .i64))] [.one (.d (.int .i64))] (fun ((x1, x2, x3), x4) => f_158 N x1 x2 x3 x4)
theorem s_158 (N : Nat) : SumOk Tryz.prog laidL 158 (S_158 N) := fn_x h0 (x_158 N) Tryz.func158 ((lookOk_cons (L_ok_158_0 N) lookOk_nil))
def f_160 (N : Nat) (x1 x2 : Int) : Option (TAs [.one (.d (.int .i64)), .one (.d (.int .i64))]) :=
 ((f_117 N x2).bind fun r3 => (bif (!r3) then (some (0, 1)) else ((f_96 N x1 x2).bind fun r4 => (bif (r4.2 == 0) then (some (x1, 0)) else ((f_56 N x1 (IntKind.i64.wrap (x2 - r4.2))).bind fun r5 => (bif (r5.2 != 0) then (some (0, 2)) else (some (r5.1, 0))))))))
def S_160 (N : Nat) : Sum := fnSum 2 0 2 [.one (.d (.int .i64)), .one (.d (.int .i64))] [.one (.d (.int .i64)), .one (.d (.int .i64))] (fun (x1, x2) => f_160 N x1 x2)
theorem s_160 (N : Nat) : SumOk Tryz.prog laidL 160 (S_160 N) := fn_x h0 (fk (s_117 N) (fk (s_96 N) (fk (s_56 N) fz))) Tryz.func160 (lookOk_nil)
def X_161 (_ : Nat) : List (Nat × Sum) := []
theorem x_161 (N : Nat) : FnsOk Tryz.prog laidL (X_161 N) := fz
def sh_161_0 : List ShA := [.one (.ptr 160 0), .one (.ptr 176 0), .one (.d (.int .i64)), zg5, zg5]
abbrev T_161_0 := ((TAs [.one (.d (.bool))]) ⊕ (TAs []))
def o_161_0 : OutK 0 T_161_0 := (outTwo (outOne 0 .ret [4] [] [.one (.d (.bool))]) (outOne 0 (.exit 0) [] [] []))
def b_161_0 (_ : Nat) (ih : TAs sh_161_0 → Option T_161_0) : TAs sh_161_0 → Option T_161_0 := fun (_, _, y7, (y8, y9, y10), (y11, y12, y13)) =>
 (bif (decide (y7 < (List.length y10 : Int))) then (bif (decide (0 ≤ y7 ∧ y7 < (List.length y10 : Int))) then (bif (decide (0 ≤ y7 ∧ y7 < (List.length y13 : Int))) then (bif (!(((List.getD y10 (Int.toNat y7) (0, 0, ByteArray.empty)).1 == (List.getD y13 (Int.toNat y7) (0, 0, ByteArray.empty)).1) && (((List.getD y10 (Int.toNat y7) (0, 0, ByteArray.empty)).2.1 == (List.getD y13 (Int.toNat y7) (0, 0, ByteArray.empty)).2.1) && ((List.getD y10 (Int.toNat y7) (0, 0, ByteArray.empty)).2.2.toList == (List.getD y13 (Int.toNat y7) (0, 0, ByteArray.empty)).2.2.toList)))) then (some (.inl false)) else (ih ((), (), (IntKind.i64.wrap (y7 + 1)), (y8, y9, y10), (y11, y12, y13)))) else none) else none) else (some (.inr ())))
def l_161_0 (N : Nat) : TAs sh_161_0 → Option T_161_0 := iter (b_161_0 N) N
def L_161_0 (N : Nat) : LSum := loopSum [2, 3, 5] [160, 176] sh_161_0 o_161_0 (l_161_0 N)
theorem L_ok_161_0 (N : Nat) : SegOk Tryz.prog laidL 0 Tryz.f161.ntmps (loopAt 0 0 (bodyOf Tryz.f161)) (L_161_0 N) :=
 lp_x h0 (x_161 N) (lookOk_nil)
def f_161 (N : Nat) (x1 : ByteArray) (x2 : Int) (x3 : List (Int × Int × ByteArray)) (x4 : ByteArray) (x5 : Int) (x6 : List (Int × Int × ByteArray)) : Option (TAs [.one (.d (.bool))]) :=
 (bif (!((ByteArray.toList x1) == (ByteArray.toList x4))) then (some false) else (bif (x2 != x5) then (some false) else (bif ((List.length x3 : Int) != (List.length x6 : Int)) then (some false) else ((l_161_0 N ((), (), 0, (x1, x2, x3), (x4, x5, x6))).bind fun q => (match q with | .inl q14 => (some q14) | .inr _ => (some true))))))
def S_161 (N : Nat) : Sum := fnSum 2 0 1 [zg5, zg5] [.one (.d (.bool))] (fun ((x1, x2, x3), (x4, x5, x6)) => f_161 N x1 x2 x3 x4 x5 x6)
theorem s_161 (N : Nat) : SumOk Tryz.prog laidL 161 (S_161 N) := fn_x h0 (x_161 N) Tryz.func161 ((lookOk_cons (L_ok_161_0 N) lookOk_nil))
def X_163 (_ : Nat) : List (Nat × Sum) := []
theorem x_163 (N : Nat) : FnsOk Tryz.prog laidL (X_163 N) := fz
def sh_163_0 : List ShA := [.one (.d (.int .i64)), .one (.ptr 160 0), .one (.d (.int .i64)), .one (.d (.str)), .one (.d (.int .i64)), zg5]
abbrev T_163_0 := TAs [.one (.d (.int .i64)), .one (.d (.str))]
def o_163_0 : OutK 0 T_163_0 := (outOne 0 (.exit 0) [6, 7] [] [.one (.d (.int .i64)), .one (.d (.str))])
def b_163_0 (_ : Nat) (ih : TAs sh_163_0 → Option T_163_0) : TAs sh_163_0 → Option T_163_0 := fun (y5, _, y6, y7, y8, (y9, y10, y11)) =>
 (bif (decide (y8 < (List.length y11 : Int))) then (bif (decide (0 ≤ y8 ∧ y8 < (List.length y11 : Int))) then (bif (decide ((List.getD y11 (Int.toNat y8) (0, 0, ByteArray.empty)).1 ≤ y5)) then (bif (decide (0 ≤ y8 ∧ y8 < (List.length y11 : Int))) then (bif (decide (0 ≤ y8 ∧ y8 < (List.length y11 : Int))) then (ih (y5, (), (List.getD y11 (Int.toNat y8) (0, 0, ByteArray.empty)).2.1, (List.getD y11 (Int.toNat y8) (0, 0, ByteArray.empty)).2.2, (IntKind.i64.wrap (y8 + 1)), (y9, y10, y11))) else none) else none) else (ih (y5, (), y6, y7, (IntKind.i64.wrap (y8 + 1)), (y9, y10, y11)))) else none) else (some ((y6, y7))))
def l_163_0 (N : Nat) : TAs sh_163_0 → Option T_163_0 := iter (b_163_0 N) N
def L_163_0 (N : Nat) : LSum := loopSum [1, 2, 6, 7, 8] [160] sh_163_0 o_163_0 (l_163_0 N)
theorem L_ok_163_0 (N : Nat) : SegOk Tryz.prog laidL 0 Tryz.f163.ntmps (loopAt 0 0 (bodyOf Tryz.f163)) (L_163_0 N) :=
 lp_x h0 (x_163 N) (lookOk_nil)
def f_163 (N : Nat) (x1 : ByteArray) (x2 : Int) (x3 : List (Int × Int × ByteArray)) (x4 : Int) : Option (TAs [.one (.d (.int .i64)), .one (.d (.str))]) :=
 ((l_163_0 N (x4, (), x2, x1, 0, (x1, x2, x3))).bind fun q12 => (some (q12.1, q12.2)))
def S_163 (N : Nat) : Sum := fnSum 2 0 2 [zg5, .one (.d (.int .i64))] [.one (.d (.int .i64)), .one (.d (.str))] (fun ((x1, x2, x3), x4) => f_163 N x1 x2 x3 x4)
theorem s_163 (N : Nat) : SumOk Tryz.prog laidL 163 (S_163 N) := fn_x h0 (x_163 N) Tryz.func163 ((lookOk_cons (L_ok_163_0 N) lookOk_nil))
def f_164 (_ : Nat) (x1 x2 : Int) : Option (TAs [.one (.d (.int .i64)), .one (.d (.err 129))]) :=
 (bif (!((decide ((IntKind.i64.wrap (x1 + x2)) < x1)) == (decide (x2 < 0)))) then (some (0, (some 2))) else (some ((IntKind.i64.wrap (x1 + x2)), none)))
def S_164 (N : Nat) : Sum := fnSum 2 0 2 [.one (.d (.int .i64)), .one (.d (.int .i64))] [.one (.d (.int .i64)), .one (.d (.err 129))] (fun (x1, x2) => f_164 N x1 x2)
theorem s_164 (N : Nat) : SumOk Tryz.prog laidL 164 (S_164 N) := fn_x h0 fz Tryz.func164 (lookOk_nil)
def f_167 (_ : Nat) (x1 : ByteArray) : Option (TAs [.one (.d (.bool))]) :=
 (bif (!((ByteArray.toList x1) == (ByteArray.toList (⟨#[]⟩ : ByteArray)))) then (bif (decide ((ByteArray.size x1 : Int) ≤ 12)) then ((trimF x1 (⟨#[65, 66, 67, 68, 69, 70, 71, 72, 73, 74, 75, 76, 77, 78, 79, 80, 81, 82, 83, 84, 85, 86, 87, 88, 89, 90, 97, 98, 99, 100, 101, 102, 103, 104, 105, 106, 107, 108, 109, 110, 111, 112, 113, 114, 115, 116, 117, 118, 119, 120, 121, 122, 48, 49, 50, 51, 52, 53, 54, 55, 56, 57, 47, 95, 43, 45]⟩)).bind fun r2 => (some ((ByteArray.toList r2) == (ByteArray.toList (⟨#[]⟩ : ByteArray))))) else (some false)) else (some false))
def S_167 (N : Nat) : Sum := fnSum 1 0 1 [.one (.d (.str))] [.one (.d (.bool))] (fun x1 => f_167 N x1)
theorem s_167 (N : Nat) : SumOk Tryz.prog laidL 167 (S_167 N) := fn_x h0 (fk trimS_ok fz) Tryz.func167 (lookOk_nil)
def f_168 (_ : Nat) (x1 : Int) : Option (TAs [.one (.d (.bool))]) :=
 (bif (decide (x1 ≥ (-86399))) then (some (decide (x1 ≤ 86399))) else (some false))
def S_168 (N : Nat) : Sum := fnSum 1 0 1 [.one (.d (.int .i64))] [.one (.d (.bool))] (fun x1 => f_168 N x1)
theorem s_168 (N : Nat) : SumOk Tryz.prog laidL 168 (S_168 N) := fn_x h0 fz Tryz.func168 (lookOk_nil)
def X_173 (_ : Nat) : List (Nat × Sum) := []
theorem x_173 (N : Nat) : FnsOk Tryz.prog laidL (X_173 N) := fz
def sh_173_0 : List ShA := [.one (.d (.str)), .one (.d (.int .i64))]
abbrev T_173_0 := ((TAs [.one (.d (.bool))]) ⊕ (TAs [.one (.d (.str))]))
def o_173_0 : OutK 0 T_173_0 := (outTwo (outOne 0 .ret [2] [] [.one (.d (.bool))]) (outOne 0 (.exit 0) [0] [] [.one (.d (.str))]))
def b_173_0 (_ : Nat) (ih : TAs sh_173_0 → Option T_173_0) : TAs sh_173_0 → Option T_173_0 := fun (y2, y3) =>
 (bif (decide (y3 < (ByteArray.size y2 : Int))) then (bif (decide (0 ≤ y3 ∧ y3 < (ByteArray.size y2 : Int))) then (bif (decide ((byteAt y2 (Int.toNat y3)) ≥ 97)) then (bif (decide ((byteAt y2 (Int.toNat y3)) ≤ 122)) then (ih (y2, (IntKind.i64.wrap (y3 + 1)))) else (bif (decide ((byteAt y2 (Int.toNat y3)) ≥ 65)) then (bif (decide ((byteAt y2 (Int.toNat y3)) ≤ 90)) then (ih (y2, (IntKind.i64.wrap (y3 + 1)))) else (bif (decide ((byteAt y2 (Int.toNat y3)) ≥ 48)) then (bif (decide ((byteAt y2 (Int.toNat y3)) ≤ 57)) then (ih (y2, (IntKind.i64.wrap (y3 + 1)))) else (bif ((byteAt y2 (Int.toNat y3)) == 47) then (ih (y2, (IntKind.i64.wrap (y3 + 1)))) else (bif ((byteAt y2 (Int.toNat y3)) == 95) then (ih (y2, (IntKind.i64.wrap (y3 + 1)))) else (bif ((byteAt y2 (Int.toNat y3)) == 43) then (ih (y2, (IntKind.i64.wrap (y3 + 1)))) else (bif (!((byteAt y2 (Int.toNat y3)) == 45)) then (some (.inl false)) else (ih (y2, (IntKind.i64.wrap (y3 + 1))))))))) else (bif ((byteAt y2 (Int.toNat y3)) == 47) then (ih (y2, (IntKind.i64.wrap (y3 + 1)))) else (bif ((byteAt y2 (Int.toNat y3)) == 95) then (ih (y2, (IntKind.i64.wrap (y3 + 1)))) else (bif ((byteAt y2 (Int.toNat y3)) == 43) then (ih (y2, (IntKind.i64.wrap (y3 + 1)))) else (bif (!((byteAt y2 (Int.toNat y3)) == 45)) then (some (.inl false)) else (ih (y2, (IntKind.i64.wrap (y3 + 1)))))))))) else (bif (decide ((byteAt y2 (Int.toNat y3)) ≥ 48)) then (bif (decide ((byteAt y2 (Int.toNat y3)) ≤ 57)) then (ih (y2, (IntKind.i64.wrap (y3 + 1)))) else (bif ((byteAt y2 (Int.toNat y3)) == 47) then (ih (y2, (IntKind.i64.wrap (y3 + 1)))) else (bif ((byteAt y2 (Int.toNat y3)) == 95) then (ih (y2, (IntKind.i64.wrap (y3 + 1)))) else (bif ((byteAt y2 (Int.toNat y3)) == 43) then (ih (y2, (IntKind.i64.wrap (y3 + 1)))) else (bif (!((byteAt y2 (Int.toNat y3)) == 45)) then (some (.inl false)) else (ih (y2, (IntKind.i64.wrap (y3 + 1))))))))) else (bif ((byteAt y2 (Int.toNat y3)) == 47) then (ih (y2, (IntKind.i64.wrap (y3 + 1)))) else (bif ((byteAt y2 (Int.toNat y3)) == 95) then (ih (y2, (IntKind.i64.wrap (y3 + 1)))) else (bif ((byteAt y2 (Int.toNat y3)) == 43) then (ih (y2, (IntKind.i64.wrap (y3 + 1)))) else (bif (!((byteAt y2 (Int.toNat y3)) == 45)) then (some (.inl false)) else (ih (y2, (IntKind.i64.wrap (y3 + 1))))))))))) else (bif (decide ((byteAt y2 (Int.toNat y3)) ≥ 65)) then (bif (decide ((byteAt y2 (Int.toNat y3)) ≤ 90)) then (ih (y2, (IntKind.i64.wrap (y3 + 1)))) else (bif (decide ((byteAt y2 (Int.toNat y3)) ≥ 48)) then (bif (decide ((byteAt y2 (Int.toNat y3)) ≤ 57)) then (ih (y2, (IntKind.i64.wrap (y3 + 1)))) else (bif ((byteAt y2 (Int.toNat y3)) == 47) then (ih (y2, (IntKind.i64.wrap (y3 + 1)))) else (bif ((byteAt y2 (Int.toNat y3)) == 95) then (ih (y2, (IntKind.i64.wrap (y3 + 1)))) else (bif ((byteAt y2 (Int.toNat y3)) == 43) then (ih (y2, (IntKind.i64.wrap (y3 + 1)))) else (bif (!((byteAt y2 (Int.toNat y3)) == 45)) then (some (.inl false)) else (ih (y2, (IntKind.i64.wrap (y3 + 1))))))))) else (bif ((byteAt y2 (Int.toNat y3)) == 47) then (ih (y2, (IntKind.i64.wrap (y3 + 1)))) else (bif ((byteAt y2 (Int.toNat y3)) == 95) then (ih (y2, (IntKind.i64.wrap (y3 + 1)))) else (bif ((byteAt y2 (Int.toNat y3)) == 43) then (ih (y2, (IntKind.i64.wrap (y3 + 1)))) else (bif (!((byteAt y2 (Int.toNat y3)) == 45)) then (some (.inl false)) else (ih (y2, (IntKind.i64.wrap (y3 + 1)))))))))) else (bif (decide ((byteAt y2 (Int.toNat y3)) ≥ 48)) then (bif (decide ((byteAt y2 (Int.toNat y3)) ≤ 57)) then (ih (y2, (IntKind.i64.wrap (y3 + 1)))) else (bif ((byteAt y2 (Int.toNat y3)) == 47) then (ih (y2, (IntKind.i64.wrap (y3 + 1)))) else (bif ((byteAt y2 (Int.toNat y3)) == 95) then (ih (y2, (IntKind.i64.wrap (y3 + 1)))) else (bif ((byteAt y2 (Int.toNat y3)) == 43) then (ih (y2, (IntKind.i64.wrap (y3 + 1)))) else (bif (!((byteAt y2 (Int.toNat y3)) == 45)) then (some (.inl false)) else (ih (y2, (IntKind.i64.wrap (y3 + 1))))))))) else (bif ((byteAt y2 (Int.toNat y3)) == 47) then (ih (y2, (IntKind.i64.wrap (y3 + 1)))) else (bif ((byteAt y2 (Int.toNat y3)) == 95) then (ih (y2, (IntKind.i64.wrap (y3 + 1)))) else (bif ((byteAt y2 (Int.toNat y3)) == 43) then (ih (y2, (IntKind.i64.wrap (y3 + 1)))) else (bif (!((byteAt y2 (Int.toNat y3)) == 45)) then (some (.inl false)) else (ih (y2, (IntKind.i64.wrap (y3 + 1))))))))))) else none) else (some (.inr y2)))
def l_173_0 (N : Nat) : TAs sh_173_0 → Option T_173_0 := iter (b_173_0 N) N
def L_173_0 (N : Nat) : LSum := loopSum [0, 3] [] sh_173_0 o_173_0 (l_173_0 N)
theorem L_ok_173_0 (N : Nat) : SegOk Tryz.prog laidL 0 Tryz.f173.ntmps (loopAt 0 0 (bodyOf Tryz.f173)) (L_173_0 N) :=
 lp_x h0 (x_173 N) (lookOk_nil)
def f_173 (N : Nat) (x1 : ByteArray) : Option (TAs [.one (.d (.bool))]) :=
 ((l_173_0 N (x1, 0)).bind fun q => (match q with | .inl q4 => (some q4) | .inr q5 => (bif (decide ((ByteArray.size q5 : Int) ≥ 1)) then (some (decide ((ByteArray.size q5 : Int) ≤ 12))) else (some false))))
def S_173 (N : Nat) : Sum := fnSum 1 0 1 [.one (.d (.str))] [.one (.d (.bool))] (fun x1 => f_173 N x1)
theorem s_173 (N : Nat) : SumOk Tryz.prog laidL 173 (S_173 N) := fn_x h0 (x_173 N) Tryz.func173 ((lookOk_cons (L_ok_173_0 N) lookOk_nil))
def f_174 (_ : Nat) (x1 : Int) : Option (TAs [.one (.d (.bool))]) :=
 (bif (decide (x1 > (-86400))) then (some (decide (x1 < 86400))) else (some false))
def S_174 (N : Nat) : Sum := fnSum 1 0 1 [.one (.d (.int .i64))] [.one (.d (.bool))] (fun x1 => f_174 N x1)
theorem s_174 (N : Nat) : SumOk Tryz.prog laidL 174 (S_174 N) := fn_x h0 fz Tryz.func174 (lookOk_nil)
def f_185 (N : Nat) (x1 x2 : Int) : Option (TAs [.one (.d (.int .i64)), .one (.d (.err 129))]) :=
 ((f_107 N x2).bind fun r3 => (bif (!(Option.isNone r3)) then (some (0, r3)) else ((f_94 N x1 x2).bind fun r4 => (some (r4.1, r4.2.2)))))
def S_185 (N : Nat) : Sum := fnSum 2 0 2 [.one (.d (.int .i64)), .one (.d (.int .i64))] [.one (.d (.int .i64)), .one (.d (.err 129))] (fun (x1, x2) => f_185 N x1 x2)
theorem s_185 (N : Nat) : SumOk Tryz.prog laidL 185 (S_185 N) := fn_x h0 (fk (s_107 N) (fk (s_94 N) fz)) Tryz.func185 (lookOk_nil)
def f_186 (_ : Nat) (x1 x2 : Int) : Option (TAs [.one (.d (.int .i64)), .one (.d (.err 129))]) :=
 (bif (x1 == 0) then (some (0, none)) else (bif (x2 == 0) then (some (0, none)) else (bif (x1 == (-1)) then (bif (x2 == (-9223372036854775808)) then (some (0, (some 2))) else (bif (x2 == (-1)) then (bif (x1 == (-9223372036854775808)) then (some (0, (some 2))) else (bif (decide (x2 = 0)) then none else (bif ((IntKind.i64.wrap (Int.tdiv (IntKind.i64.wrap (x1 * x2)) x2)) != x1) then (some (0, (some 2))) else (some ((IntKind.i64.wrap (x1 * x2)), none))))) else (bif (decide (x2 = 0)) then none else (bif ((IntKind.i64.wrap (Int.tdiv (IntKind.i64.wrap (x1 * x2)) x2)) != x1) then (some (0, (some 2))) else (some ((IntKind.i64.wrap (x1 * x2)), none)))))) else (bif (x2 == (-1)) then (bif (x1 == (-9223372036854775808)) then (some (0, (some 2))) else (bif (decide (x2 = 0)) then none else (bif ((IntKind.i64.wrap (Int.tdiv (IntKind.i64.wrap (x1 * x2)) x2)) != x1) then (some (0, (some 2))) else (some ((IntKind.i64.wrap (x1 * x2)), none))))) else (bif (decide (x2 = 0)) then none else (bif ((IntKind.i64.wrap (Int.tdiv (IntKind.i64.wrap (x1 * x2)) x2)) != x1) then (some (0, (some 2))) else (some ((IntKind.i64.wrap (x1 * x2)), none))))))))
def S_186 (N : Nat) : Sum := fnSum 2 0 2 [.one (.d (.int .i64)), .one (.d (.int .i64))] [.one (.d (.int .i64)), .one (.d (.err 129))] (fun (x1, x2) => f_186 N x1 x2)
theorem s_186 (N : Nat) : SumOk Tryz.prog laidL 186 (S_186 N) := fn_x h0 fz Tryz.func186 (lookOk_nil)
def X_187 (_ : Nat) : List (Nat × Sum) := []
theorem x_187 (N : Nat) : FnsOk Tryz.prog laidL (X_187 N) := fz
def sh_187_0 : List ShA := [.one (.ptr 144 0), .one (.d (.sl [.int .i64])), .one (.d (.int .i64)), .one (.d (.int .i64)), zg8]
abbrev T_187_0 := ((TAs [.one (.d (.err 129))]) ⊕ (TAs []))
def o_187_0 : OutK 0 T_187_0 := (outTwo (outOne 0 .ret [2] [] [.one (.d (.err 129))]) (outOne 0 (.exit 0) [] [] []))
def b_187_0 (_ : Nat) (ih : TAs sh_187_0 → Option T_187_0) : TAs sh_187_0 → Option T_187_0 := fun (_, y4, y5, y6, (y7, y8, y9)) =>
 (bif (decide (y6 < y5)) then (bif (decide (0 ≤ y6 ∧ y6 < (List.length y4 : Int))) then (bif (decide ((List.getD y4 (Int.toNat y6) 0) < (-50000))) then (some (.inl (some 1))) else (bif (decide ((List.getD y4 (Int.toNat y6) 0) ≥ y8)) then (some (.inl (some 1))) else (bif (decide (y6 > 0)) then (bif (decide (0 ≤ (IntKind.i64.wrap (y6 - 1)) ∧ (IntKind.i64.wrap (y6 - 1)) < (List.length y9 : Int))) then (bif (decide ((List.getD y9 (Int.toNat (IntKind.i64.wrap (y6 - 1))) 0) ≥ (List.getD y4 (Int.toNat y6) 0))) then (some (.inl (some 1))) else (ih ((), y4, y5, (IntKind.i64.wrap (y6 + 1)), (y7, y8, y9)))) else none) else (ih ((), y4, y5, (IntKind.i64.wrap (y6 + 1)), (y7, y8, y9)))))) else none) else (some (.inr ())))
def l_187_0 (N : Nat) : TAs sh_187_0 → Option T_187_0 := iter (b_187_0 N) N
def L_187_0 (N : Nat) : LSum := loopSum [1, 31, 32, 33] [144] sh_187_0 o_187_0 (l_187_0 N)
theorem L_ok_187_0 (N : Nat) : SegOk Tryz.prog laidL 0 Tryz.f187.ntmps (loopAt 0 0 (bodyOf Tryz.f187)) (L_187_0 N) :=
 lp_x h0 (x_187 N) (lookOk_nil)
def f_187 (N : Nat) (x1 x2 : Int) (x3 : List Int) : Option (TAs [.one (.d (.err 129))]) :=
 (bif (decide (x1 < 0)) then (some (some 1)) else (bif (decide (x1 > 100)) then (some (some 1)) else (bif (decide (x2 < (-50000))) then (some (some 1)) else (bif (decide (x2 > 50000)) then (some (some 1)) else (bif (decide ((List.length x3 : Int) > 32)) then (some (some 1)) else ((l_187_0 N ((), x3, (List.length x3 : Int), 0, (x1, x2, x3))).bind fun q => (match q with | .inl q10 => (some q10) | .inr _ => (some none))))))))
def S_187 (N : Nat) : Sum := fnSum 1 0 1 [zg8] [.one (.d (.err 129))] (fun (x1, x2, x3) => f_187 N x1 x2 x3)
theorem s_187 (N : Nat) : SumOk Tryz.prog laidL 187 (S_187 N) := fn_x h0 (x_187 N) Tryz.func187 ((lookOk_cons (L_ok_187_0 N) lookOk_nil))
def f_190 (_ : Nat) (_x1 x2 x3 : Int) : Option (TAs [.one (.d (.int .i64))]) :=
 (some (IntKind.i64.wrap ((IntKind.i64.wrap ((IntKind.i64.wrap (x2 + 1)) + x3)) * 1000000000)))
def S_190 (N : Nat) : Sum := fnSum 1 0 1 [zg9] [.one (.d (.int .i64))] (fun (x1, x2, x3) => f_190 N x1 x2 x3)
theorem s_190 (N : Nat) : SumOk Tryz.prog laidL 190 (S_190 N) := fn_x h0 fz Tryz.func190 (lookOk_nil)
def f_191 (_ : Nat) (x1 x2 : Int) : Option (TAs [.one (.d (.int .i64)), .one (.d (.int .i64)), .one (.d (.err 129))]) :=
 ((mdF 2000000000 x1 x2).bind fun r3 => (bif (!(Option.isNone r3.2)) then (some (0, 0, r3.2)) else ((wmulF x1 r3.1).bind fun r4 => ((wdivF ((r4.1, r4.2), x2)).bind fun r5 => (bif (!(Option.isNone r5.2.2)) then (some (0, 0, r5.2.2)) else ((wintF (r5.1.1, r5.1.2)).bind fun r6 => (some (r6.1, r5.2.1, r6.2))))))))
def S_191 (N : Nat) : Sum := fnSum 2 0 3 [.one (.d (.int .i64)), .one (.d (.int .i64))] [.one (.d (.int .i64)), .one (.d (.int .i64)), .one (.d (.err 129))] (fun (x1, x2) => f_191 N x1 x2)
theorem s_191 (N : Nat) : SumOk Tryz.prog laidL 191 (S_191 N) := fn_x h0 (fk mdS_ok (fk wmulS_ok (fk wdivS_ok (fk wintS_ok fz)))) Tryz.func191 (lookOk_nil)
def X_193 (_ : Nat) : List (Nat × Sum) := []
theorem x_193 (N : Nat) : FnsOk Tryz.prog laidL (X_193 N) := fz
def sh_193_0 : List ShA := [.one (.ptr 144 0), .one (.d (.int .i64)), zg8]
abbrev T_193_0 := ((TAs [.one (.d (.bool))]) ⊕ (TAs [.one (.ptr 144 0), zg8]))
def o_193_0 : OutK 0 T_193_0 := (outTwo (outOne 0 .ret [2] [] [.one (.d (.bool))]) (outOne 0 (.exit 0) [1] [144] [.one (.ptr 144 0), zg8]))
def b_193_0 (_ : Nat) (ih : TAs sh_193_0 → Option T_193_0) : TAs sh_193_0 → Option T_193_0 := fun (_, y4, (y5, y6, y7)) =>
 (bif (decide (y4 < (List.length y7 : Int))) then (bif (decide (0 ≤ y4 ∧ y4 < (List.length y7 : Int))) then (bif (decide ((List.getD y7 (Int.toNat y4) 0) < (-50000))) then (some (.inl false)) else (bif (decide (0 ≤ y4 ∧ y4 < (List.length y7 : Int))) then (bif (decide ((List.getD y7 (Int.toNat y4) 0) ≥ y6)) then (some (.inl false)) else (bif (decide (y4 > 0)) then (bif (decide (0 ≤ y4 ∧ y4 < (List.length y7 : Int))) then (bif (decide (0 ≤ (IntKind.i64.wrap (y4 - 1)) ∧ (IntKind.i64.wrap (y4 - 1)) < (List.length y7 : Int))) then (bif (decide ((List.getD y7 (Int.toNat y4) 0) ≤ (List.getD y7 (Int.toNat (IntKind.i64.wrap (y4 - 1))) 0))) then (some (.inl false)) else (ih ((), (IntKind.i64.wrap (y4 + 1)), (y5, y6, y7)))) else none) else none) else (ih ((), (IntKind.i64.wrap (y4 + 1)), (y5, y6, y7))))) else none)) else none) else (some (.inr ((), (y5, y6, y7)))))
def l_193_0 (N : Nat) : TAs sh_193_0 → Option T_193_0 := iter (b_193_0 N) N
def L_193_0 (N : Nat) : LSum := loopSum [1, 3] [144] sh_193_0 o_193_0 (l_193_0 N)
theorem L_ok_193_0 (N : Nat) : SegOk Tryz.prog laidL 0 Tryz.f193.ntmps (loopAt 0 0 (bodyOf Tryz.f193)) (L_193_0 N) :=
 lp_x h0 (x_193 N) (lookOk_nil)
def f_193 (N : Nat) (x1 x2 : Int) (x3 : List Int) : Option (TAs [.one (.d (.bool))]) :=
 ((l_193_0 N ((), 0, (x1, x2, x3))).bind fun q => (match q with | .inl q8 => (some q8) | .inr q9 => (bif (decide (q9.2.1 ≥ 0)) then (bif (decide (q9.2.1 ≤ 100)) then (bif (decide (q9.2.2.1 ≥ (-50000))) then (bif (decide (q9.2.2.1 ≤ 50000)) then (some (decide ((List.length q9.2.2.2 : Int) ≤ 32))) else (some false)) else (some false)) else (some false)) else (some false))))
def S_193 (N : Nat) : Sum := fnSum 1 0 1 [zg8] [.one (.d (.bool))] (fun (x1, x2, x3) => f_193 N x1 x2 x3)
theorem s_193 (N : Nat) : SumOk Tryz.prog laidL 193 (S_193 N) := fn_x h0 (x_193 N) Tryz.func193 ((lookOk_cons (L_ok_193_0 N) lookOk_nil))
def f_194 (_ : Nat) (x1 x2 x3 : Int) : Option (TAs [.one (.d (.int .i64))]) :=
 ((rmdF (IntKind.i64.wrap (0 - x1)) x2 x3).bind fun r4 => (some (IntKind.i64.wrap (0 - r4.1))))
def S_194 (N : Nat) : Sum := fnSum 3 0 1 [.one (.d (.int .i64)), .one (.d (.int .i64)), .one (.d (.int .i64))] [.one (.d (.int .i64))] (fun (x1, x2, x3) => f_194 N x1 x2 x3)
theorem s_194 (N : Nat) : SumOk Tryz.prog laidL 194 (S_194 N) := fn_x h0 (fk rmdS_ok fz) Tryz.func194 (lookOk_nil)
def f_195 (N : Nat) (x1 x2 : Int) : Option (TAs [.one (.d (.int .i64)), .one (.d (.err 129))]) :=
 ((f_94 N x1 x2).bind fun r3 => (bif (!(Option.isNone r3.2.2)) then (some (0, r3.2.2)) else (bif (decide (r3.2.1 > 0)) then (some ((IntKind.i64.wrap (r3.1 + 1)), none)) else (some (r3.1, none)))))
def S_195 (N : Nat) : Sum := fnSum 2 0 2 [.one (.d (.int .i64)), .one (.d (.int .i64))] [.one (.d (.int .i64)), .one (.d (.err 129))] (fun (x1, x2) => f_195 N x1 x2)
theorem s_195 (N : Nat) : SumOk Tryz.prog laidL 195 (S_195 N) := fn_x h0 (fk (s_94 N) fz) Tryz.func195 (lookOk_nil)
def f_203 (N : Nat) (x1 x2 : Int) (x3 : List Int) (x4 : Int) : Option (TAs [.one (.d (.err 129))]) :=
 ((f_187 N x1 x2 x3).bind fun r5 => (bif (!(Option.isNone r5)) then (some (some 1)) else (bif (decide (x4 < (-50000))) then (some (some 2)) else (bif (decide (x4 ≥ x2)) then (some (some 10)) else (some none)))))
def S_203 (N : Nat) : Sum := fnSum 2 0 1 [zg8, .one (.d (.int .i64))] [.one (.d (.err 129))] (fun ((x1, x2, x3), x4) => f_203 N x1 x2 x3 x4)
theorem s_203 (N : Nat) : SumOk Tryz.prog laidL 203 (S_203 N) := fn_x h0 (fk (s_187 N) fz) Tryz.func203 (lookOk_nil)
def X_206 (_ : Nat) : List (Nat × Sum) := []
theorem x_206 (N : Nat) : FnsOk Tryz.prog laidL (X_206 N) := fz
def sh_206_0 : List ShA := [.one (.d (.int .u64)), .one (.d (.int .i64)), .one (.slt [.int .u8] 5 1), .one (.d (.int .i64))]
abbrev T_206_0 := TAs [.one (.slt [.int .u8] 5 1)]
def o_206_0 : OutK 0 T_206_0 := (outOne 0 (.exit 0) [7] [] [.one (.slt [.int .u8] 5 1)])
def b_206_0 (_ : Nat) (ih : TAs sh_206_0 → Option T_206_0) : TAs sh_206_0 → Option T_206_0 := fun (y4, y5, y6, y7) =>
 (bif (decide (y7 < y5)) then (bif (decide ((List.length y6 + List.length ([(IntKind.u8.wrap (Int.tmod y4 256))] : List Int)) * 1 ≤ 140737488355328)) then (ih ((IntKind.u64.wrap (Int.tdiv y4 256)), y5, (y6 ++ ([(IntKind.u8.wrap (Int.tmod y4 256))] : List Int)), (IntKind.i64.wrap (y7 + 1)))) else none) else (some (y6)))
def l_206_0 (N : Nat) : TAs sh_206_0 → Option T_206_0 := iter (b_206_0 N) N
def L_206_0 (N : Nat) : LSum := loopSum [1, 2, 7, 8] [] sh_206_0 o_206_0 (l_206_0 N)
theorem L_ok_206_0 (N : Nat) : SegOk Tryz.prog laidL 0 Tryz.f206.ntmps (loopAt 0 0 (bodyOf Tryz.f206)) (L_206_0 N) :=
 lp_x h0 (x_206 N) (lookOk_nil)
def f_206 (N : Nat) (x1 : List Int) (x2 x3 : Int) : Option (TAs [.one (.slt [.int .u8] 5 1)]) :=
 (bif (decide ((List.length ([] : List Int) + List.length x1) * 1 ≤ 140737488355328)) then ((l_206_0 N (x2, x3, (([] : List Int) ++ x1), 0)).bind fun q8 => (some q8)) else none)
def S_206 (N : Nat) : Sum := fnSum 3 0 1 [.one (.d (.sl [.int .u8])), .one (.d (.int .u64)), .one (.d (.int .i64))] [.one (.slt [.int .u8] 5 1)] (fun (x1, x2, x3) => f_206 N x1 x2 x3)
theorem s_206 (N : Nat) : SumOk Tryz.prog laidL 206 (S_206 N) := fn_x h0 (x_206 N) Tryz.func206 ((lookOk_cons (L_ok_206_0 N) lookOk_nil))
def f_220 (_ : Nat) (x1 : Int) : Option (TAs [.one (.d (.bool))]) :=
 (some (x1 != x1))
def S_220 (N : Nat) : Sum := fnSum 1 0 1 [.one (.d (.int .i64))] [.one (.d (.bool))] (fun x1 => f_220 N x1)
theorem s_220 (N : Nat) : SumOk Tryz.prog laidL 220 (S_220 N) := fn_x h0 fz Tryz.func220 (lookOk_nil)
def f_226 (N : Nat) (x1 x2 : Int) : Option (TAs [.one (.d (.bool))]) :=
 ((f_220 N x1).bind fun r3 => (bif r3 then ((f_220 N x2).bind fun r4 => (bif (!r4) then (some true) else (some (decide (x1 < x2))))) else (some (decide (x1 < x2)))))
def S_226 (N : Nat) : Sum := fnSum 2 0 1 [.one (.d (.int .i64)), .one (.d (.int .i64))] [.one (.d (.bool))] (fun (x1, x2) => f_226 N x1 x2)
theorem s_226 (N : Nat) : SumOk Tryz.prog laidL 226 (S_226 N) := fn_x h0 (fk (s_220 N) fz) Tryz.func226 (lookOk_nil)
def f_227 (_ : Nat) (x1 : Int) : Option (TAs [.one (.d (.bool))]) :=
 (some (x1 != x1))
def S_227 (N : Nat) : Sum := fnSum 1 0 1 [.one (.d (.int .i64))] [.one (.d (.bool))] (fun x1 => f_227 N x1)
theorem s_227 (N : Nat) : SumOk Tryz.prog laidL 227 (S_227 N) := fn_x h0 fz Tryz.func227 (lookOk_nil)
def X_228 (_ : Nat) : List (Nat × Sum) := []
theorem x_228 (N : Nat) : FnsOk Tryz.prog laidL (X_228 N) := fz
def sh_228_0 : List ShA := [.one (.d (.int .i64)), .one (.ptr 160 0), .one (.ptr 192 0), .one (.d (.int .u64)), .one (.d (.int .i64)), zg11, zg12]
abbrev T_228_0 := TAs [.one (.d (.int .i64)), .one (.ptr 160 0), .one (.ptr 192 0), .one (.d (.int .u64)), zg11, zg12]
def o_228_0 : OutK 0 T_228_0 := (outOne 0 (.exit 0) [1, 2, 4, 6] [160, 192] [.one (.d (.int .i64)), .one (.ptr 160 0), .one (.ptr 192 0), .one (.d (.int .u64)), zg11, zg12])
def b_228_0 (_ : Nat) (ih : TAs sh_228_0 → Option T_228_0) : TAs sh_228_0 → Option T_228_0 := fun (y4, _, _, y5, y6, (y7, y8), (y9, y10)) =>
 (bif (decide (y6 ≥ 0)) then (bif (decide (0 ≤ y6 ∧ y6 < (List.length y7 : Int))) then (ih (y4, (), (), (IntKind.u64.wrap ((IntKind.u64.wrap (256 * y5)) + (IntKind.u64.wrap (List.getD y7 (Int.toNat y6) 0)))), (IntKind.i64.wrap (y6 - 1)), (y7, y8), (y9, y10))) else none) else (some ((y4, (), (), y5, (y7, y8), (y9, y10)))))
def l_228_0 (N : Nat) : TAs sh_228_0 → Option T_228_0 := iter (b_228_0 N) N
def L_228_0 (N : Nat) : LSum := loopSum [1, 2, 4, 6, 7] [160, 192] sh_228_0 o_228_0 (l_228_0 N)
theorem L_ok_228_0 (N : Nat) : SegOk Tryz.prog laidL 0 Tryz.f228.ntmps (loopAt 0 0 (bodyOf Tryz.f228)) (L_228_0 N) :=
 lp_x h0 (x_228 N) (lookOk_nil)
def f_228 (N : Nat) (x1 : List Int) (x2 : Bool) (x3 : Int) : Option (TAs [zg11, .one (.d (.int .u64))]) :=
 (bif x2 then (some ((([] : List Int), true), 0)) else (bif (decide ((List.length x1 : Int) < x3)) then (some ((([] : List Int), true), 0)) else ((l_228_0 N (x3, (), (), 0, (IntKind.i64.wrap (x3 - 1)), (x1, x2), (([] : List Int), false))).bind fun q11 => (bif (decide (0 ≤ (List.length q11.2.2.2.2.1.1 : Int) ∧ (List.length q11.2.2.2.2.1.1 : Int) ≤ (List.length q11.2.2.2.2.1.1 : Int))) then (bif (decide (0 ≤ q11.1 ∧ q11.1 ≤ (List.length q11.2.2.2.2.1.1 : Int))) then (some (((List.drop (Int.toNat q11.1) (List.take (Int.toNat (List.length q11.2.2.2.2.1.1 : Int)) q11.2.2.2.2.1.1)), false), q11.2.2.2.1)) else none) else none))))
def S_228 (N : Nat) : Sum := fnSum 2 0 2 [zg11, .one (.d (.int .i64))] [zg11, .one (.d (.int .u64))] (fun ((x1, x2), x3) => f_228 N x1 x2 x3)
theorem s_228 (N : Nat) : SumOk Tryz.prog laidL 228 (S_228 N) := fn_x h0 (x_228 N) Tryz.func228 ((lookOk_cons (L_ok_228_0 N) lookOk_nil))
def f_229 (_ : Nat) (x1 x2 : Int) : Option (TAs [.one (.d (.int .u64))]) :=
 (bif (decide (x2 < 0)) then none else (bif (decide ((IntKind.u64.wrap (64 - x2)) < 0)) then none else (some (IntKind.u64.wrap ((IntKind.u64.wrap (x1 * 2 ^ (min (Int.toNat x2) IntKind.u64.bits))) + (x1 / 2 ^ (min (Int.toNat (IntKind.u64.wrap (64 - x2))) IntKind.u64.bits)))))))
def S_229 (N : Nat) : Sum := fnSum 2 0 1 [.one (.d (.int .u64)), .one (.d (.int .u64))] [.one (.d (.int .u64))] (fun (x1, x2) => f_229 N x1 x2)
theorem s_229 (N : Nat) : SumOk Tryz.prog laidL 229 (S_229 N) := fn_x h0 fz Tryz.func229 (lookOk_nil)
def f_232 (_ : Nat) (x1 : List Int) (x2 : Bool) : Option (TAs [.one (.d (.int .i64)), zg11]) :=
 ((rdF 8 x1 x2).bind fun r3 => (some ((IntKind.i64.wrap r3.1), (r3.2.1, r3.2.2))))
def S_232 (N : Nat) : Sum := fnSum 1 1 1 [.one (.ptr 0 0), zg11] [.one (.d (.int .i64)), zg11] (fun (_, (x1, x2)) => f_232 N x1 x2)
theorem s_232 (N : Nat) : SumOk Tryz.prog laidL 232 (S_232 N) := fn_x h0 (fk rdS_ok fz) Tryz.func232 (lookOk_nil)
def Xc_234 : Ctx := ⟨tyT, lookF [], eqT, fun _ => false⟩
theorem xc_234 : CtxOk Go.Proofs.Tryz.prog laidL Xc_234 := ⟨tyOk, eqOk, fun _ _ => fnsOk_nil.get, by kernel_rfl⟩
def cl_234 : Sum := fnSum 1 0 1 [.one (.d (.sl [.int .u8]))] [.one (.slt [.int .u8] 5 1)] (cloneF [.int .u8] 1)
theorem cl_234_ok : SumOk Go.Proofs.Tryz.prog laidL 234 cl_234 :=
 clone_ok (t := 305) (bt := 4) (e := 5) xc_234 Go.Proofs.Tryz.func234 (by kernel_rfl) rfl rfl rfl (by kernel_rfl) (fun b xs h => by
  cases b with
  | false => kernel_rfl
  | true => obtain rfl := h rfl; kernel_rfl)
def f_236 (_ : Nat) (x1 x2 : Int) : Option (TAs [.one (.d (.int .u64))]) :=
 (bif (decide ((ibits .and .u64 (IntKind.u64.wrap x2) 63) < 0)) then none else (bif (decide ((IntKind.u64.wrap (64 - (ibits .and .u64 (IntKind.u64.wrap x2) 63))) < 0)) then none else (some (ibits .or .u64 (IntKind.u64.wrap (x1 * 2 ^ (min (Int.toNat (ibits .and .u64 (IntKind.u64.wrap x2) 63)) IntKind.u64.bits))) (x1 / 2 ^ (min (Int.toNat (IntKind.u64.wrap (64 - (ibits .and .u64 (IntKind.u64.wrap x2) 63)))) IntKind.u64.bits))))))
def S_236 (N : Nat) : Sum := fnSum 2 0 1 [.one (.d (.int .u64)), .one (.d (.int .i64))] [.one (.d (.int .u64))] (fun (x1, x2) => f_236 N x1 x2)
theorem s_236 (N : Nat) : SumOk Tryz.prog laidL 236 (S_236 N) := fn_x h0 fz Tryz.func236 (lookOk_nil)
def f_21 (N : Nat) (x1 : ByteArray) (_x2 : List Int) (_x3 _x4 _x5 _x6 _x7 _x8 : Int) (_x9 : Bool) (x10 : ByteArray) (x11 : Int) (x12 : List (Int × Int × ByteArray)) (_x13 : Bool) (_x14 _x15 : Int) (_x16 : Bool) (_x17 _x18 : Int) : Option (TAs [.one (.d (.bool))]) :=
 ((f_26 N x10 x11 x12).bind fun r19 => (bif r19 then (some true) else (some (decide ((ByteArray.size x1 : Int) > 100)))))
def S_21 (N : Nat) : Sum := fnSum 1 0 1 [zg1] [.one (.d (.bool))] (fun (x1, x2, x3, x4, x5, x6, x7, x8, x9, x10, x11, x12, x13, x14, x15, x16, x17, x18) => f_21 N x1 x2 x3 x4 x5 x6 x7 x8 x9 x10 x11 x12 x13 x14 x15 x16 x17 x18)
theorem s_21 (N : Nat) : SumOk Tryz.prog laidL 21 (S_21 N) := fn_x h0 (fk (s_26 N) fz) Tryz.func21 (lookOk_nil)
def f_30 (N : Nat) (x1 x2 x3 x4 x5 x6 : Int) (x7 : Bool) (x8 : ByteArray) (x9 : Int) (x10 : List (Int × Int × ByteArray)) : Option (TAs [zg2]) :=
 ((f_87 N x8 x9 x10).bind fun r11 => (some (x1, x2, x3, x4, x5, x6, x7, r11.1, r11.2.1, r11.2.2)))
def S_30 (N : Nat) : Sum := fnSum 1 0 1 [zg3] [zg2] (fun (x1, x2, x3, x4, x5, x6, x7, x8, x9, x10) => f_30 N x1 x2 x3 x4 x5 x6 x7 x8 x9 x10)
theorem s_30 (N : Nat) : SumOk Tryz.prog laidL 30 (S_30 N) := fn_x h0 (fk (s_87 N) fz) Tryz.func30 (lookOk_nil)
def f_52 (N : Nat) (x1 x2 : Int) : Option (TAs [.one (.d (.int .i64))]) :=
 ((f_114 N x1 x2).bind fun r3 => (bif (!(Option.isNone r3.2)) then ((f_115 N (decide (x2 > 0))).bind fun r4 => (some r4)) else (some r3.1)))
def S_52 (N : Nat) : Sum := fnSum 2 0 1 [.one (.d (.int .i64)), .one (.d (.int .i64))] [.one (.d (.int .i64))] (fun (x1, x2) => f_52 N x1 x2)
theorem s_52 (N : Nat) : SumOk Tryz.prog laidL 52 (S_52 N) := fn_x h0 (fk (s_114 N) (fk (s_115 N) fz)) Tryz.func52 (lookOk_nil)
def f_72 (N : Nat) (x1 : Bool) (x2 x3 : Int) : Option (TAs [.one (.d (.bool))]) :=
 (bif (!x1) then (some (x2 == 0)) else ((f_142 N x2 x3).bind fun r4 => (some r4)))
def S_72 (N : Nat) : Sum := fnSum 2 0 1 [zg14, .one (.d (.int .i64))] [.one (.d (.bool))] (fun ((x1, x2), x3) => f_72 N x1 x2 x3)
theorem s_72 (N : Nat) : SumOk Tryz.prog laidL 72 (S_72 N) := fn_x h0 (fk (s_142 N) fz) Tryz.func72 (lookOk_nil)
def f_76 (N : Nat) (x1 : Bool) (x2 x3 : Int) : Option (TAs [.one (.d (.int .i64)), .one (.d (.int .i64)), zg14]) :=
 ((f_145 N x1 x2 x3).bind fun r4 => ((f_52 N r4.2 x3).bind fun r5 => (some (r4.2, r5, (r4.1, r4.2)))))
def S_76 (N : Nat) : Sum := fnSum 2 0 3 [zg14, .one (.d (.int .i64))] [.one (.d (.int .i64)), .one (.d (.int .i64)), zg14] (fun ((x1, x2), x3) => f_76 N x1 x2 x3)
theorem s_76 (N : Nat) : SumOk Tryz.prog laidL 76 (S_76 N) := fn_x h0 (fk (s_145 N) (fk (s_52 N) fz)) Tryz.func76 (lookOk_nil)
def f_81 (N : Nat) (x1 x2 : Int) : Option (TAs [.one (.d (.int .i64)), .one (.d (.int .i64))]) :=
 ((f_117 N x2).bind fun r3 => (bif (!r3) then (some (0, 1)) else ((f_96 N x1 x2).bind fun r4 => ((f_152 N x1 r4.2).bind fun r5 => (bif (r5.2 != 0) then (some (0, 2)) else (some (r5.1, 0)))))))
def S_81 (N : Nat) : Sum := fnSum 2 0 2 [.one (.d (.int .i64)), .one (.d (.int .i64))] [.one (.d (.int .i64)), .one (.d (.int .i64))] (fun (x1, x2) => f_81 N x1 x2)
theorem s_81 (N : Nat) : SumOk Tryz.prog laidL 81 (S_81 N) := fn_x h0 (fk (s_117 N) (fk (s_96 N) (fk (s_152 N) fz))) Tryz.func81 (lookOk_nil)
def f_83 (N : Nat) (x1 : Bool) (x2 x3 : Int) : Option (TAs [.one (.d (.int .i64)), .one (.d (.int .i64)), zg14]) :=
 (bif x1 then (bif (decide (x2 > x3)) then ((f_152 N x2 x3).bind fun r4 => ((f_60 N r4.1 r4.2).bind fun r5 => (some (x2, r5, (x1, x2))))) else (some (x3, 0, (true, x3)))) else (some (x3, 0, (true, x3))))
def S_83 (N : Nat) : Sum := fnSum 2 0 3 [zg14, .one (.d (.int .i64))] [.one (.d (.int .i64)), .one (.d (.int .i64)), zg14] (fun ((x1, x2), x3) => f_83 N x1 x2 x3)
theorem s_83 (N : Nat) : SumOk Tryz.prog laidL 83 (S_83 N) := fn_x h0 (fk (s_152 N) (fk (s_60 N) fz)) Tryz.func83 (lookOk_nil)
def f_88 (N : Nat) (x1 : Bool) (x2 x3 x4 : Int) : Option (TAs [zg14, .one (.d (.int .i64))]) :=
 (bif (decide (x3 < 0)) then (some ((false, 0), 1)) else ((f_117 N x4).bind fun r5 => (bif (!r5) then (some ((false, 0), 1)) else (bif (!x1) then (some ((x1, x2), 0)) else ((f_56 N x2 x3).bind fun r6 => ((f_60 N r6.1 r6.2).bind fun r7 => ((f_160 N r7 x4).bind fun r8 => (bif (r8.2 != 0) then (some ((false, 0), r8.2)) else (some ((true, r8.1), 0))))))))))
def S_88 (N : Nat) : Sum := fnSum 3 0 2 [zg14, .one (.d (.int .i64)), .one (.d (.int .i64))] [zg14, .one (.d (.int .i64))] (fun ((x1, x2), x3, x4) => f_88 N x1 x2 x3 x4)
theorem s_88 (N : Nat) : SumOk Tryz.prog laidL 88 (S_88 N) := fn_x h0 (fk (s_117 N) (fk (s_56 N) (fk (s_60 N) (fk (s_160 N) fz)))) Tryz.func88 (lookOk_nil)
def f_89 (N : Nat) (x1 x2 x3 x4 x5 x6 : Int) (x7 : Bool) (x8 : ByteArray) (x9 : Int) (x10 : List (Int × Int × ByteArray)) (x11 x12 x13 x14 x15 x16 : Int) (x17 : Bool) (x18 : ByteArray) (x19 : Int) (x20 : List (Int × Int × ByteArray)) : Option (TAs [.one (.d (.bool))]) :=
 (bif ((x1 == x11) && ((x2 == x12) && (x3 == x13))) then (bif (x4 == x14) then (bif ((x5 == x15) && (x6 == x16)) then (bif (x7 == x17) then ((f_161 N x8 x9 x10 x18 x19 x20).bind fun r21 => (some r21)) else (some false)) else (some false)) else (some false)) else (some false))
def S_89 (N : Nat) : Sum := fnSum 2 0 1 [zg3, zg3] [.one (.d (.bool))] (fun ((x1, x2, x3, x4, x5, x6, x7, x8, x9, x10), (x11, x12, x13, x14, x15, x16, x17, x18, x19, x20)) => f_89 N x1 x2 x3 x4 x5 x6 x7 x8 x9 x10 x11 x12 x13 x14 x15 x16 x17 x18 x19 x20)
theorem s_89 (N : Nat) : SumOk Tryz.prog laidL 89 (S_89 N) := fn_x h0 (fk (s_161 N) fz) Tryz.func89 (lookOk_nil)
def f_99 (N : Nat) (x1 : Bool) (x2 x3 : Int) : Option (TAs [.one (.d (.bool))]) :=
 ((f_153 N x2).bind fun r4 => (bif r4 then (bif x1 then (bif (decide (x3 ≥ 0)) then (some (decide (x3 ≤ 2305843009213693952))) else (some false)) else (bif (x2 == 0) then (bif (decide (x3 ≥ 0)) then (some (decide (x3 ≤ 2305843009213693952))) else (some false)) else (some false))) else (some false)))
def S_99 (N : Nat) : Sum := fnSum 1 0 1 [zg10] [.one (.d (.bool))] (fun (x1, x2, x3) => f_99 N x1 x2 x3)
theorem s_99 (N : Nat) : SumOk Tryz.prog laidL 99 (S_99 N) := fn_x h0 (fk (s_153 N) fz) Tryz.func99 (lookOk_nil)
def f_101 (N : Nat) (x1 : Int) : Option (TAs [.one (.d (.int .i64))]) :=
 (bif (decide (x1 < 0)) then ((f_52 N 0 x1).bind fun r2 => (some r2)) else (some x1))
def S_101 (N : Nat) : Sum := fnSum 1 0 1 [.one (.d (.int .i64))] [.one (.d (.int .i64))] (fun x1 => f_101 N x1)
theorem s_101 (N : Nat) : SumOk Tryz.prog laidL 101 (S_101 N) := fn_x h0 (fk (s_52 N) fz) Tryz.func101 (lookOk_nil)
def X_109 (N : Nat) : List (Nat × Sum) := [(167, (S_167 N)), (168, (S_168 N))]
theorem x_109 (N : Nat) : FnsOk Tryz.prog laidL (X_109 N) := fk (s_167 N) (fk (s_168 N) fz)
def sh_109_0 : List ShA := [.one (.ptr 144 0), .one (.d (.sl [.int .i64, .int .i64, .str])), .one (.d (.int .i64)), .one (.d (.int .i64)), zg5]
abbrev T_109_0 := ((TAs [.one (.d (.err 129))]) ⊕ (TAs []))
def o_109_0 : OutK 0 T_109_0 := (outTwo (outOne 0 .ret [2] [] [.one (.d (.err 129))]) (outOne 0 (.exit 0) [] [] []))
def b_109_0 (N : Nat) (ih : TAs sh_109_0 → Option T_109_0) : TAs sh_109_0 → Option T_109_0 := fun (_, y6, y7, y8, (y9, y10, y11)) =>
 (bif (decide (y8 < y7)) then (bif (decide (0 ≤ y8 ∧ y8 < (List.length y6 : Int))) then ((f_167 N ((List.getD y6 (Int.toNat y8) (0, 0, ByteArray.empty)).2.2)).bind fun r12 => (bif (!r12) then (some (.inl (some 1))) else ((f_168 N ((List.getD y6 (Int.toNat y8) (0, 0, ByteArray.empty)).2.1)).bind fun r13 => (bif (!r13) then (some (.inl (some 1))) else (bif (decide ((List.getD y6 (Int.toNat y8) (0, 0, ByteArray.empty)).1 < (-1099511627776))) then (some (.inl (some 1))) else (bif (decide ((List.getD y6 (Int.toNat y8) (0, 0, ByteArray.empty)).1 > 1099511627776)) then (some (.inl (some 1))) else (bif (decide (y8 > 0)) then (bif (decide (0 ≤ (IntKind.i64.wrap (y8 - 1)) ∧ (IntKind.i64.wrap (y8 - 1)) < (List.length y11 : Int))) then (bif (decide ((List.getD y11 (Int.toNat (IntKind.i64.wrap (y8 - 1))) (0, 0, ByteArray.empty)).1 ≥ (List.getD y6 (Int.toNat y8) (0, 0, ByteArray.empty)).1)) then (some (.inl (some 1))) else (ih ((), y6, y7, (IntKind.i64.wrap (y8 + 1)), (y9, y10, y11)))) else none) else (ih ((), y6, y7, (IntKind.i64.wrap (y8 + 1)), (y9, y10, y11)))))))))) else none) else (some (.inr ())))
def l_109_0 (N : Nat) : TAs sh_109_0 → Option T_109_0 := iter (b_109_0 N) N
def L_109_0 (N : Nat) : LSum := loopSum [1, 23, 24, 25] [144] sh_109_0 o_109_0 (l_109_0 N)
theorem L_ok_109_0 (N : Nat) : SegOk Tryz.prog laidL 0 Tryz.f109.ntmps (loopAt 0 0 (bodyOf Tryz.f109)) (L_109_0 N) :=
 lp_x h0 (x_109 N) (lookOk_nil)
def f_109 (N : Nat) (x1 : ByteArray) (x2 : Int) (x3 : List (Int × Int × ByteArray)) : Option (TAs [.one (.d (.err 129))]) :=
 ((f_167 N x1).bind fun r4 => (bif (!r4) then (some (some 1)) else ((f_168 N x2).bind fun r5 => (bif (!r5) then (some (some 1)) else (bif (decide ((List.length x3 : Int) > 32)) then (some (some 1)) else ((l_109_0 N ((), x3, (List.length x3 : Int), 0, (x1, x2, x3))).bind fun q => (match q with | .inl q14 => (some q14) | .inr _ => (some none))))))))
def S_109 (N : Nat) : Sum := fnSum 1 0 1 [zg5] [.one (.d (.err 129))] (fun (x1, x2, x3) => f_109 N x1 x2 x3)
theorem s_109 (N : Nat) : SumOk Tryz.prog laidL 109 (S_109 N) := fn_x h0 (x_109 N) Tryz.func109 ((lookOk_cons (L_ok_109_0 N) lookOk_nil))
def X_119 (N : Nat) : List (Nat × Sum) := [(173, (S_173 N)), (174, (S_174 N))]
theorem x_119 (N : Nat) : FnsOk Tryz.prog laidL (X_119 N) := fk (s_173 N) (fk (s_174 N) fz)
def sh_119_0 : List ShA := [.one (.ptr 144 0), .one (.d (.int .i64)), zg5]
abbrev T_119_0 := ((TAs [.one (.d (.bool))]) ⊕ (TAs [.one (.ptr 144 0), zg5]))
def o_119_0 : OutK 0 T_119_0 := (outTwo (outOne 0 .ret [2] [] [.one (.d (.bool))]) (outOne 0 (.exit 0) [1] [144] [.one (.ptr 144 0), zg5]))
def b_119_0 (N : Nat) (ih : TAs sh_119_0 → Option T_119_0) : TAs sh_119_0 → Option T_119_0 := fun (_, y4, (y5, y6, y7)) =>
 (bif (decide (y4 < (List.length y7 : Int))) then (bif (decide (0 ≤ y4 ∧ y4 < (List.length y7 : Int))) then ((f_173 N ((List.getD y7 (Int.toNat y4) (0, 0, ByteArray.empty)).2.2)).bind fun r8 => (bif (!r8) then (some (.inl false)) else ((f_174 N ((List.getD y7 (Int.toNat y4) (0, 0, ByteArray.empty)).2.1)).bind fun r9 => (bif (!r9) then (some (.inl false)) else (bif (decide ((List.getD y7 (Int.toNat y4) (0, 0, ByteArray.empty)).1 < (-1099511627776))) then (some (.inl false)) else (bif (decide ((List.getD y7 (Int.toNat y4) (0, 0, ByteArray.empty)).1 > 1099511627776)) then (some (.inl false)) else (bif (decide (y4 > 0)) then (bif (decide (0 ≤ (IntKind.i64.wrap (y4 - 1)) ∧ (IntKind.i64.wrap (y4 - 1)) < (List.length y7 : Int))) then (bif (decide ((List.getD y7 (Int.toNat y4) (0, 0, ByteArray.empty)).1 ≤ (List.getD y7 (Int.toNat (IntKind.i64.wrap (y4 - 1))) (0, 0, ByteArray.empty)).1)) then (some (.inl false)) else (ih ((), (IntKind.i64.wrap (y4 + 1)), (y5, y6, y7)))) else none) else (ih ((), (IntKind.i64.wrap (y4 + 1)), (y5, y6, y7)))))))))) else none) else (some (.inr ((), (y5, y6, y7)))))
def l_119_0 (N : Nat) : TAs sh_119_0 → Option T_119_0 := iter (b_119_0 N) N
def L_119_0 (N : Nat) : LSum := loopSum [1, 3] [144] sh_119_0 o_119_0 (l_119_0 N)
theorem L_ok_119_0 (N : Nat) : SegOk Tryz.prog laidL 0 Tryz.f119.ntmps (loopAt 0 0 (bodyOf Tryz.f119)) (L_119_0 N) :=
 lp_x h0 (x_119 N) (lookOk_nil)
def f_119 (N : Nat) (x1 : ByteArray) (x2 : Int) (x3 : List (Int × Int × ByteArray)) : Option (TAs [.one (.d (.bool))]) :=
 ((l_119_0 N ((), 0, (x1, x2, x3))).bind fun q => (match q with | .inl q10 => (some q10) | .inr q11 => ((f_173 N q11.2.1).bind fun r12 => (bif r12 then ((f_174 N q11.2.2.1).bind fun r13 => (bif r13 then (some (decide ((List.length q11.2.2.2 : Int) ≤ 32))) else (some false))) else (some false)))))
def S_119 (N : Nat) : Sum := fnSum 1 0 1 [zg5] [.one (.d (.bool))] (fun (x1, x2, x3) => f_119 N x1 x2 x3)
theorem s_119 (N : Nat) : SumOk Tryz.prog laidL 119 (S_119 N) := fn_x h0 (x_119 N) Tryz.func119 ((lookOk_cons (L_ok_119_0 N) lookOk_nil))
def f_136 (N : Nat) (x1 x2 : Int) : Option (TAs [.one (.d (.int .i64))]) :=
 ((f_164 N x1 x2).bind fun r3 => (bif (!(Option.isNone r3.2)) then ((f_115 N (decide (x2 < 0))).bind fun r4 => (some r4)) else (some r3.1)))
def S_136 (N : Nat) : Sum := fnSum 2 0 1 [.one (.d (.int .i64)), .one (.d (.int .i64))] [.one (.d (.int .i64))] (fun (x1, x2) => f_136 N x1 x2)
theorem s_136 (N : Nat) : SumOk Tryz.prog laidL 136 (S_136 N) := fn_x h0 (fk (s_164 N) (fk (s_115 N) fz)) Tryz.func136 (lookOk_nil)
def f_141 (N : Nat) (x1 : Int) : Option (TAs [.one (.d (.bool))]) :=
 ((f_101 N x1).bind fun r2 => (some (decide (r2 < 4611686018427387904))))
def S_141 (N : Nat) : Sum := fnSum 1 0 1 [.one (.d (.int .i64))] [.one (.d (.bool))] (fun x1 => f_141 N x1)
theorem s_141 (N : Nat) : SumOk Tryz.prog laidL 141 (S_141 N) := fn_x h0 (fk (s_101 N) fz) Tryz.func141 (lookOk_nil)
def f_144 (N : Nat) (x1 x2 : Int) : Option (TAs [.one (.d (.int .i64)), .one (.d (.err 129))]) :=
 ((f_185 N x1 x2).bind fun r3 => (bif (!(Option.isNone r3.2)) then (some (0, r3.2)) else ((f_186 N r3.1 x2).bind fun r4 => (some (r4.1, r4.2)))))
def S_144 (N : Nat) : Sum := fnSum 2 0 2 [.one (.d (.int .i64)), .one (.d (.int .i64))] [.one (.d (.int .i64)), .one (.d (.err 129))] (fun (x1, x2) => f_144 N x1 x2)
theorem s_144 (N : Nat) : SumOk Tryz.prog laidL 144 (S_144 N) := fn_x h0 (fk (s_185 N) (fk (s_186 N) fz)) Tryz.func144 (lookOk_nil)
def X_147 (N : Nat) : List (Nat × Sum) := [(106, (S_106 N)), (187, (S_187 N)), (149, (S_149 N))]
theorem x_147 (N : Nat) : FnsOk Tryz.prog laidL (X_147 N) := fk (s_106 N) (fk (s_187 N) (fk (s_149 N) fz))
def sh_147_0 : List ShA := [.one (.ptr 160 0), .one (.ptr 176 0), .one (.d (.int .i64)), .one (.d (.int .i64)), .one (.d (.int .i64)), zg9, zg8]
abbrev T_147_0 := ((TAs [.one (.d (.err 129))]) ⊕ (TAs []))
def o_147_0 : OutK 0 T_147_0 := (outTwo (outOne 0 .ret [4] [] [.one (.d (.err 129))]) (outOne 0 (.exit 0) [] [] []))
def b_147_0 (N : Nat) (ih : TAs sh_147_0 → Option T_147_0) : TAs sh_147_0 → Option T_147_0 := fun (_, _, y9, y10, y11, (y12, y13, y14), (y15, y16, y17)) =>
 (bif (decide (y11 < y10)) then ((f_149 N y12 y13 y14 y15 y16 y17 y11).bind fun r18 => (bif (y12 != 0) then (bif (decide (r18.1 < y9)) then (some (.inl (some 9))) else (ih ((), (), r18.2, y10, (IntKind.i64.wrap (y11 + 1)), (y12, y13, y14), (y15, y16, y17)))) else (ih ((), (), r18.2, y10, (IntKind.i64.wrap (y11 + 1)), (y12, y13, y14), (y15, y16, y17))))) else (some (.inr ())))
def l_147_0 (N : Nat) : TAs sh_147_0 → Option T_147_0 := iter (b_147_0 N) N
def L_147_0 (N : Nat) : LSum := loopSum [2, 3, 5, 20, 21] [160, 176] sh_147_0 o_147_0 (l_147_0 N)
theorem L_ok_147_0 (N : Nat) : SegOk Tryz.prog laidL 0 Tryz.f147.ntmps (loopAt 0 0 (bodyOf Tryz.f147)) (L_147_0 N) :=
 lp_x h0 (x_147 N) (lookOk_nil)
def f_147 (N : Nat) (x1 x2 x3 x4 x5 : Int) (x6 : List Int) : Option (TAs [.one (.d (.err 129))]) :=
 ((f_106 N x1 x2 x3).bind fun r7 => (bif (!(Option.isNone r7)) then (some (some 1)) else ((f_187 N x4 x5 x6).bind fun r8 => (bif (!(Option.isNone r8)) then (some (some 1)) else ((l_147_0 N ((), (), (-9223372036854775808), (List.length x6 : Int), 0, (x1, x2, x3), (x4, x5, x6))).bind fun q => (match q with | .inl q19 => (some q19) | .inr _ => (some none)))))))
def S_147 (N : Nat) : Sum := fnSum 2 0 1 [zg9, zg8] [.one (.d (.err 129))] (fun ((x1, x2, x3), (x4, x5, x6)) => f_147 N x1 x2 x3 x4 x5 x6)
theorem s_147 (N : Nat) : SumOk Tryz.prog laidL 147 (S_147 N) := fn_x h0 (x_147 N) Tryz.func147 ((lookOk_cons (L_ok_147_0 N) lookOk_nil))
def f_150 (N : Nat) (x1 x2 x3 x4 : Int) : Option (TAs [.one (.d (.int .i64)), .one (.d (.err 129))]) :=
 ((f_190 N x1 x2 x3).bind fun r5 => ((f_106 N x1 x2 x3).bind fun r6 => (bif (!(Option.isNone r6)) then (some (0, (some 1))) else (bif (x1 == 0) then (some (0, (some 1))) else (bif (decide (x4 < 0)) then (some (0, (some 1))) else (bif (decide (x4 > r5)) then (some (0, (some 1))) else (bif (x1 == 1) then ((mdF (IntKind.i64.wrap (r5 - x4)) 1000000000 r5).bind fun r7 => (some ((IntKind.i64.wrap (1000000000 - r7.1)), r7.2))) else (bif (decide (x4 ≥ (IntKind.i64.wrap (Int.tdiv r5 2)))) then ((f_191 N (IntKind.i64.wrap (r5 - x4)) r5).bind fun r8 => (some ((IntKind.i64.wrap (1000000000 - r8.1)), r8.2.2))) else ((f_191 N x4 r5).bind fun r9 => (bif (decide (r9.2.1 > 0)) then (some ((IntKind.i64.wrap (r9.1 + 1)), r9.2.2)) else (some (r9.1, r9.2.2))))))))))))
def S_150 (N : Nat) : Sum := fnSum 2 0 2 [zg9, .one (.d (.int .i64))] [.one (.d (.int .i64)), .one (.d (.err 129))] (fun ((x1, x2, x3), x4) => f_150 N x1 x2 x3 x4)
theorem s_150 (N : Nat) : SumOk Tryz.prog laidL 150 (S_150 N) := fn_x h0 (fk (s_190 N) (fk (s_106 N) (fk mdS_ok (fk (s_191 N) fz)))) Tryz.func150 (lookOk_nil)
def X_155 (N : Nat) : List (Nat × Sum) := [(193, (S_193 N)), (158, (S_158 N))]
theorem x_155 (N : Nat) : FnsOk Tryz.prog laidL (X_155 N) := fk (s_193 N) (fk (s_158 N) fz)
def sh_155_0 : List ShA := [.one (.d (.int .i64)), .one (.ptr 160 0), .one (.ptr 192 0), .one (.d (.int .i64)), .one (.d (.int .i64)), .one (.d (.int .i64)), zg8, zg9]
abbrev T_155_0 := TAs [.one (.d (.int .i64)), .one (.ptr 160 0), .one (.ptr 192 0), .one (.d (.int .i64)), .one (.d (.int .i64)), zg8, zg9]
def o_155_0 : OutK 0 T_155_0 := (outOne 0 (.exit 0) [1, 2, 4, 6, 7] [160, 192] [.one (.d (.int .i64)), .one (.ptr 160 0), .one (.ptr 192 0), .one (.d (.int .i64)), .one (.d (.int .i64)), zg8, zg9])
def b_155_0 (N : Nat) (ih : TAs sh_155_0 → Option T_155_0) : TAs sh_155_0 → Option T_155_0 := fun (y8, _, _, y9, y10, y11, (y12, y13, y14), (y15, y16, y17)) =>
 (bif (decide ((IntKind.i64.wrap (y11 - y10)) > 1)) then ((f_158 N y12 y13 y14 (IntKind.i64.wrap (Int.tdiv (IntKind.i64.wrap (y10 + y11)) 2))).bind fun r18 => (bif (decide (r18 ≤ y9)) then (ih (y8, (), (), y9, (IntKind.i64.wrap (Int.tdiv (IntKind.i64.wrap (y10 + y11)) 2)), y11, (y12, y13, y14), (y15, y16, y17))) else (ih (y8, (), (), y9, y10, (IntKind.i64.wrap (Int.tdiv (IntKind.i64.wrap (y10 + y11)) 2)), (y12, y13, y14), (y15, y16, y17))))) else (some ((y8, (), (), y9, y10, (y12, y13, y14), (y15, y16, y17)))))
def l_155_0 (N : Nat) : TAs sh_155_0 → Option T_155_0 := iter (b_155_0 N) N
def L_155_0 (N : Nat) : LSum := loopSum [1, 2, 4, 6, 7, 8] [160, 192] sh_155_0 o_155_0 (l_155_0 N)
theorem L_ok_155_0 (N : Nat) : SegOk Tryz.prog laidL 0 Tryz.f155.ntmps (loopAt 0 0 (bodyOf Tryz.f155)) (L_155_0 N) :=
 lp_x h0 (x_155 N) (lookOk_nil)
def f_155 (N : Nat) (x1 x2 : Int) (x3 : List Int) (x4 : Int) : Option (TAs [zg9, .one (.d (.int .i64))]) :=
 ((f_193 N x1 x2 x3).bind fun r5 => (bif (!r5) then (some ((0, 0, 0), 1)) else (bif (decide (x4 ≤ (-4611686018427387904))) then (some ((0, 0, 0), 2)) else (bif (decide (x4 ≥ 4611686018427387904)) then (some ((0, 0, 0), 2)) else (bif (decide (x4 < 0)) then (bif ((IntKind.i64.wrap ((IntKind.i64.wrap (Int.tdiv x4 1000000000)) * 1000000000)) != x4) then ((f_158 N x1 x2 x3 (-50000)).bind fun r6 => (bif (decide ((IntKind.i64.wrap ((IntKind.i64.wrap (Int.tdiv x4 1000000000)) - 1)) < r6)) then (some ((0, 0, 0), 2)) else ((f_158 N x1 x2 x3 x2).bind fun r7 => (bif (decide ((IntKind.i64.wrap ((IntKind.i64.wrap (Int.tdiv x4 1000000000)) - 1)) ≥ r7)) then (some ((0, 0, 0), 10)) else ((l_155_0 N (x4, (), (), (IntKind.i64.wrap ((IntKind.i64.wrap (Int.tdiv x4 1000000000)) - 1)), (-50000), x2, (x1, x2, x3), (0, 0, 0))).bind fun q19 => ((f_158 N q19.2.2.2.2.2.1.1 q19.2.2.2.2.2.1.2.1 q19.2.2.2.2.2.1.2.2 q19.2.2.2.2.1).bind fun r20 => (some ((q19.2.2.2.2.1, (IntKind.i64.wrap (q19.2.2.2.1 - r20)), (IntKind.i64.wrap (q19.1 - (IntKind.i64.wrap (q19.2.2.2.1 * 1000000000))))), 0)))))))) else ((f_158 N x1 x2 x3 (-50000)).bind fun r21 => (bif (decide ((IntKind.i64.wrap (Int.tdiv x4 1000000000)) < r21)) then (some ((0, 0, 0), 2)) else ((f_158 N x1 x2 x3 x2).bind fun r22 => (bif (decide ((IntKind.i64.wrap (Int.tdiv x4 1000000000)) ≥ r22)) then (some ((0, 0, 0), 10)) else ((l_155_0 N (x4, (), (), (IntKind.i64.wrap (Int.tdiv x4 1000000000)), (-50000), x2, (x1, x2, x3), (0, 0, 0))).bind fun q23 => ((f_158 N q23.2.2.2.2.2.1.1 q23.2.2.2.2.2.1.2.1 q23.2.2.2.2.2.1.2.2 q23.2.2.2.2.1).bind fun r24 => (some ((q23.2.2.2.2.1, (IntKind.i64.wrap (q23.2.2.2.1 - r24)), (IntKind.i64.wrap (q23.1 - (IntKind.i64.wrap (q23.2.2.2.1 * 1000000000))))), 0))))))))) else ((f_158 N x1 x2 x3 (-50000)).bind fun r25 => (bif (decide ((IntKind.i64.wrap (Int.tdiv x4 1000000000)) < r25)) then (some ((0, 0, 0), 2)) else ((f_158 N x1 x2 x3 x2).bind fun r26 => (bif (decide ((IntKind.i64.wrap (Int.tdiv x4 1000000000)) ≥ r26)) then (some ((0, 0, 0), 10)) else ((l_155_0 N (x4, (), (), (IntKind.i64.wrap (Int.tdiv x4 1000000000)), (-50000), x2, (x1, x2, x3), (0, 0, 0))).bind fun q27 => ((f_158 N q27.2.2.2.2.2.1.1 q27.2.2.2.2.2.1.2.1 q27.2.2.2.2.2.1.2.2 q27.2.2.2.2.1).bind fun r28 => (some ((q27.2.2.2.2.1, (IntKind.i64.wrap (q27.2.2.2.1 - r28)), (IntKind.i64.wrap (q27.1 - (IntKind.i64.wrap (q27.2.2.2.1 * 1000000000))))), 0)))))))))))))
def S_155 (N : Nat) : Sum := fnSum 2 0 2 [zg8, .one (.d (.int .i64))] [zg9, .one (.d (.int .i64))] (fun ((x1, x2, x3), x4) => f_155 N x1 x2 x3 x4)
theorem s_155 (N : Nat) : SumOk Tryz.prog laidL 155 (S_155 N) := fn_x h0 (x_155 N) Tryz.func155 ((lookOk_cons (L_ok_155_0 N) lookOk_nil))
def f_156 (N : Nat) (_x1 x2 x3 x4 x5 : Int) (x6 : List Int) (x7 : Int) : Option (TAs [.one (.d (.int .i64)), .one (.d (.int .i64))]) :=
 (bif (decide (0 ≤ x7 ∧ x7 < (List.length x6 : Int))) then ((f_158 N x4 x5 x6 (IntKind.i64.wrap ((List.getD x6 (Int.toNat x7) 0) + 1))).bind fun r8 => (some ((IntKind.i64.wrap ((IntKind.i64.wrap ((IntKind.i64.wrap (r8 - 1)) - x2)) * 1000000000)), (IntKind.i64.wrap ((IntKind.i64.wrap (r8 + x3)) * 1000000000))))) else none)
def S_156 (N : Nat) : Sum := fnSum 3 0 2 [zg9, zg8, .one (.d (.int .i64))] [.one (.d (.int .i64)), .one (.d (.int .i64))] (fun ((x1, x2, x3), (x4, x5, x6), x7) => f_156 N x1 x2 x3 x4 x5 x6 x7)
theorem s_156 (N : Nat) : SumOk Tryz.prog laidL 156 (S_156 N) := fn_x h0 (fk (s_158 N) fz) Tryz.func156 (lookOk_nil)
def f_157 (N : Nat) (x1 x2 x3 x4 : Int) : Option (TAs [.one (.d (.int .i64)), .one (.d (.int .i64))]) :=
 ((f_116 N x1 x2 x3).bind fun r5 => (bif (!r5) then (some (0, 1)) else (bif (x1 == 0) then (some (0, 1)) else (bif (decide (x4 < 0)) then (some (0, 1)) else (bif (decide (x4 > (IntKind.i64.wrap ((IntKind.i64.wrap ((IntKind.i64.wrap (x2 + x3)) + 1)) * 1000000000)))) then (some (0, 1)) else (bif (x1 == 1) then ((f_194 N x4 1000000000 (IntKind.i64.wrap ((IntKind.i64.wrap ((IntKind.i64.wrap (x2 + x3)) + 1)) * 1000000000))).bind fun r6 => (some (r6, 0))) else (bif (decide (x4 < (IntKind.i64.wrap (Int.tdiv (IntKind.i64.wrap ((IntKind.i64.wrap ((IntKind.i64.wrap (x2 + x3)) + 1)) * 1000000000)) 2)))) then ((rmdF x4 2000000000 (IntKind.i64.wrap ((IntKind.i64.wrap ((IntKind.i64.wrap (x2 + x3)) + 1)) * 1000000000))).bind fun r7 => ((f_194 N x4 r7.1 (IntKind.i64.wrap ((IntKind.i64.wrap ((IntKind.i64.wrap (x2 + x3)) + 1)) * 1000000000))).bind fun r8 => (some (r8, 0)))) else ((rmdF (IntKind.i64.wrap ((IntKind.i64.wrap ((IntKind.i64.wrap ((IntKind.i64.wrap (x2 + x3)) + 1)) * 1000000000)) - x4)) 2000000000 (IntKind.i64.wrap ((IntKind.i64.wrap ((IntKind.i64.wrap (x2 + x3)) + 1)) * 1000000000))).bind fun r9 => ((rmdF (IntKind.i64.wrap ((IntKind.i64.wrap ((IntKind.i64.wrap ((IntKind.i64.wrap (x2 + x3)) + 1)) * 1000000000)) - x4)) r9.1 (IntKind.i64.wrap ((IntKind.i64.wrap ((IntKind.i64.wrap (x2 + x3)) + 1)) * 1000000000))).bind fun r10 => (some ((IntKind.i64.wrap (1000000000 - r10.1)), 0)))))))))))
def S_157 (N : Nat) : Sum := fnSum 2 0 2 [zg9, .one (.d (.int .i64))] [.one (.d (.int .i64)), .one (.d (.int .i64))] (fun ((x1, x2, x3), x4) => f_157 N x1 x2 x3 x4)
theorem s_157 (N : Nat) : SumOk Tryz.prog laidL 157 (S_157 N) := fn_x h0 (fk (s_116 N) (fk (s_194 N) (fk rmdS_ok fz))) Tryz.func157 (lookOk_nil)
def f_159 (N : Nat) (x1 x2 : Int) : Option (TAs [.one (.d (.int .i64)), .one (.d (.err 129))]) :=
 ((f_107 N x2).bind fun r3 => (bif (!(Option.isNone r3)) then (some (0, r3)) else ((f_195 N x1 x2).bind fun r4 => (bif (!(Option.isNone r4.2)) then (some (0, r4.2)) else ((f_186 N r4.1 x2).bind fun r5 => (some (r5.1, r5.2)))))))
def S_159 (N : Nat) : Sum := fnSum 2 0 2 [.one (.d (.int .i64)), .one (.d (.int .i64))] [.one (.d (.int .i64)), .one (.d (.err 129))] (fun (x1, x2) => f_159 N x1 x2)
theorem s_159 (N : Nat) : SumOk Tryz.prog laidL 159 (S_159 N) := fn_x h0 (fk (s_107 N) (fk (s_195 N) (fk (s_186 N) fz))) Tryz.func159 (lookOk_nil)
def f_209 (N : Nat) (x1 x2 : Int) : Option (TAs [.one (.d (.int .i64))]) :=
 ((f_220 N x1).bind fun r3 => ((f_220 N x2).bind fun r4 => (bif r3 then (bif r4 then (some 0) else (some (-1))) else (bif r4 then (some 1) else (bif (decide (x1 < x2)) then (some (-1)) else (bif (decide (x1 > x2)) then (some 1) else (some 0)))))))
def S_209 (N : Nat) : Sum := fnSum 2 0 1 [.one (.d (.int .i64)), .one (.d (.int .i64))] [.one (.d (.int .i64))] (fun (x1, x2) => f_209 N x1 x2)
theorem s_209 (N : Nat) : SumOk Tryz.prog laidL 209 (S_209 N) := fn_x h0 (fk (s_220 N) fz) Tryz.func209 (lookOk_nil)
def X_217 (N : Nat) : List (Nat × Sum) := [(226, (S_226 N)), (227, (S_227 N))]
theorem x_217 (N : Nat) : FnsOk Tryz.prog laidL (X_217 N) := fk (s_226 N) (fk (s_227 N) fz)
def sh_217_0 : List ShA := [.one (.d (.sl [.int .i64])), .one (.d (.int .i64)), .one (.d (.int .i64)), .one (.d (.int .i64)), .one (.d (.int .i64))]
abbrev T_217_0 := TAs [.one (.d (.sl [.int .i64])), .one (.d (.int .i64)), .one (.d (.int .i64)), .one (.d (.int .i64))]
def o_217_0 : OutK 0 T_217_0 := (outOne 0 (.exit 0) [0, 1, 6, 7] [] [.one (.d (.sl [.int .i64])), .one (.d (.int .i64)), .one (.d (.int .i64)), .one (.d (.int .i64))])
def b_217_0 (N : Nat) (ih : TAs sh_217_0 → Option T_217_0) : TAs sh_217_0 → Option T_217_0 := fun (y3, y4, y5, y6, y7) =>
 (bif (decide (y6 < y7)) then (bif (decide (0 ≤ (IntKind.i64.wrap ((IntKind.u64.wrap (IntKind.i64.wrap (y6 + y7))) / 2 ^ (min (Int.toNat 1) IntKind.u64.bits))) ∧ (IntKind.i64.wrap ((IntKind.u64.wrap (IntKind.i64.wrap (y6 + y7))) / 2 ^ (min (Int.toNat 1) IntKind.u64.bits))) < (List.length y3 : Int))) then ((f_226 N (List.getD y3 (Int.toNat (IntKind.i64.wrap ((IntKind.u64.wrap (IntKind.i64.wrap (y6 + y7))) / 2 ^ (min (Int.toNat 1) IntKind.u64.bits)))) 0) y4).bind fun r8 => (bif r8 then (ih (y3, y4, y5, (IntKind.i64.wrap ((IntKind.i64.wrap ((IntKind.u64.wrap (IntKind.i64.wrap (y6 + y7))) / 2 ^ (min (Int.toNat 1) IntKind.u64.bits))) + 1)), y7)) else (ih (y3, y4, y5, y6, (IntKind.i64.wrap ((IntKind.u64.wrap (IntKind.i64.wrap (y6 + y7))) / 2 ^ (min (Int.toNat 1) IntKind.u64.bits))))))) else none) else (some ((y3, y4, y5, y6))))
def l_217_0 (N : Nat) : TAs sh_217_0 → Option T_217_0 := iter (b_217_0 N) N
def L_217_0 (N : Nat) : LSum := loopSum [0, 1, 6, 7, 8] [] sh_217_0 o_217_0 (l_217_0 N)
theorem L_ok_217_0 (N : Nat) : SegOk Tryz.prog laidL 0 Tryz.f217.ntmps (loopAt 0 0 (bodyOf Tryz.f217)) (L_217_0 N) :=
 lp_x h0 (x_217 N) (lookOk_nil)
def f_217 (N : Nat) (x1 : List Int) (x2 : Int) : Option (TAs [.one (.d (.int .i64)), .one (.d (.bool))]) :=
 ((l_217_0 N (x1, x2, (List.length x1 : Int), 0, (List.length x1 : Int))).bind fun q9 => (bif (decide (q9.2.2.2 < q9.2.2.1)) then (bif (decide (0 ≤ q9.2.2.2 ∧ q9.2.2.2 < (List.length q9.1 : Int))) then (bif ((List.getD q9.1 (Int.toNat q9.2.2.2) 0) == q9.2.1) then (some (q9.2.2.2, true)) else (bif (decide (0 ≤ q9.2.2.2 ∧ q9.2.2.2 < (List.length q9.1 : Int))) then ((f_227 N (List.getD q9.1 (Int.toNat q9.2.2.2) 0)).bind fun r10 => (bif r10 then ((f_227 N q9.2.1).bind fun r11 => (some (q9.2.2.2, r11))) else (some (q9.2.2.2, false)))) else none)) else none) else (some (q9.2.2.2, false))))
def S_217 (N : Nat) : Sum := fnSum 2 0 2 [.one (.d (.sl [.int .i64])), .one (.d (.int .i64))] [.one (.d (.int .i64)), .one (.d (.bool))] (fun (x1, x2) => f_217 N x1 x2)
theorem s_217 (N : Nat) : SumOk Tryz.prog laidL 217 (S_217 N) := fn_x h0 (x_217 N) Tryz.func217 ((lookOk_cons (L_ok_217_0 N) lookOk_nil))
def f_218 (N : Nat) (x1 : List Int) : Option (TAs [.one (.d (.int .u64))]) :=
 ((f_228 N x1 false 8).bind fun r2 => (some r2.2))
def S_218 (N : Nat) : Sum := fnSum 1 0 1 [.one (.d (.sl [.int .u8]))] [.one (.d (.int .u64))] (fun x1 => f_218 N x1)
theorem s_218 (N : Nat) : SumOk Tryz.prog laidL 218 (S_218 N) := fn_x h0 (fk (s_228 N) fz) Tryz.func218 (lookOk_nil)
def X_219 (N : Nat) : List (Nat × Sum) := [(229, (S_229 N))]
theorem x_219 (N : Nat) : FnsOk Tryz.prog laidL (X_219 N) := fk (s_229 N) fz
def sh_219_1000000 : List ShA := [.agg [.d (.arr .u64 4)]]
abbrev T_219_1000000 := TAs [.one (.ptr 144 0), .one (.ptr 160 0), .agg [.d (.arr .u64 4)], .agg [.d (.arr .u64 4)]]
def o_219_1000000 : OutK 0 T_219_1000000 := (outOne 0 .normal [1, 2] [144, 160] [.one (.ptr 144 0), .one (.ptr 160 0), .agg [.d (.arr .u64 4)], .agg [.d (.arr .u64 4)]])
def l_219_1000000 (_ : Nat) : TAs sh_219_1000000 → Option T_219_1000000 := fun y2 =>
 (some (((), (), y2, [0, 0, 0, 0])))
def L_219_1000000 (N : Nat) : LSum := loopSum [0] [] sh_219_1000000 o_219_1000000 (l_219_1000000 N)
theorem L_ok_219_1000000 (N : Nat) : SegOk Tryz.prog laidL 0 Tryz.f219.ntmps (loopAt 0 1000000 (bodyOf Tryz.f219)) (L_219_1000000 N) :=
 seg_x (cur := 0) h0 (x_219 N) (lookOk_nil)
def sh_219_1000064 : List ShA := [.one (.ptr 144 0), .one (.ptr 160 0), .agg [.d (.arr .u64 4)], .agg [.d (.arr .u64 4)]]
abbrev T_219_1000064 := TAs [.one (.ptr 144 0), .one (.ptr 160 0), .agg [.d (.arr .u64 4)], .agg [.d (.arr .u64 4)]]
def o_219_1000064 : OutK 0 T_219_1000064 := (outOne 0 .normal [1, 2] [144, 160] [.one (.ptr 144 0), .one (.ptr 160 0), .agg [.d (.arr .u64 4)], .agg [.d (.arr .u64 4)]])
def l_219_1000064 (_ : Nat) : TAs sh_219_1000064 → Option T_219_1000064 := fun (_, _, y4, y5) =>
 (some (((), (), (List.set y4 (Int.toNat 0) (IntKind.u64.wrap ((List.getD y4 (Int.toNat 0) 0) + (List.getD y4 (Int.toNat 1) 0)))), y5)))
def L_219_1000064 (N : Nat) : LSum := loopSum [1, 2] [144, 160] sh_219_1000064 o_219_1000064 (l_219_1000064 N)
theorem L_ok_219_1000064 (N : Nat) : SegOk Tryz.prog laidL 0 Tryz.f219.ntmps (loopAt 0 1000064 (bodyOf Tryz.f219)) (L_219_1000064 N) :=
 seg_x (cur := 0) h0 (x_219 N) (lookOk_nil)
def sh_219_1000128 : List ShA := [.one (.ptr 144 0), .one (.ptr 160 0), .agg [.d (.arr .u64 4)], .agg [.d (.arr .u64 4)]]
abbrev T_219_1000128 := TAs [.one (.ptr 144 0), .one (.ptr 160 0), .agg [.d (.arr .u64 4)], .agg [.d (.arr .u64 4)]]
def o_219_1000128 : OutK 0 T_219_1000128 := (outOne 0 .normal [1, 2] [144, 160] [.one (.ptr 144 0), .one (.ptr 160 0), .agg [.d (.arr .u64 4)], .agg [.d (.arr .u64 4)]])
def l_219_1000128 (N : Nat) : TAs sh_219_1000128 → Option T_219_1000128 := fun (_, _, y7, y8) =>
 ((f_229 N (List.getD y7 (Int.toNat 1) 0) 13).bind fun r9 => (some (((), (), (List.set y7 (Int.toNat 1) (ibits .xor .u64 r9 (List.getD y7 (Int.toNat 0) 0))), y8))))
def L_219_1000128 (N : Nat) : LSum := loopSum [1, 2] [144, 160] sh_219_1000128 o_219_1000128 (l_219_1000128 N)
theorem L_ok_219_1000128 (N : Nat) : SegOk Tryz.prog laidL 0 Tryz.f219.ntmps (loopAt 0 1000128 (bodyOf Tryz.f219)) (L_219_1000128 N) :=
 seg_x (cur := 0) h0 (x_219 N) (lookOk_nil)
def sh_219_1000192 : List ShA := [.one (.ptr 144 0), .one (.ptr 160 0), .agg [.d (.arr .u64 4)], .agg [.d (.arr .u64 4)]]
abbrev T_219_1000192 := TAs [.one (.ptr 144 0), .one (.ptr 160 0), .agg [.d (.arr .u64 4)], .agg [.d (.arr .u64 4)]]
def o_219_1000192 : OutK 0 T_219_1000192 := (outOne 0 .normal [1, 2] [144, 160] [.one (.ptr 144 0), .one (.ptr 160 0), .agg [.d (.arr .u64 4)], .agg [.d (.arr .u64 4)]])
def l_219_1000192 (N : Nat) : TAs sh_219_1000192 → Option T_219_1000192 := fun (_, _, y11, y12) =>
 ((f_229 N (List.getD y11 (Int.toNat 0) 0) 32).bind fun r13 => (some (((), (), (List.set y11 (Int.toNat 0) r13), y12))))
def L_219_1000192 (N : Nat) : LSum := loopSum [1, 2] [144, 160] sh_219_1000192 o_219_1000192 (l_219_1000192 N)
theorem L_ok_219_1000192 (N : Nat) : SegOk Tryz.prog laidL 0 Tryz.f219.ntmps (loopAt 0 1000192 (bodyOf Tryz.f219)) (L_219_1000192 N) :=
 seg_x (cur := 0) h0 (x_219 N) (lookOk_nil)
def sh_219_1000256 : List ShA := [.one (.ptr 144 0), .one (.ptr 160 0), .agg [.d (.arr .u64 4)], .agg [.d (.arr .u64 4)]]
abbrev T_219_1000256 := TAs [.one (.ptr 144 0), .one (.ptr 160 0), .agg [.d (.arr .u64 4)], .agg [.d (.arr .u64 4)]]
def o_219_1000256 : OutK 0 T_219_1000256 := (outOne 0 .normal [1, 2] [144, 160] [.one (.ptr 144 0), .one (.ptr 160 0), .agg [.d (.arr .u64 4)], .agg [.d (.arr .u64 4)]])
def l_219_1000256 (_ : Nat) : TAs sh_219_1000256 → Option T_219_1000256 := fun (_, _, y15, y16) =>
 (some (((), (), (List.set y15 (Int.toNat 2) (IntKind.u64.wrap ((List.getD y15 (Int.toNat 2) 0) + (List.getD y15 (Int.toNat 3) 0)))), y16)))
def L_219_1000256 (N : Nat) : LSum := loopSum [1, 2] [144, 160] sh_219_1000256 o_219_1000256 (l_219_1000256 N)
theorem L_ok_219_1000256 (N : Nat) : SegOk Tryz.prog laidL 0 Tryz.f219.ntmps (loopAt 0 1000256 (bodyOf Tryz.f219)) (L_219_1000256 N) :=
 seg_x (cur := 0) h0 (x_219 N) (lookOk_nil)
def sh_219_1000320 : List ShA := [.one (.ptr 144 0), .one (.ptr 160 0), .agg [.d (.arr .u64 4)], .agg [.d (.arr .u64 4)]]
abbrev T_219_1000320 := TAs [.one (.ptr 144 0), .one (.ptr 160 0), .agg [.d (.arr .u64 4)], .agg [.d (.arr .u64 4)]]
def o_219_1000320 : OutK 0 T_219_1000320 := (outOne 0 .normal [1, 2] [144, 160] [.one (.ptr 144 0), .one (.ptr 160 0), .agg [.d (.arr .u64 4)], .agg [.d (.arr .u64 4)]])
def l_219_1000320 (N : Nat) : TAs sh_219_1000320 → Option T_219_1000320 := fun (_, _, y18, y19) =>
 ((f_229 N (List.getD y18 (Int.toNat 3) 0) 16).bind fun r20 => (some (((), (), (List.set y18 (Int.toNat 3) (ibits .xor .u64 r20 (List.getD y18 (Int.toNat 2) 0))), y19))))
def L_219_1000320 (N : Nat) : LSum := loopSum [1, 2] [144, 160] sh_219_1000320 o_219_1000320 (l_219_1000320 N)
theorem L_ok_219_1000320 (N : Nat) : SegOk Tryz.prog laidL 0 Tryz.f219.ntmps (loopAt 0 1000320 (bodyOf Tryz.f219)) (L_219_1000320 N) :=
 seg_x (cur := 0) h0 (x_219 N) (lookOk_nil)
def sh_219_1000384 : List ShA := [.one (.ptr 144 0), .one (.ptr 160 0), .agg [.d (.arr .u64 4)], .agg [.d (.arr .u64 4)]]
abbrev T_219_1000384 := TAs [.one (.ptr 144 0), .one (.ptr 160 0), .agg [.d (.arr .u64 4)], .agg [.d (.arr .u64 4)]]
def o_219_1000384 : OutK 0 T_219_1000384 := (outOne 0 .normal [1, 2] [144, 160] [.one (.ptr 144 0), .one (.ptr 160 0), .agg [.d (.arr .u64 4)], .agg [.d (.arr .u64 4)]])
def l_219_1000384 (_ : Nat) : TAs sh_219_1000384 → Option T_219_1000384 := fun (_, _, y22, y23) =>
 (some (((), (), (List.set y22 (Int.toNat 0) (IntKind.u64.wrap ((List.getD y22 (Int.toNat 0) 0) + (List.getD y22 (Int.toNat 3) 0)))), y23)))
def L_219_1000384 (N : Nat) : LSum := loopSum [1, 2] [144, 160] sh_219_1000384 o_219_1000384 (l_219_1000384 N)
theorem L_ok_219_1000384 (N : Nat) : SegOk Tryz.prog laidL 0 Tryz.f219.ntmps (loopAt 0 1000384 (bodyOf Tryz.f219)) (L_219_1000384 N) :=
 seg_x (cur := 0) h0 (x_219 N) (lookOk_nil)
def sh_219_1000448 : List ShA := [.one (.ptr 144 0), .one (.ptr 160 0), .agg [.d (.arr .u64 4)], .agg [.d (.arr .u64 4)]]
abbrev T_219_1000448 := TAs [.one (.ptr 144 0), .one (.ptr 160 0), .agg [.d (.arr .u64 4)], .agg [.d (.arr .u64 4)]]
def o_219_1000448 : OutK 0 T_219_1000448 := (outOne 0 .normal [1, 2] [144, 160] [.one (.ptr 144 0), .one (.ptr 160 0), .agg [.d (.arr .u64 4)], .agg [.d (.arr .u64 4)]])
def l_219_1000448 (N : Nat) : TAs sh_219_1000448 → Option T_219_1000448 := fun (_, _, y25, y26) =>
 ((f_229 N (List.getD y25 (Int.toNat 3) 0) 21).bind fun r27 => (some (((), (), (List.set y25 (Int.toNat 3) (ibits .xor .u64 r27 (List.getD y25 (Int.toNat 0) 0))), y26))))
def L_219_1000448 (N : Nat) : LSum := loopSum [1, 2] [144, 160] sh_219_1000448 o_219_1000448 (l_219_1000448 N)
theorem L_ok_219_1000448 (N : Nat) : SegOk Tryz.prog laidL 0 Tryz.f219.ntmps (loopAt 0 1000448 (bodyOf Tryz.f219)) (L_219_1000448 N) :=
 seg_x (cur := 0) h0 (x_219 N) (lookOk_nil)
def sh_219_1000512 : List ShA := [.one (.ptr 144 0), .one (.ptr 160 0), .agg [.d (.arr .u64 4)], .agg [.d (.arr .u64 4)]]
abbrev T_219_1000512 := TAs [.one (.ptr 144 0), .one (.ptr 160 0), .agg [.d (.arr .u64 4)], .agg [.d (.arr .u64 4)]]
def o_219_1000512 : OutK 0 T_219_1000512 := (outOne 0 .normal [1, 2] [144, 160] [.one (.ptr 144 0), .one (.ptr 160 0), .agg [.d (.arr .u64 4)], .agg [.d (.arr .u64 4)]])
def l_219_1000512 (_ : Nat) : TAs sh_219_1000512 → Option T_219_1000512 := fun (_, _, y29, y30) =>
 (some (((), (), (List.set y29 (Int.toNat 2) (IntKind.u64.wrap ((List.getD y29 (Int.toNat 2) 0) + (List.getD y29 (Int.toNat 1) 0)))), y30)))
def L_219_1000512 (N : Nat) : LSum := loopSum [1, 2] [144, 160] sh_219_1000512 o_219_1000512 (l_219_1000512 N)
theorem L_ok_219_1000512 (N : Nat) : SegOk Tryz.prog laidL 0 Tryz.f219.ntmps (loopAt 0 1000512 (bodyOf Tryz.f219)) (L_219_1000512 N) :=
 seg_x (cur := 0) h0 (x_219 N) (lookOk_nil)
def sh_219_1000576 : List ShA := [.one (.ptr 144 0), .one (.ptr 160 0), .agg [.d (.arr .u64 4)], .agg [.d (.arr .u64 4)]]
abbrev T_219_1000576 := TAs [.one (.ptr 144 0), .one (.ptr 160 0), .agg [.d (.arr .u64 4)], .agg [.d (.arr .u64 4)]]
def o_219_1000576 : OutK 0 T_219_1000576 := (outOne 0 .normal [1, 2] [144, 160] [.one (.ptr 144 0), .one (.ptr 160 0), .agg [.d (.arr .u64 4)], .agg [.d (.arr .u64 4)]])
def l_219_1000576 (N : Nat) : TAs sh_219_1000576 → Option T_219_1000576 := fun (_, _, y32, y33) =>
 ((f_229 N (List.getD y32 (Int.toNat 1) 0) 17).bind fun r34 => (some (((), (), (List.set y32 (Int.toNat 1) (ibits .xor .u64 r34 (List.getD y32 (Int.toNat 2) 0))), y33))))
def L_219_1000576 (N : Nat) : LSum := loopSum [1, 2] [144, 160] sh_219_1000576 o_219_1000576 (l_219_1000576 N)
theorem L_ok_219_1000576 (N : Nat) : SegOk Tryz.prog laidL 0 Tryz.f219.ntmps (loopAt 0 1000576 (bodyOf Tryz.f219)) (L_219_1000576 N) :=
 seg_x (cur := 0) h0 (x_219 N) (lookOk_nil)
def sh_219_1000640 : List ShA := [.one (.ptr 144 0), .one (.ptr 160 0), .agg [.d (.arr .u64 4)], .agg [.d (.arr .u64 4)]]
abbrev T_219_1000640 := TAs [.one (.ptr 144 0), .one (.ptr 160 0), .agg [.d (.arr .u64 4)], .agg [.d (.arr .u64 4)]]
def o_219_1000640 : OutK 0 T_219_1000640 := (outOne 0 .normal [1, 2] [144, 160] [.one (.ptr 144 0), .one (.ptr 160 0), .agg [.d (.arr .u64 4)], .agg [.d (.arr .u64 4)]])
def l_219_1000640 (N : Nat) : TAs sh_219_1000640 → Option T_219_1000640 := fun (_, _, y36, y37) =>
 ((f_229 N (List.getD y36 (Int.toNat 2) 0) 32).bind fun r38 => (some (((), (), (List.set y36 (Int.toNat 2) r38), y37))))
def L_219_1000640 (N : Nat) : LSum := loopSum [1, 2] [144, 160] sh_219_1000640 o_219_1000640 (l_219_1000640 N)
theorem L_ok_219_1000640 (N : Nat) : SegOk Tryz.prog laidL 0 Tryz.f219.ntmps (loopAt 0 1000640 (bodyOf Tryz.f219)) (L_219_1000640 N) :=
 seg_x (cur := 0) h0 (x_219 N) (lookOk_nil)
def f_219 (N : Nat) (x1 : List Int) : Option (TAs [.agg [.d (.arr .u64 4)]]) :=
 ((l_219_1000000 N x1).bind fun q3 => ((l_219_1000064 N ((), (), q3.2.2.1, q3.2.2.2)).bind fun q6 => ((l_219_1000128 N ((), (), q6.2.2.1, q6.2.2.2)).bind fun q10 => ((l_219_1000192 N ((), (), q10.2.2.1, q10.2.2.2)).bind fun q14 => ((l_219_1000256 N ((), (), q14.2.2.1, q14.2.2.2)).bind fun q17 => ((l_219_1000320 N ((), (), q17.2.2.1, q17.2.2.2)).bind fun q21 => ((l_219_1000384 N ((), (), q21.2.2.1, q21.2.2.2)).bind fun q24 => ((l_219_1000448 N ((), (), q24.2.2.1, q24.2.2.2)).bind fun q28 => ((l_219_1000512 N ((), (), q28.2.2.1, q28.2.2.2)).bind fun q31 => ((l_219_1000576 N ((), (), q31.2.2.1, q31.2.2.2)).bind fun q35 => ((l_219_1000640 N ((), (), q35.2.2.1, q35.2.2.2)).bind fun q39 => (some q39.2.2.1))))))))))))
def S_219 (N : Nat) : Sum := fnSum 1 0 1 [.agg [.d (.arr .u64 4)]] [.agg [.d (.arr .u64 4)]] (fun x1 => f_219 N x1)
theorem s_219 (N : Nat) : SumOk Tryz.prog laidL 219 (S_219 N) := fn_x h0 (x_219 N) Tryz.func219 ((lookOk_cons (L_ok_219_1000000 N) (lookOk_cons (L_ok_219_1000064 N) (lookOk_cons (L_ok_219_1000128 N) (lookOk_cons (L_ok_219_1000192 N) (lookOk_cons (L_ok_219_1000256 N) (lookOk_cons (L_ok_219_1000320 N) (lookOk_cons (L_ok_219_1000384 N) (lookOk_cons (L_ok_219_1000448 N) (lookOk_cons (L_ok_219_1000512 N) (lookOk_cons (L_ok_219_1000576 N) (lookOk_cons (L_ok_219_1000640 N) lookOk_nil))))))))))))
def X_225 (_ : Nat) : List (Nat × Sum) := [(234, cl_234)]
theorem x_225 (N : Nat) : FnsOk Tryz.prog laidL (X_225 N) := fk cl_234_ok fz
def sh_225_0 : List ShA := [.one (.d (.int .u64)), .one (.slt [.int .u8] 5 1), .one (.d (.int .i64)), .one (.d (.int .i64))]
abbrev T_225_0 := TAs [.one (.slt [.int .u8] 5 1)]
def o_225_0 : OutK 0 T_225_0 := (outOne 0 (.exit 0) [7] [] [.one (.slt [.int .u8] 5 1)])
def b_225_0 (_ : Nat) (ih : TAs sh_225_0 → Option T_225_0) : TAs sh_225_0 → Option T_225_0 := fun (y5, y6, y7, y8) =>
 (bif (decide (y8 < y7)) then (bif (decide ((IntKind.i64.wrap (8 * y8)) < 0)) then none else (bif (decide ((List.length y6 + List.length ([(IntKind.u8.wrap (y5 / 2 ^ (min (Int.toNat (IntKind.i64.wrap (8 * y8))) IntKind.u64.bits)))] : List Int)) * 1 ≤ 140737488355328)) then (ih (y5, (y6 ++ ([(IntKind.u8.wrap (y5 / 2 ^ (min (Int.toNat (IntKind.i64.wrap (8 * y8))) IntKind.u64.bits)))] : List Int)), y7, (IntKind.i64.wrap (y8 + 1)))) else none)) else (some (y6)))
def l_225_0 (N : Nat) : TAs sh_225_0 → Option T_225_0 := iter (b_225_0 N) N
def L_225_0 (N : Nat) : LSum := loopSum [1, 7, 11, 12] [] sh_225_0 o_225_0 (l_225_0 N)
theorem L_ok_225_0 (N : Nat) : SegOk Tryz.prog laidL 0 Tryz.f225.ntmps (loopAt 0 0 (bodyOf Tryz.f225)) (L_225_0 N) :=
 lp_x h0 (x_225 N) (lookOk_nil)
def f_225 (N : Nat) (x1 : List Int) (x2 x3 : Int) : Option (TAs [.one (.slt [.int .u8] 5 1)]) :=
 ((cloneF [.int .u8] 1 x1).bind fun r4 => ((l_225_0 N (x2, r4, x3, 0)).bind fun q9 => (some q9)))
def S_225 (N : Nat) : Sum := fnSum 3 0 1 [.one (.d (.sl [.int .u8])), .one (.d (.int .u64)), .one (.d (.int .i64))] [.one (.slt [.int .u8] 5 1)] (fun (x1, x2, x3) => f_225 N x1 x2 x3)
theorem s_225 (N : Nat) : SumOk Tryz.prog laidL 225 (S_225 N) := fn_x h0 (x_225 N) Tryz.func225 ((lookOk_cons (L_ok_225_0 N) lookOk_nil))
def f_231 (_ : Nat) (x1 : List Int) : Option (TAs [.one (.ptr 0 0), zg12]) :=
 ((cloneF [.int .u8] 1 x1).bind fun r2 => (some ((), (r2, false))))
def S_231 (N : Nat) : Sum := fnSum 1 0 1 [.one (.d (.sl [.int .u8]))] [.one (.ptr 0 0), zg12] (fun x1 => f_231 N x1)
theorem s_231 (N : Nat) : SumOk Tryz.prog laidL 231 (S_231 N) := fn_x h0 (fk cl_234_ok fz) Tryz.func231 (lookOk_nil)
def f_233 (N : Nat) (x1 x2 : Int) : Option (TAs [.one (.d (.int .u64))]) :=
 ((f_236 N x1 x2).bind fun r3 => (some r3))
def S_233 (N : Nat) : Sum := fnSum 2 0 1 [.one (.d (.int .u64)), .one (.d (.int .i64))] [.one (.d (.int .u64))] (fun (x1, x2) => f_233 N x1 x2)
theorem s_233 (N : Nat) : SumOk Tryz.prog laidL 233 (S_233 N) := fn_x h0 (fk (s_236 N) fz) Tryz.func233 (lookOk_nil)
def f_20 (N : Nat) (x1 : ByteArray) (x2 : List Int) (x3 x4 x5 x6 x7 x8 : Int) (x9 : Bool) (x10 : ByteArray) (x11 : Int) (x12 : List (Int × Int × ByteArray)) (x13 : Bool) (x14 x15 : Int) (x16 : Bool) (x17 x18 : Int) : Option (TAs [zg0]) :=
 ((f_30 N x3 x4 x5 x6 x7 x8 x9 x10 x11 x12).bind fun r19 => (some (x1, x2, r19.1, r19.2.1, r19.2.2.1, r19.2.2.2.1, r19.2.2.2.2.1, r19.2.2.2.2.2.1, r19.2.2.2.2.2.2.1, r19.2.2.2.2.2.2.2.1, r19.2.2.2.2.2.2.2.2.1, r19.2.2.2.2.2.2.2.2.2, x13, x14, x15, x16, x17, x18)))
def S_20 (N : Nat) : Sum := fnSum 1 0 1 [zg1] [zg0] (fun (x1, x2, x3, x4, x5, x6, x7, x8, x9, x10, x11, x12, x13, x14, x15, x16, x17, x18) => f_20 N x1 x2 x3 x4 x5 x6 x7 x8 x9 x10 x11 x12 x13 x14 x15 x16 x17 x18)
theorem s_20 (N : Nat) : SumOk Tryz.prog laidL 20 (S_20 N) := fn_x h0 (fk (s_30 N) fz) Tryz.func20 (lookOk_nil)
def f_32 (N : Nat) (x1 : ByteArray) (x2 : List Int) (x3 x4 x5 x6 x7 x8 : Int) (x9 : Bool) (x10 : ByteArray) (x11 : Int) (x12 : List (Int × Int × ByteArray)) (x13 : Bool) (x14 x15 : Int) (x16 : Bool) (x17 x18 : Int) (x19 : ByteArray) (x20 : List Int) (x21 x22 x23 x24 x25 x26 : Int) (x27 : Bool) (x28 : ByteArray) (x29 : Int) (x30 : List (Int × Int × ByteArray)) (x31 : Bool) (x32 x33 : Int) (x34 : Bool) (x35 x36 : Int) : Option (TAs [.one (.d (.bool))]) :=
 (bif ((ByteArray.toList x1) == (ByteArray.toList x19)) then (bif (x2 == x20) then ((f_89 N x3 x4 x5 x6 x7 x8 x9 x10 x11 x12 x21 x22 x23 x24 x25 x26 x27 x28 x29 x30).bind fun r37 => (bif r37 then (bif ((x13 == x31) && ((x14 == x32) && (x15 == x33))) then (bif ((x16 == x34) && (x17 == x35)) then (some (x18 == x36)) else (some false)) else (some false)) else (some false))) else (some false)) else (some false))
def S_32 (N : Nat) : Sum := fnSum 2 0 1 [zg1, zg1] [.one (.d (.bool))] (fun ((x1, x2, x3, x4, x5, x6, x7, x8, x9, x10, x11, x12, x13, x14, x15, x16, x17, x18), (x19, x20, x21, x22, x23, x24, x25, x26, x27, x28, x29, x30, x31, x32, x33, x34, x35, x36)) => f_32 N x1 x2 x3 x4 x5 x6 x7 x8 x9 x10 x11 x12 x13 x14 x15 x16 x17 x18 x19 x20 x21 x22 x23 x24 x25 x26 x27 x28 x29 x30 x31 x32 x33 x34 x35 x36)
theorem s_32 (N : Nat) : SumOk Tryz.prog laidL 32 (S_32 N) := fn_x h0 (fk (s_89 N) fz) Tryz.func32 (lookOk_nil)
def X_49 (N : Nat) : List (Nat × Sum) := [(106, (S_106 N)), (107, (S_107 N)), (108, (S_108 N)), (109, (S_109 N))]
theorem x_49 (N : Nat) : FnsOk Tryz.prog laidL (X_49 N) := fk (s_106 N) (fk (s_107 N) (fk (s_108 N) (fk (s_109 N) fz)))
def sh_49_0 : List ShA := [.agg [.d (.err 129), .d (.err 129), .d (.err 129), .d (.err 129)], .one (.d (.int .i64))]
abbrev T_49_0 := ((TAs [.one (.d (.err 129))]) ⊕ (TAs []))
def o_49_0 : OutK 0 T_49_0 := (outTwo (outOne 0 .ret [2] [] [.one (.d (.err 129))]) (outOne 0 (.exit 0) [] [] []))
def b_49_0 (_ : Nat) (ih : TAs sh_49_0 → Option T_49_0) : TAs sh_49_0 → Option T_49_0 := fun ((y15, y16, y17, y18), y19) =>
 (bif (decide (y19 < 4)) then (bif (decide (y19 = (0 : Int))) then (bif (!(Option.isNone y15)) then (some (.inl (some 1))) else (ih ((y15, y16, y17, y18), (IntKind.i64.wrap (y19 + 1))))) else (bif (decide (y19 = (1 : Int))) then (bif (!(Option.isNone y16)) then (some (.inl (some 1))) else (ih ((y15, y16, y17, y18), (IntKind.i64.wrap (y19 + 1))))) else (bif (decide (y19 = (2 : Int))) then (bif (!(Option.isNone y17)) then (some (.inl (some 1))) else (ih ((y15, y16, y17, y18), (IntKind.i64.wrap (y19 + 1))))) else (bif (decide (y19 = (3 : Int))) then (bif (!(Option.isNone y18)) then (some (.inl (some 1))) else (ih ((y15, y16, y17, y18), (IntKind.i64.wrap (y19 + 1))))) else none)))) else (some (.inr ())))
def l_49_0 (N : Nat) : TAs sh_49_0 → Option T_49_0 := iter (b_49_0 N) N
def L_49_0 (N : Nat) : LSum := loopSum [17, 18] [] sh_49_0 o_49_0 (l_49_0 N)
theorem L_ok_49_0 (N : Nat) : SegOk Tryz.prog laidL 0 Tryz.f49.ntmps (loopAt 0 0 (bodyOf Tryz.f49)) (L_49_0 N) :=
 lp_x h0 (x_49 N) (lookOk_nil)
def f_49 (N : Nat) (x1 x2 x3 x4 x5 x6 : Int) (_x7 : Bool) (x8 : ByteArray) (x9 : Int) (x10 : List (Int × Int × ByteArray)) : Option (TAs [.one (.d (.err 129))]) :=
 ((f_106 N x1 x2 x3).bind fun r11 => ((f_107 N x4).bind fun r12 => ((f_108 N x5 x6).bind fun r13 => ((f_109 N x8 x9 x10).bind fun r14 => ((l_49_0 N ((r11, r12, r13, r14), 0)).bind fun q => (match q with | .inl q20 => (some q20) | .inr _ => (some none)))))))
def S_49 (N : Nat) : Sum := fnSum 1 0 1 [zg3] [.one (.d (.err 129))] (fun (x1, x2, x3, x4, x5, x6, x7, x8, x9, x10) => f_49 N x1 x2 x3 x4 x5 x6 x7 x8 x9 x10)
theorem s_49 (N : Nat) : SumOk Tryz.prog laidL 49 (S_49 N) := fn_x h0 (x_49 N) Tryz.func49 ((lookOk_cons (L_ok_49_0 N) lookOk_nil))
def f_53 (N : Nat) (x1 x2 x3 x4 x5 x6 : Int) (_x7 : Bool) (x8 : ByteArray) (x9 : Int) (x10 : List (Int × Int × ByteArray)) : Option (TAs [.one (.d (.bool))]) :=
 ((f_116 N x1 x2 x3).bind fun r11 => (bif r11 then ((f_117 N x4).bind fun r12 => (bif r12 then ((f_118 N x5 x6).bind fun r13 => (bif r13 then ((f_119 N x8 x9 x10).bind fun r14 => (some r14)) else (some false))) else (some false))) else (some false)))
def S_53 (N : Nat) : Sum := fnSum 1 0 1 [zg3] [.one (.d (.bool))] (fun (x1, x2, x3, x4, x5, x6, x7, x8, x9, x10) => f_53 N x1 x2 x3 x4 x5 x6 x7 x8 x9 x10)
theorem s_53 (N : Nat) : SumOk Tryz.prog laidL 53 (S_53 N) := fn_x h0 (fk (s_116 N) (fk (s_117 N) (fk (s_118 N) (fk (s_119 N) fz)))) Tryz.func53 (lookOk_nil)
def f_71 (N : Nat) (x1 : Bool) (x2 x3 : Int) : Option (TAs [.one (.d (.err 129))]) :=
 ((f_141 N x2).bind fun r4 => (bif (!r4) then (some (some 1)) else (bif (!x1) then (bif (x2 != 0) then (some (some 1)) else (bif (decide (x3 < 0)) then (some (some 1)) else (bif (decide (x3 > 2305843009213693952)) then (some (some 1)) else (some none)))) else (bif (decide (x3 < 0)) then (some (some 1)) else (bif (decide (x3 > 2305843009213693952)) then (some (some 1)) else (some none))))))
def S_71 (N : Nat) : Sum := fnSum 1 0 1 [zg10] [.one (.d (.err 129))] (fun (x1, x2, x3) => f_71 N x1 x2 x3)
theorem s_71 (N : Nat) : SumOk Tryz.prog laidL 71 (S_71 N) := fn_x h0 (fk (s_141 N) fz) Tryz.func71 (lookOk_nil)
def f_77 (N : Nat) (_x1 : ByteArray) (_x2 : List Int) (x3 _x4 _x5 x6 x7 _x8 : Int) (_x9 : Bool) (_x10 : ByteArray) (_x11 : Int) (_x12 : List (Int × Int × ByteArray)) (_x13 : Bool) (_x14 _x15 : Int) (_x16 : Bool) (_x17 _x18 x19 x20 : Int) : Option (TAs [.one (.d (.int .i64))]) :=
 ((f_136 N x19 (IntKind.i64.wrap ((IntKind.i64.wrap (x7 + x6)) - 1))).bind fun r21 => (bif (x3 == 0) then ((f_136 N r21 1000000000).bind fun r22 => ((f_136 N r22 x20).bind fun r23 => (some r23))) else ((f_136 N r21 x20).bind fun r24 => (some r24))))
def S_77 (N : Nat) : Sum := fnSum 3 0 1 [zg1, .one (.d (.int .i64)), .one (.d (.int .i64))] [.one (.d (.int .i64))] (fun ((x1, x2, x3, x4, x5, x6, x7, x8, x9, x10, x11, x12, x13, x14, x15, x16, x17, x18), x19, x20) => f_77 N x1 x2 x3 x4 x5 x6 x7 x8 x9 x10 x11 x12 x13 x14 x15 x16 x17 x18 x19 x20)
theorem s_77 (N : Nat) : SumOk Tryz.prog laidL 77 (S_77 N) := fn_x h0 (fk (s_136 N) fz) Tryz.func77 (lookOk_nil)
def f_84 (N : Nat) (x1 : Bool) (x2 x3 x4 : Int) : Option (TAs [.one (.d (.int .i64)), .one (.d (.int .i64))]) :=
 ((f_99 N x1 x2 x3).bind fun r5 => (bif (!r5) then (some (0, 1)) else ((f_153 N x4).bind fun r6 => (bif (!r6) then (some (0, 1)) else (bif x1 then ((f_153 N (IntKind.i64.wrap (x2 - x3))).bind fun r7 => (bif (!r7) then (some (0, 2)) else (some ((IntKind.i64.wrap (x2 - x3)), 0)))) else ((f_153 N (IntKind.i64.wrap (x4 - x3))).bind fun r8 => (bif (!r8) then (some (0, 2)) else (some ((IntKind.i64.wrap (x4 - x3)), 0)))))))))
def S_84 (N : Nat) : Sum := fnSum 2 0 2 [zg10, .one (.d (.int .i64))] [.one (.d (.int .i64)), .one (.d (.int .i64))] (fun ((x1, x2, x3), x4) => f_84 N x1 x2 x3 x4)
theorem s_84 (N : Nat) : SumOk Tryz.prog laidL 84 (S_84 N) := fn_x h0 (fk (s_99 N) (fk (s_153 N) fz)) Tryz.func84 (lookOk_nil)
def f_86 (N : Nat) (x1 : Bool) (x2 x3 x4 : Int) : Option (TAs [zg14, .one (.d (.err 129))]) :=
 (bif (decide (x3 < 0)) then (some ((false, 0), (some 1))) else ((f_107 N x4).bind fun r5 => (bif (!(Option.isNone r5)) then (some ((false, 0), (some 1))) else (bif (!x1) then (some ((x1, x2), none)) else ((f_136 N x2 x3).bind fun r6 => ((f_159 N r6 x4).bind fun r7 => (bif (!(Option.isNone r7.2)) then (some ((false, 0), r7.2)) else (some ((true, r7.1), none)))))))))
def S_86 (N : Nat) : Sum := fnSum 3 0 2 [zg14, .one (.d (.int .i64)), .one (.d (.int .i64))] [zg14, .one (.d (.err 129))] (fun ((x1, x2), x3, x4) => f_86 N x1 x2 x3 x4)
theorem s_86 (N : Nat) : SumOk Tryz.prog laidL 86 (S_86 N) := fn_x h0 (fk (s_107 N) (fk (s_136 N) (fk (s_159 N) fz))) Tryz.func86 (lookOk_nil)
def f_91 (N : Nat) (x1 : Bool) (x2 x3 x4 : Int) : Option (TAs [zg10, .one (.d (.int .i64))]) :=
 ((f_99 N x1 x2 x3).bind fun r5 => (bif (!r5) then (some ((false, 0, 0), 1)) else ((f_153 N x4).bind fun r6 => (bif (!r6) then (some ((false, 0, 0), 1)) else (bif x1 then (some ((false, 0, 0), 19)) else (some ((true, x4, x3), 0)))))))
def S_91 (N : Nat) : Sum := fnSum 2 0 2 [zg10, .one (.d (.int .i64))] [zg10, .one (.d (.int .i64))] (fun ((x1, x2, x3), x4) => f_91 N x1 x2 x3 x4)
theorem s_91 (N : Nat) : SumOk Tryz.prog laidL 91 (S_91 N) := fn_x h0 (fk (s_99 N) (fk (s_153 N) fz)) Tryz.func91 (lookOk_nil)
def f_93 (N : Nat) (x1 : Bool) (x2 x3 x4 : Int) (x5 : Bool) : Option (TAs [zg10, .one (.d (.int .i64))]) :=
 ((f_99 N x1 x2 x3).bind fun r6 => (bif (!r6) then (some ((false, 0, 0), 1)) else ((f_153 N x4).bind fun r7 => (bif (!r7) then (some ((false, 0, 0), 1)) else (bif (!x1) then (some ((false, 0, 0), 19)) else (bif (decide (x4 < x2)) then (some ((false, 0, 0), 10)) else (bif x5 then (some ((false, 0, x3), 0)) else (bif (decide ((IntKind.i64.wrap (x4 - x2)) > (IntKind.i64.wrap (2305843009213693952 - x3)))) then (some ((false, 0, 0), 2)) else (some ((false, 0, (IntKind.i64.wrap ((IntKind.i64.wrap (x3 + x4)) - x2))), 0))))))))))
def S_93 (N : Nat) : Sum := fnSum 3 0 2 [zg10, .one (.d (.int .i64)), .one (.d (.bool))] [zg10, .one (.d (.int .i64))] (fun ((x1, x2, x3), x4, x5) => f_93 N x1 x2 x3 x4 x5)
theorem s_93 (N : Nat) : SumOk Tryz.prog laidL 93 (S_93 N) := fn_x h0 (fk (s_99 N) (fk (s_153 N) fz)) Tryz.func93 (lookOk_nil)
def f_97 (N : Nat) (x1 : ByteArray) (x2 : Int) (x3 : List (Int × Int × ByteArray)) (x4 : Int) : Option (TAs [zg13, .one (.d (.int .i64))]) :=
 ((f_119 N x1 x2 x3).bind fun r5 => (bif (!r5) then (some ((0, 0), 1)) else (bif (decide (x4 < (-4398046511104))) then (some ((0, 0), 1)) else (bif (decide (x4 > 4398046511104)) then (some ((0, 0), 1)) else ((f_163 N x1 x2 x3 x4).bind fun r6 => (bif (decide ((IntKind.i64.wrap (x4 + r6.1)) < 0)) then (bif ((IntKind.i64.wrap ((IntKind.i64.wrap (Int.tdiv (IntKind.i64.wrap (x4 + r6.1)) 86400)) * 86400)) != (IntKind.i64.wrap (x4 + r6.1))) then (some (((IntKind.i64.wrap ((IntKind.i64.wrap (Int.tdiv (IntKind.i64.wrap (x4 + r6.1)) 86400)) - 1)), (IntKind.i64.wrap ((IntKind.i64.wrap (x4 + r6.1)) - (IntKind.i64.wrap (86400 * (IntKind.i64.wrap ((IntKind.i64.wrap (Int.tdiv (IntKind.i64.wrap (x4 + r6.1)) 86400)) - 1))))))), 0)) else (some (((IntKind.i64.wrap (Int.tdiv (IntKind.i64.wrap (x4 + r6.1)) 86400)), (IntKind.i64.wrap ((IntKind.i64.wrap (x4 + r6.1)) - (IntKind.i64.wrap (86400 * (IntKind.i64.wrap (Int.tdiv (IntKind.i64.wrap (x4 + r6.1)) 86400))))))), 0))) else (some (((IntKind.i64.wrap (Int.tdiv (IntKind.i64.wrap (x4 + r6.1)) 86400)), (IntKind.i64.wrap ((IntKind.i64.wrap (x4 + r6.1)) - (IntKind.i64.wrap (86400 * (IntKind.i64.wrap (Int.tdiv (IntKind.i64.wrap (x4 + r6.1)) 86400))))))), 0))))))))
def S_97 (N : Nat) : Sum := fnSum 2 0 2 [zg5, .one (.d (.int .i64))] [zg13, .one (.d (.int .i64))] (fun ((x1, x2, x3), x4) => f_97 N x1 x2 x3 x4)
theorem s_97 (N : Nat) : SumOk Tryz.prog laidL 97 (S_97 N) := fn_x h0 (fk (s_119 N) (fk (s_163 N) fz)) Tryz.func97 (lookOk_nil)
def f_146 (N : Nat) (x1 : Bool) (x2 x3 x4 : Int) : Option (TAs [.one (.d (.err 129))]) :=
 ((f_141 N x4).bind fun r5 => (bif (!r5) then (some (some 1)) else ((f_71 N x1 x2 x3).bind fun r6 => (some r6))))
def S_146 (N : Nat) : Sum := fnSum 2 0 1 [zg10, .one (.d (.int .i64))] [.one (.d (.err 129))] (fun ((x1, x2, x3), x4) => f_146 N x1 x2 x3 x4)
theorem s_146 (N : Nat) : SumOk Tryz.prog laidL 146 (S_146 N) := fn_x h0 (fk (s_141 N) (fk (s_71 N) fz)) Tryz.func146 (lookOk_nil)
def X_154 (N : Nat) : List (Nat × Sum) := [(116, (S_116 N)), (193, (S_193 N)), (156, (S_156 N))]
theorem x_154 (N : Nat) : FnsOk Tryz.prog laidL (X_154 N) := fk (s_116 N) (fk (s_193 N) (fk (s_156 N) fz))
def sh_154_0 : List ShA := [.one (.ptr 160 0), .one (.ptr 176 0), .one (.d (.int .i64)), zg9, zg8]
abbrev T_154_0 := ((TAs [.one (.d (.int .i64))]) ⊕ (TAs []))
def o_154_0 : OutK 0 T_154_0 := (outTwo (outOne 0 .ret [4] [] [.one (.d (.int .i64))]) (outOne 0 (.exit 0) [] [] []))
def b_154_0 (N : Nat) (ih : TAs sh_154_0 → Option T_154_0) : TAs sh_154_0 → Option T_154_0 := fun (_, _, y9, (y10, y11, y12), (y13, y14, y15)) =>
 (bif (decide (y9 < (List.length y15 : Int))) then ((f_156 N y10 y11 y12 y13 y14 y15 (IntKind.i64.wrap (y9 - 1))).bind fun r16 => ((f_156 N y10 y11 y12 y13 y14 y15 y9).bind fun r17 => (bif (decide (y10 > 0)) then (bif (decide (r17.1 < r16.2)) then (some (.inl 9)) else (ih ((), (), (IntKind.i64.wrap (y9 + 1)), (y10, y11, y12), (y13, y14, y15)))) else (ih ((), (), (IntKind.i64.wrap (y9 + 1)), (y10, y11, y12), (y13, y14, y15)))))) else (some (.inr ())))
def l_154_0 (N : Nat) : TAs sh_154_0 → Option T_154_0 := iter (b_154_0 N) N
def L_154_0 (N : Nat) : LSum := loopSum [2, 3, 5] [160, 176] sh_154_0 o_154_0 (l_154_0 N)
theorem L_ok_154_0 (N : Nat) : SegOk Tryz.prog laidL 0 Tryz.f154.ntmps (loopAt 0 0 (bodyOf Tryz.f154)) (L_154_0 N) :=
 lp_x h0 (x_154 N) (lookOk_nil)
def f_154 (N : Nat) (x1 x2 x3 x4 x5 : Int) (x6 : List Int) : Option (TAs [.one (.d (.int .i64))]) :=
 ((f_116 N x1 x2 x3).bind fun r7 => (bif (!r7) then (some 1) else ((f_193 N x4 x5 x6).bind fun r8 => (bif (!r8) then (some 1) else ((l_154_0 N ((), (), 1, (x1, x2, x3), (x4, x5, x6))).bind fun q => (match q with | .inl q18 => (some q18) | .inr _ => (some 0)))))))
def S_154 (N : Nat) : Sum := fnSum 2 0 1 [zg9, zg8] [.one (.d (.int .i64))] (fun ((x1, x2, x3), (x4, x5, x6)) => f_154 N x1 x2 x3 x4 x5 x6)
theorem s_154 (N : Nat) : SumOk Tryz.prog laidL 154 (S_154 N) := fn_x h0 (x_154 N) Tryz.func154 ((lookOk_cons (L_ok_154_0 N) lookOk_nil))
def f_204 (N : Nat) (x1 _x2 : Int) (x3 : List Int) (x4 : Int) : Option (TAs [.one (.d (.int .i64))]) :=
 ((f_217 N x3 x4).bind fun r5 => (some (IntKind.i64.wrap (x1 + r5.1))))
def S_204 (N : Nat) : Sum := fnSum 2 0 1 [zg8, .one (.d (.int .i64))] [.one (.d (.int .i64))] (fun ((x1, x2, x3), x4) => f_204 N x1 x2 x3 x4)
theorem s_204 (N : Nat) : SumOk Tryz.prog laidL 204 (S_204 N) := fn_x h0 (fk (s_217 N) fz) Tryz.func204 (lookOk_nil)
def X_205 (N : Nat) : List (Nat × Sum) := [(218, (S_218 N)), (219, (S_219 N))]
theorem x_205 (N : Nat) : FnsOk Tryz.prog laidL (X_205 N) := fk (s_218 N) (fk (s_219 N) fz)
def sh_205_0 : List ShA := [.one (.d (.sl [.int .u8])), .one (.ptr 240 0), .one (.slt [.int .u8] 5 1), .agg [.d (.arr .u64 4)]]
abbrev T_205_0 := TAs [.one (.d (.sl [.int .u8])), .one (.ptr 240 0), .one (.slt [.int .u8] 5 1), .agg [.d (.arr .u64 4)]]
def o_205_0 : OutK 0 T_205_0 := (outOne 0 (.exit 0) [1, 7, 8] [240] [.one (.d (.sl [.int .u8])), .one (.ptr 240 0), .one (.slt [.int .u8] 5 1), .agg [.d (.arr .u64 4)]])
def b_205_0 (_ : Nat) (ih : TAs sh_205_0 → Option T_205_0) : TAs sh_205_0 → Option T_205_0 := fun (y5, _, y6, y7) =>
 (bif ((Int.tmod (List.length y6 : Int) 8) != 7) then (bif (decide ((List.length y6 + List.length ([0] : List Int)) * 1 ≤ 140737488355328)) then (ih (y5, (), (y6 ++ ([0] : List Int)), y7)) else none) else (some ((y5, (), y6, y7))))
def l_205_0 (N : Nat) : TAs sh_205_0 → Option T_205_0 := iter (b_205_0 N) N
def L_205_0 (N : Nat) : LSum := loopSum [1, 7, 8] [240] sh_205_0 o_205_0 (l_205_0 N)
theorem L_ok_205_0 (N : Nat) : SegOk Tryz.prog laidL 0 Tryz.f205.ntmps (loopAt 0 0 (bodyOf Tryz.f205)) (L_205_0 N) :=
 lp_x h0 (x_205 N) (lookOk_nil)
def sh_205_2 : List ShA := [.one (.ptr 240 0), .one (.slt [.int .u8] 5 1), .one (.d (.int .i64)), .agg [.d (.arr .u64 4)]]
abbrev T_205_2 := TAs [.one (.ptr 240 0), .agg [.d (.arr .u64 4)]]
def o_205_2 : OutK 0 T_205_2 := (outOne 0 (.exit 2) [7] [240] [.one (.ptr 240 0), .agg [.d (.arr .u64 4)]])
def b_205_2 (N : Nat) (ih : TAs sh_205_2 → Option T_205_2) : TAs sh_205_2 → Option T_205_2 := fun (_, y9, y10, y11) =>
 (bif (decide ((IntKind.i64.wrap (y10 + 8)) ≤ (List.length y9 : Int))) then (bif (decide (0 ≤ (IntKind.i64.wrap (y10 + 8)) ∧ (IntKind.i64.wrap (y10 + 8)) ≤ (List.length y9 : Int))) then (bif (decide (0 ≤ y10 ∧ y10 ≤ (IntKind.i64.wrap (y10 + 8)))) then ((f_218 N (List.drop (Int.toNat y10) (List.take (Int.toNat (IntKind.i64.wrap (y10 + 8))) y9))).bind fun r12 => ((f_219 N (List.set y11 (Int.toNat 3) (ibits .xor .u64 (List.getD y11 (Int.toNat 3) 0) r12))).bind fun r13 => ((f_219 N r13).bind fun r14 => (ih ((), y9, (IntKind.i64.wrap (y10 + 8)), (List.set r14 (Int.toNat 0) (ibits .xor .u64 (List.getD r14 (Int.toNat 0) 0) r12))))))) else none) else none) else (some (((), y11))))
def l_205_2 (N : Nat) : TAs sh_205_2 → Option T_205_2 := iter (b_205_2 N) N
def L_205_2 (N : Nat) : LSum := loopSum [7, 8, 9] [240] sh_205_2 o_205_2 (l_205_2 N)
theorem L_ok_205_2 (N : Nat) : SegOk Tryz.prog laidL 0 Tryz.f205.ntmps (loopAt 0 2 (bodyOf Tryz.f205)) (L_205_2 N) :=
 lp_x h0 (x_205 N) (lookOk_nil)
def f_205 (N : Nat) (x1 x2 : List Int) : Option (TAs [.one (.d (.int .u64))]) :=
 ((f_218 N (List.drop 0 (List.take 8 x1))).bind fun r3 => ((f_218 N (List.drop 8 (List.take 16 x1))).bind fun r4 => (bif (decide ((List.length ([] : List Int) + List.length x2) * 1 ≤ 140737488355328)) then ((l_205_0 N (x2, (), (([] : List Int) ++ x2), [(ibits .xor .u64 r3 8317987319222330741), (ibits .xor .u64 r4 7237128888997146477), (ibits .xor .u64 r3 7816392313619706465), (ibits .xor .u64 r4 8387220255154660723)])).bind fun q8 => (bif (decide ((List.length q8.2.2.1 + List.length ([(IntKind.u8.wrap (Int.tmod (List.length q8.1 : Int) 256))] : List Int)) * 1 ≤ 140737488355328)) then ((l_205_2 N ((), (q8.2.2.1 ++ ([(IntKind.u8.wrap (Int.tmod (List.length q8.1 : Int) 256))] : List Int)), 0, q8.2.2.2)).bind fun q15 => ((f_219 N (List.set q15.2 (Int.toNat 2) (ibits .xor .u64 (List.getD q15.2 (Int.toNat 2) 0) 255))).bind fun r16 => ((f_219 N r16).bind fun r17 => ((f_219 N r17).bind fun r18 => ((f_219 N r18).bind fun r19 => (some (ibits .xor .u64 (ibits .xor .u64 (ibits .xor .u64 (List.getD r19 (Int.toNat 0) 0) (List.getD r19 (Int.toNat 1) 0)) (List.getD r19 (Int.toNat 2) 0)) (List.getD r19 (Int.toNat 3) 0)))))))) else none)) else none)))
def S_205 (N : Nat) : Sum := fnSum 2 0 1 [.agg [.d (.arr .u8 16)], .one (.d (.sl [.int .u8]))] [.one (.d (.int .u64))] (fun (x1, x2) => f_205 N x1 x2)
theorem s_205 (N : Nat) : SumOk Tryz.prog laidL 205 (S_205 N) := fn_x h0 (x_205 N) Tryz.func205 ((lookOk_cons (L_ok_205_0 N) (lookOk_cons (L_ok_205_2 N) lookOk_nil)))
def f_208 (N : Nat) (x1 _x2 : Int) (_x3 : ByteArray) (x4 : Int) : Option (TAs [.one (.d (.int .i64))]) :=
 ((f_209 N x1 x4).bind fun r5 => (some r5))
def S_208 (N : Nat) : Sum := fnSum 2 0 1 [.agg [.d (.int .i64), .d (.int .i64), .d (.str)], .one (.d (.int .i64))] [.one (.d (.int .i64))] (fun ((x1, x2, x3), x4) => f_208 N x1 x2 x3 x4)
theorem s_208 (N : Nat) : SumOk Tryz.prog laidL 208 (S_208 N) := fn_x h0 (fk (s_209 N) fz) Tryz.func208 (lookOk_nil)
def f_216 (N : Nat) (x1 : List Int) (x2 : Int) : Option (TAs [.one (.slt [.int .u8] 5 1)]) :=
 ((f_225 N x1 (IntKind.u64.wrap x2) 8).bind fun r3 => (some r3))
def S_216 (N : Nat) : Sum := fnSum 2 0 1 [.one (.d (.sl [.int .u8])), .one (.d (.int .i64))] [.one (.slt [.int .u8] 5 1)] (fun (x1, x2) => f_216 N x1 x2)
theorem s_216 (N : Nat) : SumOk Tryz.prog laidL 216 (S_216 N) := fn_x h0 (fk (s_225 N) fz) Tryz.func216 (lookOk_nil)
def f_222 (N : Nat) (x1 : List Int) : Option (TAs [.one (.d (.int .u64))]) :=
 ((f_231 N x1).bind fun r2 => ((f_232 N r2.2.1 r2.2.2).bind fun r3 => (some (IntKind.u64.wrap r3.1))))
def S_222 (N : Nat) : Sum := fnSum 1 0 1 [.one (.d (.sl [.int .u8]))] [.one (.d (.int .u64))] (fun x1 => f_222 N x1)
theorem s_222 (N : Nat) : SumOk Tryz.prog laidL 222 (S_222 N) := fn_x h0 (fk (s_231 N) (fk (s_232 N) fz)) Tryz.func222 (lookOk_nil)
def X_224 (N : Nat) : List (Nat × Sum) := [(233, (S_233 N))]
theorem x_224 (N : Nat) : FnsOk Tryz.prog laidL (X_224 N) := fk (s_233 N) fz
def sh_224_0 : List ShA := [.one (.ptr 0 0), .one (.d (.int .i64)), .one (.d (.int .i64)), zg6]
abbrev T_224_0 := TAs [zg6]
def o_224_0 : OutK 1 T_224_0 := (outOne 1 (.exit 0) [] [0] [zg6])
def b_224_0 (N : Nat) (ih : TAs sh_224_0 → Option T_224_0) : TAs sh_224_0 → Option T_224_0 := fun (_, y6, y7, (y8, y9, y10, y11)) =>
 (bif (decide (y7 < y6)) then ((f_233 N y9 13).bind fun r12 => ((f_233 N (IntKind.u64.wrap (y8 + y9)) 32).bind fun r13 => ((f_233 N y11 16).bind fun r14 => ((f_233 N (ibits .xor .u64 r14 (IntKind.u64.wrap (y10 + y11))) 21).bind fun r15 => ((f_233 N (ibits .xor .u64 r12 (IntKind.u64.wrap (y8 + y9))) 17).bind fun r16 => ((f_233 N (IntKind.u64.wrap ((IntKind.u64.wrap (y10 + y11)) + (ibits .xor .u64 r12 (IntKind.u64.wrap (y8 + y9))))) 32).bind fun r17 => (ih ((), y6, (IntKind.i64.wrap (y7 + 1)), ((IntKind.u64.wrap (r13 + (ibits .xor .u64 r14 (IntKind.u64.wrap (y10 + y11))))), (ibits .xor .u64 r16 (IntKind.u64.wrap ((IntKind.u64.wrap (y10 + y11)) + (ibits .xor .u64 r12 (IntKind.u64.wrap (y8 + y9)))))), r17, (ibits .xor .u64 r15 (IntKind.u64.wrap (r13 + (ibits .xor .u64 r14 (IntKind.u64.wrap (y10 + y11))))))))))))))) else (some ((y8, y9, y10, y11))))
def l_224_0 (N : Nat) : TAs sh_224_0 → Option T_224_0 := iter (b_224_0 N) N
def L_224_0 (N : Nat) : LSum := loopSum [0, 4, 5] [0] sh_224_0 o_224_0 (l_224_0 N)
theorem L_ok_224_0 (N : Nat) : SegOk Tryz.prog laidL 1 Tryz.f224.ntmps (loopAt 0 0 (bodyOf Tryz.f224)) (L_224_0 N) :=
 lp_x h0 (x_224 N) (lookOk_nil)
def f_224 (N : Nat) (x1 x2 x3 x4 x5 : Int) : Option (TAs [zg6]) :=
 ((l_224_0 N ((), x1, 0, (x2, x3, x4, x5))).bind fun q18 => (some (q18.1, q18.2.1, q18.2.2.1, q18.2.2.2)))
def S_224 (N : Nat) : Sum := fnSum 2 1 0 [.one (.ptr 0 0), .one (.d (.int .i64)), zg6] [zg6] (fun (_, x1, (x2, x3, x4, x5)) => f_224 N x1 x2 x3 x4 x5)
theorem s_224 (N : Nat) : SumOk Tryz.prog laidL 224 (S_224 N) := fn_x h0 (x_224 N) Tryz.func224 ((lookOk_cons (L_ok_224_0 N) lookOk_nil))
def f_22 (N : Nat) (x1 : ByteArray) (_x2 : List Int) (x3 x4 x5 x6 x7 x8 : Int) (x9 : Bool) (x10 : ByteArray) (x11 : Int) (x12 : List (Int × Int × ByteArray)) (x13 : Bool) (x14 x15 : Int) (x16 : Bool) (x17 x18 : Int) : Option (TAs [.one (.d (.err 129))]) :=
 (bif ((ByteArray.toList x1) == (ByteArray.toList (⟨#[]⟩ : ByteArray))) then (some (some 1)) else (bif (decide ((ByteArray.size x1 : Int) > 12)) then (some (some 1)) else ((trimF x1 (⟨#[97, 98, 99, 100, 101, 102, 103, 104, 105, 106, 107, 108, 109, 110, 111, 112, 113, 114, 115, 116, 117, 118, 119, 120, 121, 122, 48, 49, 50, 51, 52, 53, 54, 55, 56, 57]⟩)).bind fun r19 => (bif (!((ByteArray.toList r19) == (ByteArray.toList (⟨#[]⟩ : ByteArray)))) then (some (some 1)) else ((f_49 N x3 x4 x5 x6 x7 x8 x9 x10 x11 x12).bind fun r20 => (bif (!(Option.isNone r20)) then (some (some 1)) else ((f_71 N x13 x14 x15).bind fun r21 => (bif (!(Option.isNone r21)) then (some (some 1)) else ((f_72 N x16 x17 x6).bind fun r22 => (bif (!r22) then (some (some 1)) else (bif (decide (x18 < 0)) then (some (some 1)) else (bif (decide (x18 > 1099511627776)) then (some (some 1)) else (some none)))))))))))))
def S_22 (N : Nat) : Sum := fnSum 1 0 1 [zg1] [.one (.d (.err 129))] (fun (x1, x2, x3, x4, x5, x6, x7, x8, x9, x10, x11, x12, x13, x14, x15, x16, x17, x18) => f_22 N x1 x2 x3 x4 x5 x6 x7 x8 x9 x10 x11 x12 x13 x14 x15 x16 x17 x18)
theorem s_22 (N : Nat) : SumOk Tryz.prog laidL 22 (S_22 N) := fn_x h0 (fk trimS_ok (fk (s_49 N) (fk (s_71 N) (fk (s_72 N) fz)))) Tryz.func22 (lookOk_nil)
def f_29 (N : Nat) (x1 : ByteArray) (x2 : List Int) (x3 x4 x5 x6 x7 x8 : Int) (x9 : Bool) (x10 : ByteArray) (x11 : Int) (x12 : List (Int × Int × ByteArray)) (x13 : Bool) (x14 x15 : Int) (x16 : Bool) (x17 x18 x19 x20 x21 x22 x23 x24 : Int) (x25 : Bool) (x26 : ByteArray) (x27 : Int) (x28 : List (Int × Int × ByteArray)) : Option (TAs [zg0, .one (.d (.err 129))]) :=
 ((f_22 N x1 x2 x3 x4 x5 x6 x7 x8 x9 x10 x11 x12 x13 x14 x15 x16 x17 x18).bind fun r29 => (bif (!(Option.isNone r29)) then (some ((ByteArray.empty, [0, 0, 0, 0, 0, 0, 0, 0, 0, 0, 0, 0, 0, 0, 0, 0], 0, 0, 0, 0, 0, 0, false, ByteArray.empty, 0, ([] : List (Int × Int × ByteArray)), false, 0, 0, false, 0, 0), (some 1))) else ((f_49 N x19 x20 x21 x22 x23 x24 x25 x26 x27 x28).bind fun r30 => (bif (!(Option.isNone r30)) then (some ((ByteArray.empty, [0, 0, 0, 0, 0, 0, 0, 0, 0, 0, 0, 0, 0, 0, 0, 0], 0, 0, 0, 0, 0, 0, false, ByteArray.empty, 0, ([] : List (Int × Int × ByteArray)), false, 0, 0, false, 0, 0), (some 1))) else ((f_86 N x16 x17 0 x22).bind fun r31 => (bif (!(Option.isNone r31.2)) then (some ((ByteArray.empty, [0, 0, 0, 0, 0, 0, 0, 0, 0, 0, 0, 0, 0, 0, 0, 0], 0, 0, 0, 0, 0, 0, false, ByteArray.empty, 0, ([] : List (Int × Int × ByteArray)), false, 0, 0, false, 0, 0), r31.2)) else ((f_75 N x1 x2 x19 x20 x21 x22 x23 x24 x25 x26 x27 x28 x13 x14 x15 r31.1.1 r31.1.2 x18).bind fun r32 => (some ((r32.1, r32.2.1, r32.2.2.1, r32.2.2.2.1, r32.2.2.2.2.1, r32.2.2.2.2.2.1, r32.2.2.2.2.2.2.1, r32.2.2.2.2.2.2.2.1, r32.2.2.2.2.2.2.2.2.1, r32.2.2.2.2.2.2.2.2.2.1, r32.2.2.2.2.2.2.2.2.2.2.1, r32.2.2.2.2.2.2.2.2.2.2.2.1, r32.2.2.2.2.2.2.2.2.2.2.2.2.1, r32.2.2.2.2.2.2.2.2.2.2.2.2.2.1, r32.2.2.2.2.2.2.2.2.2.2.2.2.2.2.1, r32.2.2.2.2.2.2.2.2.2.2.2.2.2.2.2.1, r32.2.2.2.2.2.2.2.2.2.2.2.2.2.2.2.2.1, r32.2.2.2.2.2.2.2.2.2.2.2.2.2.2.2.2.2), none)))))))))
def S_29 (N : Nat) : Sum := fnSum 2 0 2 [zg1, zg3] [zg0, .one (.d (.err 129))] (fun ((x1, x2, x3, x4, x5, x6, x7, x8, x9, x10, x11, x12, x13, x14, x15, x16, x17, x18), (x19, x20, x21, x22, x23, x24, x25, x26, x27, x28)) => f_29 N x1 x2 x3 x4 x5 x6 x7 x8 x9 x10 x11 x12 x13 x14 x15 x16 x17 x18 x19 x20 x21 x22 x23 x24 x25 x26 x27 x28)
theorem s_29 (N : Nat) : SumOk Tryz.prog laidL 29 (S_29 N) := fn_x h0 (fk (s_22 N) (fk (s_49 N) (fk (s_86 N) (fk (s_75 N) fz)))) Tryz.func29 (lookOk_nil)
def f_40 (N : Nat) (x1 : ByteArray) (x2 : List Int) (x3 x4 x5 x6 x7 x8 : Int) (x9 : Bool) (x10 : ByteArray) (x11 : Int) (x12 : List (Int × Int × ByteArray)) : Option (TAs [zg0, .one (.d (.err 129))]) :=
 ((f_22 N x1 x2 x3 x4 x5 x6 x7 x8 x9 x10 x11 x12 false 0 0 false 0 0).bind fun r13 => (bif (!(Option.isNone r13)) then (some ((ByteArray.empty, [0, 0, 0, 0, 0, 0, 0, 0, 0, 0, 0, 0, 0, 0, 0, 0], 0, 0, 0, 0, 0, 0, false, ByteArray.empty, 0, ([] : List (Int × Int × ByteArray)), false, 0, 0, false, 0, 0), r13)) else ((f_75 N x1 x2 x3 x4 x5 x6 x7 x8 x9 x10 x11 x12 false 0 0 false 0 0).bind fun r14 => (some ((r14.1, r14.2.1, r14.2.2.1, r14.2.2.2.1, r14.2.2.2.2.1, r14.2.2.2.2.2.1, r14.2.2.2.2.2.2.1, r14.2.2.2.2.2.2.2.1, r14.2.2.2.2.2.2.2.2.1, r14.2.2.2.2.2.2.2.2.2.1, r14.2.2.2.2.2.2.2.2.2.2.1, r14.2.2.2.2.2.2.2.2.2.2.2.1, r14.2.2.2.2.2.2.2.2.2.2.2.2.1, r14.2.2.2.2.2.2.2.2.2.2.2.2.2.1, r14.2.2.2.2.2.2.2.2.2.2.2.2.2.2.1, r14.2.2.2.2.2.2.2.2.2.2.2.2.2.2.2.1, r14.2.2.2.2.2.2.2.2.2.2.2.2.2.2.2.2.1, r14.2.2.2.2.2.2.2.2.2.2.2.2.2.2.2.2.2), none)))))
def S_40 (N : Nat) : Sum := fnSum 3 0 2 [.one (.d (.str)), .agg [.d (.arr .u8 16)], zg3] [zg0, .one (.d (.err 129))] (fun (x1, x2, (x3, x4, x5, x6, x7, x8, x9, x10, x11, x12)) => f_40 N x1 x2 x3 x4 x5 x6 x7 x8 x9 x10 x11 x12)
theorem s_40 (N : Nat) : SumOk Tryz.prog laidL 40 (S_40 N) := fn_x h0 (fk (s_22 N) (fk (s_75 N) fz)) Tryz.func40 (lookOk_nil)
def f_41 (N : Nat) (x1 : ByteArray) (_x2 : List Int) (x3 x4 x5 x6 x7 x8 : Int) (x9 : Bool) (x10 : ByteArray) (x11 : Int) (x12 : List (Int × Int × ByteArray)) (x13 : Bool) (x14 x15 : Int) (x16 : Bool) (x17 x18 : Int) : Option (TAs [.one (.d (.bool))]) :=
 ((f_98 N x1).bind fun r19 => (bif (!r19) then (some false) else ((f_53 N x3 x4 x5 x6 x7 x8 x9 x10 x11 x12).bind fun r20 => (bif (!r20) then (some false) else ((f_99 N x13 x14 x15).bind fun r21 => (bif (!r21) then (some false) else (bif (decide (x18 < 0)) then (some false) else (bif (decide (x18 > 1099511627776)) then (some false) else (bif (!x16) then (some (x17 == 0)) else ((f_96 N x17 x6).bind fun r22 => (some (r22.2 == 0))))))))))))
def S_41 (N : Nat) : Sum := fnSum 1 0 1 [zg1] [.one (.d (.bool))] (fun (x1, x2, x3, x4, x5, x6, x7, x8, x9, x10, x11, x12, x13, x14, x15, x16, x17, x18) => f_41 N x1 x2 x3 x4 x5 x6 x7 x8 x9 x10 x11 x12 x13 x14 x15 x16 x17 x18)
theorem s_41 (N : Nat) : SumOk Tryz.prog laidL 41 (S_41 N) := fn_x h0 (fk (s_98 N) (fk (s_53 N) (fk (s_99 N) (fk (s_96 N) fz)))) Tryz.func41 (lookOk_nil)
def f_78 (N : Nat) (x1 : Bool) (x2 x3 x4 : Int) : Option (TAs [.one (.d (.int .i64)), .one (.d (.err 129))]) :=
 ((f_146 N x1 x2 x3 x4).bind fun r5 => (bif (!(Option.isNone r5)) then (some (0, r5)) else (bif x1 then ((f_52 N x2 x3).bind fun r6 => ((f_141 N r6).bind fun r7 => (bif (!r7) then (some (0, (some 2))) else (some (r6, none))))) else ((f_52 N x4 x3).bind fun r8 => ((f_141 N r8).bind fun r9 => (bif (!r9) then (some (0, (some 2))) else (some (r8, none))))))))
def S_78 (N : Nat) : Sum := fnSum 2 0 2 [zg10, .one (.d (.int .i64))] [.one (.d (.int .i64)), .one (.d (.err 129))] (fun ((x1, x2, x3), x4) => f_78 N x1 x2 x3 x4)
theorem s_78 (N : Nat) : SumOk Tryz.prog laidL 78 (S_78 N) := fn_x h0 (fk (s_146 N) (fk (s_52 N) (fk (s_141 N) fz))) Tryz.func78 (lookOk_nil)
def X_85 (N : Nat) : List (Nat × Sum) := [(154, (S_154 N)), (155, (S_155 N)), (156, (S_156 N)), (157, (S_157 N)), (158, (S_158 N))]
theorem x_85 (N : Nat) : FnsOk Tryz.prog laidL (X_85 N) := fk (s_154 N) (fk (s_155 N) (fk (s_156 N) (fk (s_157 N) (fk (s_158 N) fz))))
def sh_85_0 : List ShA := [.one (.d (.int .i64)), .one (.ptr 176 0), .one (.ptr 192 0), .one (.ptr 272 0), .one (.d (.int .i64)), zg9, zg8, zg9]
abbrev T_85_0 := ((TAs [.one (.d (.int .i64)), .one (.d (.int .i64))]) ⊕ (TAs [.one (.d (.int .i64)), .one (.ptr 192 0), .one (.ptr 272 0), zg8, zg9]))
def o_85_0 : OutK 0 T_85_0 := (outTwo (outOne 0 .ret [6, 7] [] [.one (.d (.int .i64)), .one (.d (.int .i64))]) (outOne 0 (.exit 0) [2, 4, 9] [192, 272] [.one (.d (.int .i64)), .one (.ptr 192 0), .one (.ptr 272 0), zg8, zg9]))
def b_85_0 (N : Nat) (ih : TAs sh_85_0 → Option T_85_0) : TAs sh_85_0 → Option T_85_0 := fun (y10, _, _, _, y11, (y12, y13, y14), (y15, y16, y17), (y18, y19, y20)) =>
 (bif (decide (y11 < (List.length y17 : Int))) then (bif (decide (y12 > 0)) then ((f_156 N y12 y13 y14 y15 y16 y17 y11).bind fun r21 => (bif (decide (y10 ≥ r21.1)) then (bif (decide (y10 < r21.2)) then ((f_157 N y12 y13 y14 (IntKind.i64.wrap (y10 - r21.1))).bind fun r22 => (bif (decide (0 ≤ y11 ∧ y11 < (List.length y17 : Int))) then ((f_158 N y15 y16 y17 (List.getD y17 (Int.toNat y11) 0)).bind fun r23 => (bif (decide (0 ≤ y11 ∧ y11 < (List.length y17 : Int))) then (some (.inl ((IntKind.i64.wrap ((IntKind.i64.wrap (y10 - (IntKind.i64.wrap ((IntKind.i64.wrap (r23 - (IntKind.i64.wrap (86400 * (List.getD y17 (Int.toNat y11) 0))))) * 1000000000)))) - r22.1)), 0))) else none)) else none)) else (ih (y10, (), (), (), (IntKind.i64.wrap (y11 + 1)), (y12, y13, y14), (y15, y16, y17), (y18, y19, y20)))) else (ih (y10, (), (), (), (IntKind.i64.wrap (y11 + 1)), (y12, y13, y14), (y15, y16, y17), (y18, y19, y20))))) else (some (.inr (y10, (), (), (y15, y16, y17), (y18, y19, y20))))) else (some (.inr (y10, (), (), (y15, y16, y17), (y18, y19, y20)))))
def l_85_0 (N : Nat) : TAs sh_85_0 → Option T_85_0 := iter (b_85_0 N) N
def L_85_0 (N : Nat) : LSum := loopSum [2, 3, 4, 9, 10] [176, 192, 272] sh_85_0 o_85_0 (l_85_0 N)
theorem L_ok_85_0 (N : Nat) : SegOk Tryz.prog laidL 0 Tryz.f85.ntmps (loopAt 0 0 (bodyOf Tryz.f85)) (L_85_0 N) :=
 lp_x h0 (x_85 N) (lookOk_nil)
def f_85 (N : Nat) (x1 x2 x3 x4 x5 : Int) (x6 : List Int) (x7 : Int) : Option (TAs [.one (.d (.int .i64)), .one (.d (.int .i64))]) :=
 ((f_154 N x1 x2 x3 x4 x5 x6).bind fun r8 => (bif (r8 != 0) then (some (0, r8)) else ((f_155 N x4 x5 x6 x7).bind fun r9 => (bif (r9.2 != 0) then (some (0, r9.2)) else ((l_85_0 N (x7, (), (), (), 0, (x1, x2, x3), (x4, x5, x6), (r9.1.1, r9.1.2.1, r9.1.2.2))).bind fun q => (match q with | .inl q24 => (some (q24.1, q24.2)) | .inr q25 => ((f_158 N q25.2.2.2.1.1 q25.2.2.2.1.2.1 q25.2.2.2.1.2.2 q25.2.2.2.2.1).bind fun r26 => (some ((IntKind.i64.wrap (q25.1 - (IntKind.i64.wrap ((IntKind.i64.wrap (r26 - (IntKind.i64.wrap (86400 * q25.2.2.2.2.1)))) * 1000000000)))), 0)))))))))
def S_85 (N : Nat) : Sum := fnSum 3 0 2 [zg9, zg8, .one (.d (.int .i64))] [.one (.d (.int .i64)), .one (.d (.int .i64))] (fun ((x1, x2, x3), (x4, x5, x6), x7) => f_85 N x1 x2 x3 x4 x5 x6 x7)
theorem s_85 (N : Nat) : SumOk Tryz.prog laidL 85 (S_85 N) := fn_x h0 (x_85 N) Tryz.func85 ((lookOk_cons (L_ok_85_0 N) lookOk_nil))
def f_90 (N : Nat) (x1 : Bool) (x2 x3 x4 : Int) : Option (TAs [zg10, .one (.d (.err 129))]) :=
 ((f_146 N x1 x2 x3 x4).bind fun r5 => (bif (!(Option.isNone r5)) then (some ((false, 0, 0), r5)) else (bif x1 then (some ((false, 0, 0), (some 19))) else (some ((true, x4, x3), none)))))
def S_90 (N : Nat) : Sum := fnSum 2 0 2 [zg10, .one (.d (.int .i64))] [zg10, .one (.d (.err 129))] (fun ((x1, x2, x3), x4) => f_90 N x1 x2 x3 x4)
theorem s_90 (N : Nat) : SumOk Tryz.prog laidL 90 (S_90 N) := fn_x h0 (fk (s_146 N) fz) Tryz.func90 (lookOk_nil)
def f_92 (N : Nat) (x1 : Bool) (x2 x3 x4 : Int) (x5 : Bool) : Option (TAs [zg10, .one (.d (.err 129))]) :=
 ((f_146 N x1 x2 x3 x4).bind fun r6 => (bif (!(Option.isNone r6)) then (some ((false, 0, 0), (some 1))) else (bif (!x1) then (some ((false, 0, 0), (some 19))) else (bif (decide (x4 < x2)) then (some ((false, 0, 0), (some 10))) else (bif (!x5) then ((f_52 N x4 x2).bind fun r7 => ((f_136 N x3 r7).bind fun r8 => (bif (decide (r8 > 2305843009213693952)) then (some ((false, 0, 0), (some 2))) else (some ((false, 0, r8), none))))) else (bif (decide (x3 > 2305843009213693952)) then (some ((false, 0, 0), (some 2))) else (some ((false, 0, x3), none))))))))
def S_92 (N : Nat) : Sum := fnSum 3 0 2 [zg10, .one (.d (.int .i64)), .one (.d (.bool))] [zg10, .one (.d (.err 129))] (fun ((x1, x2, x3), x4, x5) => f_92 N x1 x2 x3 x4 x5)
theorem s_92 (N : Nat) : SumOk Tryz.prog laidL 92 (S_92 N) := fn_x h0 (fk (s_146 N) (fk (s_52 N) (fk (s_136 N) fz))) Tryz.func92 (lookOk_nil)
def f_189 (N : Nat) (x1 x2 : Int) (x3 : List Int) (x4 : Int) : Option (TAs [.one (.d (.int .i64)), .one (.d (.err 129))]) :=
 ((f_203 N x1 x2 x3 x4).bind fun r5 => (bif (!(Option.isNone r5)) then (some (0, r5)) else ((f_204 N x1 x2 x3 x4).bind fun r6 => (some (r6, none)))))
def S_189 (N : Nat) : Sum := fnSum 2 0 2 [zg8, .one (.d (.int .i64))] [.one (.d (.int .i64)), .one (.d (.err 129))] (fun ((x1, x2, x3), x4) => f_189 N x1 x2 x3 x4)
theorem s_189 (N : Nat) : SumOk Tryz.prog laidL 189 (S_189 N) := fn_x h0 (fk (s_203 N) (fk (s_204 N) fz)) Tryz.func189 (lookOk_nil)
def f_192 (N : Nat) (x1 : List Int) (x2 x3 : Int) : Option (TAs [.one (.d (.int .u64))]) :=
 ((f_206 N ([] : List Int) (IntKind.u64.wrap x2) 8).bind fun r4 => ((f_205 N x1 r4).bind fun r5 => (bif (x3 == 18446744073709551615) then (some r5) else (bif (decide ((IntKind.u64.wrap (x3 + 1)) = 0)) then none else (some (Int.tmod r5 (IntKind.u64.wrap (x3 + 1))))))))
def S_192 (N : Nat) : Sum := fnSum 3 0 1 [.agg [.d (.arr .u8 16)], .one (.d (.int .i64)), .one (.d (.int .u64))] [.one (.d (.int .u64))] (fun (x1, x2, x3) => f_192 N x1 x2 x3)
theorem s_192 (N : Nat) : SumOk Tryz.prog laidL 192 (S_192 N) := fn_x h0 (fk (s_206 N) (fk (s_205 N) fz)) Tryz.func192 (lookOk_nil)
def X_207c208 (N : Nat) : List (Nat × Sum) := [(208, (S_208 N))]
theorem x_207c208 (N : Nat) : FnsOk Tryz.prog laidL (X_207c208 N) := fk (s_208 N) fz
def sh_207c208_0 : List ShA := [.one (.d (.sl [.int .i64, .int .i64, .str])), .one (.d (.int .i64)), .one (.fnv 208), .one (.d (.int .i64)), .one (.d (.int .i64)), .one (.d (.int .i64))]
abbrev T_207c208_0 := TAs [.one (.d (.sl [.int .i64, .int .i64, .str])), .one (.d (.int .i64)), .one (.fnv 208), .one (.d (.int .i64)), .one (.d (.int .i64))]
def o_207c208_0 : OutK 0 T_207c208_0 := (outOne 0 (.exit 0) [0, 1, 2, 8, 9] [] [.one (.d (.sl [.int .i64, .int .i64, .str])), .one (.d (.int .i64)), .one (.fnv 208), .one (.d (.int .i64)), .one (.d (.int .i64))])
def b_207c208_0 (N : Nat) (ih : TAs sh_207c208_0 → Option T_207c208_0) : TAs sh_207c208_0 → Option T_207c208_0 := fun (y3, y4, _, y5, y6, y7) =>
 (bif (decide (y6 < y7)) then (bif (decide (0 ≤ (IntKind.i64.wrap ((IntKind.u64.wrap (IntKind.i64.wrap (y6 + y7))) / 2 ^ (min (Int.toNat 1) IntKind.u64.bits))) ∧ (IntKind.i64.wrap ((IntKind.u64.wrap (IntKind.i64.wrap (y6 + y7))) / 2 ^ (min (Int.toNat 1) IntKind.u64.bits))) < (List.length y3 : Int))) then ((f_208 N ((List.getD y3 (Int.toNat (IntKind.i64.wrap ((IntKind.u64.wrap (IntKind.i64.wrap (y6 + y7))) / 2 ^ (min (Int.toNat 1) IntKind.u64.bits)))) (0, 0, ByteArray.empty)).1) ((List.getD y3 (Int.toNat (IntKind.i64.wrap ((IntKind.u64.wrap (IntKind.i64.wrap (y6 + y7))) / 2 ^ (min (Int.toNat 1) IntKind.u64.bits)))) (0, 0, ByteArray.empty)).2.1) ((List.getD y3 (Int.toNat (IntKind.i64.wrap ((IntKind.u64.wrap (IntKind.i64.wrap (y6 + y7))) / 2 ^ (min (Int.toNat 1) IntKind.u64.bits)))) (0, 0, ByteArray.empty)).2.2) y4).bind fun r8 => (bif (decide (r8 < 0)) then (ih (y3, y4, (), y5, (IntKind.i64.wrap ((IntKind.i64.wrap ((IntKind.u64.wrap (IntKind.i64.wrap (y6 + y7))) / 2 ^ (min (Int.toNat 1) IntKind.u64.bits))) + 1)), y7)) else (ih (y3, y4, (), y5, y6, (IntKind.i64.wrap ((IntKind.u64.wrap (IntKind.i64.wrap (y6 + y7))) / 2 ^ (min (Int.toNat 1) IntKind.u64.bits))))))) else none) else (some ((y3, y4, (), y5, y6))))
def l_207c208_0 (N : Nat) : TAs sh_207c208_0 → Option T_207c208_0 := iter (b_207c208_0 N) N
def L_207c208_0 (N : Nat) : LSum := loopSum [0, 1, 2, 8, 9, 10] [] sh_207c208_0 o_207c208_0 (l_207c208_0 N)
theorem L_ok_207c208_0 (N : Nat) : SegOk Tryz.prog laidL 0 Tryz.f207.ntmps (loopAt 0 0 (bodyOf Tryz.f207)) (L_207c208_0 N) :=
 lp_x h0 (x_207c208 N) (lookOk_nil)
def f_207c208 (N : Nat) (x1 : List (Int × Int × ByteArray)) (x2 : Int) : Option (TAs [.one (.d (.int .i64)), .one (.d (.bool))]) :=
 ((l_207c208_0 N (x1, x2, (), (List.length x1 : Int), 0, (List.length x1 : Int))).bind fun q9 => (bif (decide (q9.2.2.2.2 < q9.2.2.2.1)) then (bif (decide (0 ≤ q9.2.2.2.2 ∧ q9.2.2.2.2 < (List.length q9.1 : Int))) then ((f_208 N ((List.getD q9.1 (Int.toNat q9.2.2.2.2) (0, 0, ByteArray.empty)).1) ((List.getD q9.1 (Int.toNat q9.2.2.2.2) (0, 0, ByteArray.empty)).2.1) ((List.getD q9.1 (Int.toNat q9.2.2.2.2) (0, 0, ByteArray.empty)).2.2) q9.2.1).bind fun r10 => (some (q9.2.2.2.2, (r10 == 0)))) else none) else (some (q9.2.2.2.2, false))))
def S_207c208 (N : Nat) : Sum := fnSum 3 0 2 [.one (.d (.sl [.int .i64, .int .i64, .str])), .one (.d (.int .i64)), .one (.fnv 208)] [.one (.d (.int .i64)), .one (.d (.bool))] (fun (x1, x2, _) => f_207c208 N x1 x2)
theorem s_207c208 (N : Nat) : SumOk Tryz.prog laidL 207 (S_207c208 N) := fn_x h0 (x_207c208 N) Tryz.func207 ((lookOk_cons (L_ok_207c208_0 N) lookOk_nil))
def f_196 (N : Nat) (_x1 : ByteArray) (_x2 : Int) (x3 : List (Int × Int × ByteArray)) (x4 : Int) : Option (TAs [.one (.d (.int .i64))]) :=
 ((f_207c208 N x3 x4).bind fun r5 => (bif r5.2 then (some (IntKind.i64.wrap (r5.1 + 1))) else (some r5.1)))
def S_196 (N : Nat) : Sum := fnSum 2 0 1 [zg5, .one (.d (.int .i64))] [.one (.d (.int .i64))] (fun ((x1, x2, x3), x4) => f_196 N x1 x2 x3 x4)
theorem s_196 (N : Nat) : SumOk Tryz.prog laidL 196 (S_196 N) := fn_x h0 (fk (s_207c208 N) fz) Tryz.func196 (lookOk_nil)
def f_202 (N : Nat) (x1 x2 : Int) (x3 : List Int) (x4 : Int) : Option (TAs [.one (.d (.int .i64))]) :=
 ((f_204 N x1 x2 x3 x4).bind fun r5 => (some (IntKind.i64.wrap ((IntKind.i64.wrap (x4 * 86400)) + r5))))
def S_202 (N : Nat) : Sum := fnSum 2 0 1 [zg8, .one (.d (.int .i64))] [.one (.d (.int .i64))] (fun ((x1, x2, x3), x4) => f_202 N x1 x2 x3 x4)
theorem s_202 (N : Nat) : SumOk Tryz.prog laidL 202 (S_202 N) := fn_x h0 (fk (s_204 N) fz) Tryz.func202 (lookOk_nil)
def f_223 (N : Nat) (x1 x2 x3 x4 x5 : Int) : Option (TAs [zg6]) :=
 ((f_224 N 2 x2 x3 x4 (ibits .xor .u64 x5 x1)).bind fun r6 => (some ((ibits .xor .u64 r6.1 x1), r6.2.1, r6.2.2.1, r6.2.2.2)))
def S_223 (N : Nat) : Sum := fnSum 2 1 0 [.one (.ptr 0 0), .one (.d (.int .u64)), zg6] [zg6] (fun (_, x1, (x2, x3, x4, x5)) => f_223 N x1 x2 x3 x4 x5)
theorem s_223 (N : Nat) : SumOk Tryz.prog laidL 223 (S_223 N) := fn_x h0 (fk (s_224 N) fz) Tryz.func223 (lookOk_nil)
def f_28 (N : Nat) (x1 : ByteArray) (x2 : List Int) (x3 x4 x5 x6 x7 x8 : Int) (x9 : Bool) (x10 : ByteArray) (x11 : Int) (x12 : List (Int × Int × ByteArray)) (x13 : Bool) (x14 x15 : Int) (x16 : Bool) (x17 x18 x19 x20 : Int) (x21 : List Int) (x22 : Int) : Option (TAs [.one (.d (.int .i64)), .one (.d (.int .i64))]) :=
 ((f_41 N x1 x2 x3 x4 x5 x6 x7 x8 x9 x10 x11 x12 x13 x14 x15 x16 x17 x18).bind fun r23 => (bif (!r23) then (some (0, 1)) else ((f_84 N x13 x14 x15 x22).bind fun r24 => (bif (r24.2 != 0) then (some (0, r24.2)) else ((f_85 N x3 x4 x5 x19 x20 x21 r24.1).bind fun r25 => (some (r25.1, r25.2)))))))
def S_28 (N : Nat) : Sum := fnSum 3 0 2 [zg1, zg8, .one (.d (.int .i64))] [.one (.d (.int .i64)), .one (.d (.int .i64))] (fun ((x1, x2, x3, x4, x5, x6, x7, x8, x9, x10, x11, x12, x13, x14, x15, x16, x17, x18), (x19, x20, x21), x22) => f_28 N x1 x2 x3 x4 x5 x6 x7 x8 x9 x10 x11 x12 x13 x14 x15 x16 x17 x18 x19 x20 x21 x22)
theorem s_28 (N : Nat) : SumOk Tryz.prog laidL 28 (S_28 N) := fn_x h0 (fk (s_41 N) (fk (s_84 N) (fk (s_85 N) fz))) Tryz.func28 (lookOk_nil)
def f_31 (N : Nat) (x1 : ByteArray) (x2 : List Int) (x3 x4 x5 x6 x7 x8 : Int) (x9 : Bool) (x10 : ByteArray) (x11 : Int) (x12 : List (Int × Int × ByteArray)) (x13 : Bool) (x14 x15 : Int) (x16 : Bool) (x17 x18 x19 x20 x21 x22 x23 x24 : Int) (x25 : Bool) (x26 : ByteArray) (x27 : Int) (x28 : List (Int × Int × ByteArray)) : Option (TAs [zg1, .one (.d (.int .i64))]) :=
 ((f_41 N x1 x2 x3 x4 x5 x6 x7 x8 x9 x10 x11 x12 x13 x14 x15 x16 x17 x18).bind fun r29 => (bif (!r29) then (some ((ByteArray.empty, [0, 0, 0, 0, 0, 0, 0, 0, 0, 0, 0, 0, 0, 0, 0, 0], 0, 0, 0, 0, 0, 0, false, ByteArray.empty, 0, ([] : List (Int × Int × ByteArray)), false, 0, 0, false, 0, 0), 1)) else ((f_53 N x19 x20 x21 x22 x23 x24 x25 x26 x27 x28).bind fun r30 => (bif (!r30) then (some ((ByteArray.empty, [0, 0, 0, 0, 0, 0, 0, 0, 0, 0, 0, 0, 0, 0, 0, 0], 0, 0, 0, 0, 0, 0, false, ByteArray.empty, 0, ([] : List (Int × Int × ByteArray)), false, 0, 0, false, 0, 0), 1)) else ((f_88 N x16 x17 0 x22).bind fun r31 => (bif (r31.2 != 0) then (some ((ByteArray.empty, [0, 0, 0, 0, 0, 0, 0, 0, 0, 0, 0, 0, 0, 0, 0, 0], 0, 0, 0, 0, 0, 0, false, ByteArray.empty, 0, ([] : List (Int × Int × ByteArray)), false, 0, 0, false, 0, 0), r31.2)) else (some ((x1, x2, x19, x20, x21, x22, x23, x24, x25, x26, x27, x28, x13, x14, x15, r31.1.1, r31.1.2, x18), 0))))))))
def S_31 (N : Nat) : Sum := fnSum 2 0 2 [zg1, zg3] [zg1, .one (.d (.int .i64))] (fun ((x1, x2, x3, x4, x5, x6, x7, x8, x9, x10, x11, x12, x13, x14, x15, x16, x17, x18), (x19, x20, x21, x22, x23, x24, x25, x26, x27, x28)) => f_31 N x1 x2 x3 x4 x5 x6 x7 x8 x9 x10 x11 x12 x13 x14 x15 x16 x17 x18 x19 x20 x21 x22 x23 x24 x25 x26 x27 x28)
theorem s_31 (N : Nat) : SumOk Tryz.prog laidL 31 (S_31 N) := fn_x h0 (fk (s_41 N) (fk (s_53 N) (fk (s_88 N) fz))) Tryz.func31 (lookOk_nil)
def f_34 (N : Nat) (x1 : ByteArray) (x2 : List Int) (x3 x4 x5 x6 x7 x8 : Int) (x9 : Bool) (x10 : ByteArray) (x11 : Int) (x12 : List (Int × Int × ByteArray)) (x13 : Bool) (x14 x15 : Int) (x16 : Bool) (x17 x18 x19 : Int) : Option (TAs [zg0, .one (.d (.err 129))]) :=
 ((f_22 N x1 x2 x3 x4 x5 x6 x7 x8 x9 x10 x11 x12 x13 x14 x15 x16 x17 x18).bind fun r20 => (bif (!(Option.isNone r20)) then (some ((ByteArray.empty, [0, 0, 0, 0, 0, 0, 0, 0, 0, 0, 0, 0, 0, 0, 0, 0], 0, 0, 0, 0, 0, 0, false, ByteArray.empty, 0, ([] : List (Int × Int × ByteArray)), false, 0, 0, false, 0, 0), r20)) else ((f_90 N x13 x14 x15 x19).bind fun r21 => (bif (!(Option.isNone r21.2)) then (some ((ByteArray.empty, [0, 0, 0, 0, 0, 0, 0, 0, 0, 0, 0, 0, 0, 0, 0, 0], 0, 0, 0, 0, 0, 0, false, ByteArray.empty, 0, ([] : List (Int × Int × ByteArray)), false, 0, 0, false, 0, 0), r21.2)) else ((f_75 N x1 x2 x3 x4 x5 x6 x7 x8 x9 x10 x11 x12 r21.1.1 r21.1.2.1 r21.1.2.2 x16 x17 x18).bind fun r22 => (some ((r22.1, r22.2.1, r22.2.2.1, r22.2.2.2.1, r22.2.2.2.2.1, r22.2.2.2.2.2.1, r22.2.2.2.2.2.2.1, r22.2.2.2.2.2.2.2.1, r22.2.2.2.2.2.2.2.2.1, r22.2.2.2.2.2.2.2.2.2.1, r22.2.2.2.2.2.2.2.2.2.2.1, r22.2.2.2.2.2.2.2.2.2.2.2.1, r22.2.2.2.2.2.2.2.2.2.2.2.2.1, r22.2.2.2.2.2.2.2.2.2.2.2.2.2.1, r22.2.2.2.2.2.2.2.2.2.2.2.2.2.2.1, r22.2.2.2.2.2.2.2.2.2.2.2.2.2.2.2.1, r22.2.2.2.2.2.2.2.2.2.2.2.2.2.2.2.2.1, r22.2.2.2.2.2.2.2.2.2.2.2.2.2.2.2.2.2), none)))))))
def S_34 (N : Nat) : Sum := fnSum 2 0 2 [zg1, .one (.d (.int .i64))] [zg0, .one (.d (.err 129))] (fun ((x1, x2, x3, x4, x5, x6, x7, x8, x9, x10, x11, x12, x13, x14, x15, x16, x17, x18), x19) => f_34 N x1 x2 x3 x4 x5 x6 x7 x8 x9 x10 x11 x12 x13 x14 x15 x16 x17 x18 x19)
theorem s_34 (N : Nat) : SumOk Tryz.prog laidL 34 (S_34 N) := fn_x h0 (fk (s_22 N) (fk (s_90 N) (fk (s_75 N) fz))) Tryz.func34 (lookOk_nil)
def f_35 (N : Nat) (x1 : ByteArray) (x2 : List Int) (x3 x4 x5 x6 x7 x8 : Int) (x9 : Bool) (x10 : ByteArray) (x11 : Int) (x12 : List (Int × Int × ByteArray)) (x13 : Bool) (x14 x15 : Int) (x16 : Bool) (x17 x18 x19 : Int) : Option (TAs [zg1, .one (.d (.int .i64))]) :=
 ((f_41 N x1 x2 x3 x4 x5 x6 x7 x8 x9 x10 x11 x12 x13 x14 x15 x16 x17 x18).bind fun r20 => (bif (!r20) then (some ((ByteArray.empty, [0, 0, 0, 0, 0, 0, 0, 0, 0, 0, 0, 0, 0, 0, 0, 0], 0, 0, 0, 0, 0, 0, false, ByteArray.empty, 0, ([] : List (Int × Int × ByteArray)), false, 0, 0, false, 0, 0), 1)) else ((f_91 N x13 x14 x15 x19).bind fun r21 => (bif (r21.2 != 0) then (some ((ByteArray.empty, [0, 0, 0, 0, 0, 0, 0, 0, 0, 0, 0, 0, 0, 0, 0, 0], 0, 0, 0, 0, 0, 0, false, ByteArray.empty, 0, ([] : List (Int × Int × ByteArray)), false, 0, 0, false, 0, 0), r21.2)) else (some ((x1, x2, x3, x4, x5, x6, x7, x8, x9, x10, x11, x12, r21.1.1, r21.1.2.1, r21.1.2.2, x16, x17, x18), 0))))))
def S_35 (N : Nat) : Sum := fnSum 2 0 2 [zg1, .one (.d (.int .i64))] [zg1, .one (.d (.int .i64))] (fun ((x1, x2, x3, x4, x5, x6, x7, x8, x9, x10, x11, x12, x13, x14, x15, x16, x17, x18), x19) => f_35 N x1 x2 x3 x4 x5 x6 x7 x8 x9 x10 x11 x12 x13 x14 x15 x16 x17 x18 x19)
theorem s_35 (N : Nat) : SumOk Tryz.prog laidL 35 (S_35 N) := fn_x h0 (fk (s_41 N) (fk (s_91 N) fz)) Tryz.func35 (lookOk_nil)
def f_36 (N : Nat) (x1 : ByteArray) (x2 : List Int) (x3 x4 x5 x6 x7 x8 : Int) (x9 : Bool) (x10 : ByteArray) (x11 : Int) (x12 : List (Int × Int × ByteArray)) (x13 : Bool) (x14 x15 : Int) (x16 : Bool) (x17 x18 x19 : Int) : Option (TAs [zg0, .one (.d (.err 129))]) :=
 ((f_22 N x1 x2 x3 x4 x5 x6 x7 x8 x9 x10 x11 x12 x13 x14 x15 x16 x17 x18).bind fun r20 => (bif (!(Option.isNone r20)) then (some ((ByteArray.empty, [0, 0, 0, 0, 0, 0, 0, 0, 0, 0, 0, 0, 0, 0, 0, 0], 0, 0, 0, 0, 0, 0, false, ByteArray.empty, 0, ([] : List (Int × Int × ByteArray)), false, 0, 0, false, 0, 0), r20)) else ((f_92 N x13 x14 x15 x19 x9).bind fun r21 => (bif (!(Option.isNone r21.2)) then (some ((ByteArray.empty, [0, 0, 0, 0, 0, 0, 0, 0, 0, 0, 0, 0, 0, 0, 0, 0], 0, 0, 0, 0, 0, 0, false, ByteArray.empty, 0, ([] : List (Int × Int × ByteArray)), false, 0, 0, false, 0, 0), r21.2)) else ((f_75 N x1 x2 x3 x4 x5 x6 x7 x8 x9 x10 x11 x12 r21.1.1 r21.1.2.1 r21.1.2.2 x16 x17 x18).bind fun r22 => (some ((r22.1, r22.2.1, r22.2.2.1, r22.2.2.2.1, r22.2.2.2.2.1, r22.2.2.2.2.2.1, r22.2.2.2.2.2.2.1, r22.2.2.2.2.2.2.2.1, r22.2.2.2.2.2.2.2.2.1, r22.2.2.2.2.2.2.2.2.2.1, r22.2.2.2.2.2.2.2.2.2.2.1, r22.2.2.2.2.2.2.2.2.2.2.2.1, r22.2.2.2.2.2.2.2.2.2.2.2.2.1, r22.2.2.2.2.2.2.2.2.2.2.2.2.2.1, r22.2.2.2.2.2.2.2.2.2.2.2.2.2.2.1, r22.2.2.2.2.2.2.2.2.2.2.2.2.2.2.2.1, r22.2.2.2.2.2.2.2.2.2.2.2.2.2.2.2.2.1, r22.2.2.2.2.2.2.2.2.2.2.2.2.2.2.2.2.2), none)))))))
def S_36 (N : Nat) : Sum := fnSum 2 0 2 [zg1, .one (.d (.int .i64))] [zg0, .one (.d (.err 129))] (fun ((x1, x2, x3, x4, x5, x6, x7, x8, x9, x10, x11, x12, x13, x14, x15, x16, x17, x18), x19) => f_36 N x1 x2 x3 x4 x5 x6 x7 x8 x9 x10 x11 x12 x13 x14 x15 x16 x17 x18 x19)
theorem s_36 (N : Nat) : SumOk Tryz.prog laidL 36 (S_36 N) := fn_x h0 (fk (s_22 N) (fk (s_92 N) (fk (s_75 N) fz))) Tryz.func36 (lookOk_nil)
def f_37 (N : Nat) (x1 : ByteArray) (x2 : List Int) (x3 x4 x5 x6 x7 x8 : Int) (x9 : Bool) (x10 : ByteArray) (x11 : Int) (x12 : List (Int × Int × ByteArray)) (x13 : Bool) (x14 x15 : Int) (x16 : Bool) (x17 x18 x19 : Int) : Option (TAs [zg1, .one (.d (.int .i64))]) :=
 ((f_41 N x1 x2 x3 x4 x5 x6 x7 x8 x9 x10 x11 x12 x13 x14 x15 x16 x17 x18).bind fun r20 => (bif (!r20) then (some ((ByteArray.empty, [0, 0, 0, 0, 0, 0, 0, 0, 0, 0, 0, 0, 0, 0, 0, 0], 0, 0, 0, 0, 0, 0, false, ByteArray.empty, 0, ([] : List (Int × Int × ByteArray)), false, 0, 0, false, 0, 0), 1)) else ((f_93 N x13 x14 x15 x19 x9).bind fun r21 => (bif (r21.2 != 0) then (some ((ByteArray.empty, [0, 0, 0, 0, 0, 0, 0, 0, 0, 0, 0, 0, 0, 0, 0, 0], 0, 0, 0, 0, 0, 0, false, ByteArray.empty, 0, ([] : List (Int × Int × ByteArray)), false, 0, 0, false, 0, 0), r21.2)) else (some ((x1, x2, x3, x4, x5, x6, x7, x8, x9, x10, x11, x12, r21.1.1, r21.1.2.1, r21.1.2.2, x16, x17, x18), 0))))))
def S_37 (N : Nat) : Sum := fnSum 2 0 2 [zg1, .one (.d (.int .i64))] [zg1, .one (.d (.int .i64))] (fun ((x1, x2, x3, x4, x5, x6, x7, x8, x9, x10, x11, x12, x13, x14, x15, x16, x17, x18), x19) => f_37 N x1 x2 x3 x4 x5 x6 x7 x8 x9 x10 x11 x12 x13 x14 x15 x16 x17 x18 x19)
theorem s_37 (N : Nat) : SumOk Tryz.prog laidL 37 (S_37 N) := fn_x h0 (fk (s_41 N) (fk (s_93 N) fz)) Tryz.func37 (lookOk_nil)
def f_39 (N : Nat) (x1 : ByteArray) (x2 : List Int) (x3 x4 x5 x6 x7 x8 : Int) (x9 : Bool) (x10 : ByteArray) (x11 : Int) (x12 : List (Int × Int × ByteArray)) (x13 : Bool) (x14 x15 : Int) (x16 : Bool) (x17 x18 x19 _x20 _x21 _x22 : Int) : Option (TAs [zg13, .one (.d (.int .i64))]) :=
 ((f_41 N x1 x2 x3 x4 x5 x6 x7 x8 x9 x10 x11 x12 x13 x14 x15 x16 x17 x18).bind fun r23 => (bif (!r23) then (some ((0, 0), 1)) else ((f_96 N x19 1000000000).bind fun r24 => ((f_97 N x10 x11 x12 r24.1).bind fun r25 => (some ((r25.1.1, r25.1.2), r25.2))))))
def S_39 (N : Nat) : Sum := fnSum 2 0 2 [zg1, zg7] [zg13, .one (.d (.int .i64))] (fun ((x1, x2, x3, x4, x5, x6, x7, x8, x9, x10, x11, x12, x13, x14, x15, x16, x17, x18), (x19, x20, x21, x22)) => f_39 N x1 x2 x3 x4 x5 x6 x7 x8 x9 x10 x11 x12 x13 x14 x15 x16 x17 x18 x19 x20 x21 x22)
theorem s_39 (N : Nat) : SumOk Tryz.prog laidL 39 (S_39 N) := fn_x h0 (fk (s_41 N) (fk (s_96 N) (fk (s_97 N) fz))) Tryz.func39 (lookOk_nil)
def f_151 (N : Nat) (x1 x2 : Int) (x3 : List Int) (x4 : Int) : Option (TAs [.one (.d (.int .i64)), .one (.d (.int .i64))]) :=
 ((f_118 N x1 x2).bind fun r5 => (bif (!r5) then (some (0, 1)) else ((f_96 N x4 x2).bind fun r6 => ((f_192 N x3 r6.1 (IntKind.u64.wrap x1)).bind fun r7 => (some ((IntKind.i64.wrap r7), 0))))))
def S_151 (N : Nat) : Sum := fnSum 3 0 2 [zg13, .agg [.d (.arr .u8 16)], .one (.d (.int .i64))] [.one (.d (.int .i64)), .one (.d (.int .i64))] (fun ((x1, x2), x3, x4) => f_151 N x1 x2 x3 x4)
theorem s_151 (N : Nat) : SumOk Tryz.prog laidL 151 (S_151 N) := fn_x h0 (fk (s_118 N) (fk (s_96 N) (fk (s_192 N) fz))) Tryz.func151 (lookOk_nil)
def f_162 (N : Nat) (x1 : ByteArray) (x2 : Int) (x3 : List (Int × Int × ByteArray)) (x4 : Int) : Option (TAs [.one (.d (.int .i64)), .one (.d (.str)), .one (.d (.err 129))]) :=
 ((f_109 N x1 x2 x3).bind fun r5 => (bif (!(Option.isNone r5)) then (some (0, ⟨#[]⟩, r5)) else ((f_196 N x1 x2 x3 x4).bind fun r6 => (bif (r6 == 0) then (some (x2, x1, none)) else (bif (decide (0 ≤ (IntKind.i64.wrap (r6 - 1)) ∧ (IntKind.i64.wrap (r6 - 1)) < (List.length x3 : Int))) then (bif (decide (0 ≤ (IntKind.i64.wrap (r6 - 1)) ∧ (IntKind.i64.wrap (r6 - 1)) < (List.length x3 : Int))) then (some ((List.getD x3 (Int.toNat (IntKind.i64.wrap (r6 - 1))) (0, 0, ByteArray.empty)).2.1, (List.getD x3 (Int.toNat (IntKind.i64.wrap (r6 - 1))) (0, 0, ByteArray.empty)).2.2, none)) else none) else none)))))
def S_162 (N : Nat) : Sum := fnSum 2 0 3 [zg5, .one (.d (.int .i64))] [.one (.d (.int .i64)), .one (.d (.str)), .one (.d (.err 129))] (fun ((x1, x2, x3), x4) => f_162 N x1 x2 x3 x4)
theorem s_162 (N : Nat) : SumOk Tryz.prog laidL 162 (S_162 N) := fn_x h0 (fk (s_109 N) (fk (s_196 N) fz)) Tryz.func162 (lookOk_nil)
def X_188 (N : Nat) : List (Nat × Sum) := [(187, (S_187 N)), (94, (S_94 N)), (202, (S_202 N))]
theorem x_188 (N : Nat) : FnsOk Tryz.prog laidL (X_188 N) := fk (s_187 N) (fk (s_94 N) (fk (s_202 N) fz))
def sh_188_0 : List ShA := [.one (.ptr 160 0), .one (.ptr 192 0), .one (.d (.int .i64)), .one (.d (.int .i64)), .one (.d (.int .i64)), zg8, zg9]
abbrev T_188_0 := TAs [.one (.ptr 160 0), .one (.ptr 192 0), .one (.d (.int .i64)), .one (.d (.int .i64)), .one (.d (.int .i64)), zg8, zg9]
def o_188_0 : OutK 0 T_188_0 := (outOne 0 (.exit 0) [2, 4, 7, 8, 10] [160, 192] [.one (.ptr 160 0), .one (.ptr 192 0), .one (.d (.int .i64)), .one (.d (.int .i64)), .one (.d (.int .i64)), zg8, zg9])
def b_188_0 (N : Nat) (ih : TAs sh_188_0 → Option T_188_0) : TAs sh_188_0 → Option T_188_0 := fun (_, _, y10, y11, y12, (y13, y14, y15), (y16, y17, y18)) =>
 ((f_202 N y13 y14 y15 y12).bind fun r19 => (bif (decide (y10 < r19)) then (ih ((), (), y10, y11, (IntKind.i64.wrap (y12 - 1)), (y13, y14, y15), (y16, y17, y18))) else (some (((), (), y10, y11, y12, (y13, y14, y15), (y16, y17, y18))))))
def l_188_0 (N : Nat) : TAs sh_188_0 → Option T_188_0 := iter (b_188_0 N) N
def L_188_0 (N : Nat) : LSum := loopSum [2, 4, 7, 8, 10] [160, 192] sh_188_0 o_188_0 (l_188_0 N)
theorem L_ok_188_0 (N : Nat) : SegOk Tryz.prog laidL 0 Tryz.f188.ntmps (loopAt 0 0 (bodyOf Tryz.f188)) (L_188_0 N) :=
 lp_x h0 (x_188 N) (lookOk_nil)
def f_188 (N : Nat) (x1 x2 : Int) (x3 : List Int) (x4 : Int) : Option (TAs [zg9, .one (.d (.err 129))]) :=
 ((f_187 N x1 x2 x3).bind fun r5 => (bif (!(Option.isNone r5)) then (some ((0, 0, 0), r5)) else ((f_94 N x4 1000000000).bind fun r6 => (bif (!(Option.isNone r6.2.2)) then (some ((0, 0, 0), (some 2))) else (bif (decide (x4 ≤ (-4611686018427387904))) then (some ((0, 0, 0), (some 2))) else (bif (decide (x4 ≥ 4611686018427387904)) then (some ((0, 0, 0), (some 2))) else ((f_202 N x1 x2 x3 (-50000)).bind fun r7 => (bif (decide (r6.1 < r7)) then (some ((0, 0, 0), (some 2))) else ((f_202 N x1 x2 x3 x2).bind fun r8 => (bif (decide (r6.1 ≥ r8)) then (some ((0, 0, 0), (some 10))) else ((f_94 N r6.1 86400).bind fun r9 => (bif (!(Option.isNone r9.2.2)) then (some ((0, 0, 0), r9.2.2)) else ((l_188_0 N ((), (), r6.1, r6.2.1, r9.1, (x1, x2, x3), (0, 0, 0))).bind fun q20 => ((f_202 N q20.2.2.2.2.2.1.1 q20.2.2.2.2.2.1.2.1 q20.2.2.2.2.2.1.2.2 q20.2.2.2.2.1).bind fun r21 => (some ((q20.2.2.2.2.1, (IntKind.i64.wrap (q20.2.2.1 - r21)), q20.2.2.2.1), none))))))))))))))))
def S_188 (N : Nat) : Sum := fnSum 2 0 2 [zg8, .one (.d (.int .i64))] [zg9, .one (.d (.err 129))] (fun ((x1, x2, x3), x4) => f_188 N x1 x2 x3 x4)
theorem s_188 (N : Nat) : SumOk Tryz.prog laidL 188 (S_188 N) := fn_x h0 (x_188 N) Tryz.func188 ((lookOk_cons (L_ok_188_0 N) lookOk_nil))
def X_215 (N : Nat) : List (Nat × Sum) := [(222, (S_222 N)), (223, (S_223 N)), (224, (S_224 N))]
theorem x_215 (N : Nat) : FnsOk Tryz.prog laidL (X_215 N) := fk (s_222 N) (fk (s_223 N) (fk (s_224 N) fz))
def sh_215_0 : List ShA := [.one (.d (.sl [.int .u8])), .one (.ptr 496 0), .one (.d (.int .i64)), zg6]
abbrev T_215_0 := TAs [.one (.d (.sl [.int .u8])), .one (.ptr 496 0), .one (.d (.int .i64)), zg6]
def o_215_0 : OutK 0 T_215_0 := (outOne 0 (.exit 0) [1, 7, 8] [496] [.one (.d (.sl [.int .u8])), .one (.ptr 496 0), .one (.d (.int .i64)), zg6])
def b_215_0 (N : Nat) (ih : TAs sh_215_0 → Option T_215_0) : TAs sh_215_0 → Option T_215_0 := fun (y5, _, y6, (y7, y8, y9, y10)) =>
 (bif (decide ((List.length y5 : Int) ≥ 8)) then (bif (decide (0 ≤ (8 : Int) ∧ (8 : Int) ≤ (List.length y5 : Int))) then (bif (decide (0 ≤ (0 : Int) ∧ (0 : Int) ≤ (8 : Int))) then ((f_222 N (List.drop (Int.toNat (0 : Int)) (List.take (Int.toNat (8 : Int)) y5))).bind fun r11 => ((f_223 N r11 y7 y8 y9 y10).bind fun r12 => (bif (decide (0 ≤ (List.length y5 : Int) ∧ (List.length y5 : Int) ≤ (List.length y5 : Int))) then (bif (decide (0 ≤ (8 : Int) ∧ (8 : Int) ≤ (List.length y5 : Int))) then (ih ((List.drop (Int.toNat (8 : Int)) (List.take (Int.toNat (List.length y5 : Int)) y5)), (), y6, (r12.1, r12.2.1, r12.2.2.1, r12.2.2.2))) else none) else none))) else none) else none) else (some ((y5, (), y6, (y7, y8, y9, y10)))))
def l_215_0 (N : Nat) : TAs sh_215_0 → Option T_215_0 := iter (b_215_0 N) N
def L_215_0 (N : Nat) : LSum := loopSum [1, 7, 8] [496] sh_215_0 o_215_0 (l_215_0 N)
theorem L_ok_215_0 (N : Nat) : SegOk Tryz.prog laidL 0 Tryz.f215.ntmps (loopAt 0 0 (bodyOf Tryz.f215)) (L_215_0 N) :=
 lp_x h0 (x_215 N) (lookOk_nil)
def f_215 (N : Nat) (x1 x2 : List Int) : Option (TAs [.one (.d (.int .u64))]) :=
 ((f_222 N (List.drop 0 (List.take 8 x1))).bind fun r3 => ((f_222 N (List.drop 8 (List.take 16 x1))).bind fun r4 => ((l_215_0 N (x2, (), (List.length x2 : Int), ((ibits .xor .u64 r3 8317987319222330741), (ibits .xor .u64 r4 7237128888997146477), (ibits .xor .u64 r3 7816392313619706465), (ibits .xor .u64 r4 8387220255154660723)))).bind fun q13 => (bif (decide (List.length q13.1 ≤ 8)) then ((f_222 N (List.drop 0 (List.take 8 (List.set (List.take 0 [0, 0, 0, 0, 0, 0, 0, 0] ++ (q13.1 ++ List.drop (0 + List.length q13.1) [0, 0, 0, 0, 0, 0, 0, 0])) (Int.toNat 7) (IntKind.u8.wrap q13.2.2.1))))).bind fun r14 => ((f_223 N r14 q13.2.2.2.1 q13.2.2.2.2.1 q13.2.2.2.2.2.1 q13.2.2.2.2.2.2).bind fun r15 => ((f_224 N 4 r15.1 r15.2.1 (ibits .xor .u64 r15.2.2.1 255) r15.2.2.2).bind fun r16 => (some (ibits .xor .u64 (ibits .xor .u64 (ibits .xor .u64 r16.1 r16.2.1) r16.2.2.1) r16.2.2.2))))) else none))))
def S_215 (N : Nat) : Sum := fnSum 2 0 1 [.agg [.d (.arr .u8 16)], .one (.d (.sl [.int .u8]))] [.one (.d (.int .u64))] (fun (x1, x2) => f_215 N x1 x2)
theorem s_215 (N : Nat) : SumOk Tryz.prog laidL 215 (S_215 N) := fn_x h0 (x_215 N) Tryz.func215 ((lookOk_cons (L_ok_215_0 N) lookOk_nil))
def f_80 (N : Nat) (x1 x2 : Int) (x3 : List Int) (x4 : Int) : Option (TAs [.one (.d (.int .i64)), .one (.d (.int .i64))]) :=
 ((f_151 N x1 x2 x3 x4).bind fun r5 => (bif (r5.2 != 0) then (some (0, r5.2)) else ((f_152 N x4 r5.1).bind fun r6 => (bif (r6.2 != 0) then (some (0, 2)) else (some (r6.1, 0))))))
def S_80 (N : Nat) : Sum := fnSum 3 0 2 [zg13, .agg [.d (.arr .u8 16)], .one (.d (.int .i64))] [.one (.d (.int .i64)), .one (.d (.int .i64))] (fun ((x1, x2), x3, x4) => f_80 N x1 x2 x3 x4)
theorem s_80 (N : Nat) : SumOk Tryz.prog laidL 80 (S_80 N) := fn_x h0 (fk (s_151 N) (fk (s_152 N) fz)) Tryz.func80 (lookOk_nil)
def f_95 (N : Nat) (x1 : ByteArray) (x2 : Int) (x3 : List (Int × Int × ByteArray)) (x4 : Int) : Option (TAs [zg13, .one (.d (.err 129))]) :=
 ((f_162 N x1 x2 x3 x4).bind fun r5 => (bif (!(Option.isNone r5.2.2)) then (some ((0, 0), (some 1))) else (bif (decide (x4 < (-4398046511104))) then (some ((0, 0), (some 1))) else (bif (decide (x4 > 4398046511104)) then (some ((0, 0), (some 1))) else ((f_94 N (IntKind.i64.wrap (x4 + r5.1)) 86400).bind fun r6 => (bif (!(Option.isNone r6.2.2)) then (some ((0, 0), r6.2.2)) else (some ((r6.1, r6.2.1), none))))))))
def S_95 (N : Nat) : Sum := fnSum 2 0 2 [zg5, .one (.d (.int .i64))] [zg13, .one (.d (.err 129))] (fun ((x1, x2, x3), x4) => f_95 N x1 x2 x3 x4)
theorem s_95 (N : Nat) : SumOk Tryz.prog laidL 95 (S_95 N) := fn_x h0 (fk (s_162 N) (fk (s_94 N) fz)) Tryz.func95 (lookOk_nil)
def f_148 (N : Nat) (x1 x2 : Int) (x3 : List Int) (x4 : Int) : Option (TAs [.one (.d (.int .i64)), .one (.d (.err 129))]) :=
 ((f_188 N x1 x2 x3 x4).bind fun r5 => (bif (!(Option.isNone r5.2)) then (some (0, r5.2)) else ((f_189 N x1 x2 x3 r5.1.1).bind fun r6 => (bif (!(Option.isNone r6.2)) then (some (0, r6.2)) else (some ((IntKind.i64.wrap (x4 - (IntKind.i64.wrap (r6.1 * 1000000000)))), none))))))
def S_148 (N : Nat) : Sum := fnSum 2 0 2 [zg8, .one (.d (.int .i64))] [.one (.d (.int .i64)), .one (.d (.err 129))] (fun ((x1, x2, x3), x4) => f_148 N x1 x2 x3 x4)
theorem s_148 (N : Nat) : SumOk Tryz.prog laidL 148 (S_148 N) := fn_x h0 (fk (s_188 N) (fk (s_189 N) fz)) Tryz.func148 (lookOk_nil)
def f_201 (N : Nat) (x1 : List Int) (x2 x3 : Int) : Option (TAs [.one (.d (.int .u64))]) :=
 ((f_216 N ([] : List Int) x2).bind fun r4 => ((f_215 N x1 r4).bind fun r5 => (bif ((IntKind.u64.wrap (x3 + 1)) == 0) then (some r5) else (bif (decide ((IntKind.u64.wrap (x3 + 1)) = 0)) then none else (some (Int.tmod r5 (IntKind.u64.wrap (x3 + 1))))))))
def S_201 (N : Nat) : Sum := fnSum 3 0 1 [.agg [.d (.arr .u8 16)], .one (.d (.int .i64)), .one (.d (.int .u64))] [.one (.d (.int .u64))] (fun (x1, x2, x3) => f_201 N x1 x2 x3)
theorem s_201 (N : Nat) : SumOk Tryz.prog laidL 201 (S_201 N) := fn_x h0 (fk (s_216 N) (fk (s_215 N) fz)) Tryz.func201 (lookOk_nil)
def f_27 (N : Nat) (x1 : ByteArray) (x2 : List Int) (x3 x4 x5 x6 x7 x8 : Int) (x9 : Bool) (x10 : ByteArray) (x11 : Int) (x12 : List (Int × Int × ByteArray)) (x13 : Bool) (x14 x15 : Int) (x16 : Bool) (x17 x18 x19 x20 : Int) (x21 : List Int) (x22 x23 : Int) : Option (TAs [zg7, zg1, .one (.d (.int .i64))]) :=
 ((f_41 N x1 x2 x3 x4 x5 x6 x7 x8 x9 x10 x11 x12 x13 x14 x15 x16 x17 x18).bind fun r24 => (bif (!r24) then (some ((0, 0, 0, 0), (ByteArray.empty, [0, 0, 0, 0, 0, 0, 0, 0, 0, 0, 0, 0, 0, 0, 0, 0], 0, 0, 0, 0, 0, 0, false, ByteArray.empty, 0, ([] : List (Int × Int × ByteArray)), false, 0, 0, false, 0, 0), 1)) else (bif (decide (x23 < 0)) then (some ((0, 0, 0, 0), (ByteArray.empty, [0, 0, 0, 0, 0, 0, 0, 0, 0, 0, 0, 0, 0, 0, 0, 0], 0, 0, 0, 0, 0, 0, false, ByteArray.empty, 0, ([] : List (Int × Int × ByteArray)), false, 0, 0, false, 0, 0), 1)) else (bif x13 then (some ((0, 0, 0, 0), (ByteArray.empty, [0, 0, 0, 0, 0, 0, 0, 0, 0, 0, 0, 0, 0, 0, 0, 0], 0, 0, 0, 0, 0, 0, false, ByteArray.empty, 0, ([] : List (Int × Int × ByteArray)), false, 0, 0, false, 0, 0), 16)) else ((f_28 N x1 x2 x3 x4 x5 x6 x7 x8 x9 x10 x11 x12 x13 x14 x15 x16 x17 x18 x19 x20 x21 x22).bind fun r25 => (bif (r25.2 != 0) then (some ((0, 0, 0, 0), (ByteArray.empty, [0, 0, 0, 0, 0, 0, 0, 0, 0, 0, 0, 0, 0, 0, 0, 0], 0, 0, 0, 0, 0, 0, false, ByteArray.empty, 0, ([] : List (Int × Int × ByteArray)), false, 0, 0, false, 0, 0), r25.2)) else ((f_80 N x7 x8 x2 r25.1).bind fun r26 => (bif (r26.2 != 0) then (some ((0, 0, 0, 0), (ByteArray.empty, [0, 0, 0, 0, 0, 0, 0, 0, 0, 0, 0, 0, 0, 0, 0, 0], 0, 0, 0, 0, 0, 0, false, ByteArray.empty, 0, ([] : List (Int × Int × ByteArray)), false, 0, 0, false, 0, 0), r26.2)) else ((f_81 N r26.1 x6).bind fun r27 => (bif (r27.2 != 0) then (some ((0, 0, 0, 0), (ByteArray.empty, [0, 0, 0, 0, 0, 0, 0, 0, 0, 0, 0, 0, 0, 0, 0, 0], 0, 0, 0, 0, 0, 0, false, ByteArray.empty, 0, ([] : List (Int × Int × ByteArray)), false, 0, 0, false, 0, 0), r27.2)) else ((f_82 N x23 x7).bind fun r28 => ((f_82 N r28 (IntKind.i64.wrap (x6 - 1))).bind fun r29 => (bif (x3 == 0) then ((f_82 N r29 1000000000).bind fun r30 => (some ((r27.1, r30, 0, x23), (x1, x2, x3, x4, x5, x6, x7, x8, x9, x10, x11, x12, x13, x14, x15, x16, x17, x18), 0))) else ((f_83 N x16 x17 r27.1).bind fun r31 => ((f_82 N r29 r31.2.1).bind fun r32 => (some ((r31.1, r32, r31.2.1, x23), (x1, x2, x3, x4, x5, x6, x7, x8, x9, x10, x11, x12, x13, x14, x15, r31.2.2.1, r31.2.2.2, x18), 0)))))))))))))))))
def S_27 (N : Nat) : Sum := fnSum 4 0 3 [zg1, zg8, .one (.d (.int .i64)), .one (.d (.int .i64))] [zg7, zg1, .one (.d (.int .i64))] (fun ((x1, x2, x3, x4, x5, x6, x7, x8, x9, x10, x11, x12, x13, x14, x15, x16, x17, x18), (x19, x20, x21), x22, x23) => f_27 N x1 x2 x3 x4 x5 x6 x7 x8 x9 x10 x11 x12 x13 x14 x15 x16 x17 x18 x19 x20 x21 x22 x23)
theorem s_27 (N : Nat) : SumOk Tryz.prog laidL 27 (S_27 N) := fn_x h0 (fk (s_41 N) (fk (s_28 N) (fk (s_80 N) (fk (s_81 N) (fk (s_82 N) (fk (s_83 N) fz)))))) Tryz.func27 (lookOk_nil)
def f_38 (N : Nat) (x1 : ByteArray) (x2 : List Int) (x3 x4 x5 x6 x7 x8 : Int) (x9 : Bool) (x10 : ByteArray) (x11 : Int) (x12 : List (Int × Int × ByteArray)) (x13 : Bool) (x14 x15 : Int) (x16 : Bool) (x17 x18 x19 _x20 _x21 _x22 : Int) : Option (TAs [zg13, .one (.d (.err 129))]) :=
 ((f_22 N x1 x2 x3 x4 x5 x6 x7 x8 x9 x10 x11 x12 x13 x14 x15 x16 x17 x18).bind fun r23 => (bif (!(Option.isNone r23)) then (some ((0, 0), r23)) else ((f_94 N x19 1000000000).bind fun r24 => (bif (!(Option.isNone r24.2.2)) then (some ((0, 0), r24.2.2)) else ((f_95 N x10 x11 x12 r24.1).bind fun r25 => (some ((r25.1.1, r25.1.2), r25.2)))))))
def S_38 (N : Nat) : Sum := fnSum 2 0 2 [zg1, zg7] [zg13, .one (.d (.err 129))] (fun ((x1, x2, x3, x4, x5, x6, x7, x8, x9, x10, x11, x12, x13, x14, x15, x16, x17, x18), (x19, x20, x21, x22)) => f_38 N x1 x2 x3 x4 x5 x6 x7 x8 x9 x10 x11 x12 x13 x14 x15 x16 x17 x18 x19 x20 x21 x22)
theorem s_38 (N : Nat) : SumOk Tryz.prog laidL 38 (S_38 N) := fn_x h0 (fk (s_22 N) (fk (s_94 N) (fk (s_95 N) fz))) Tryz.func38 (lookOk_nil)
def X_79 (N : Nat) : List (Nat × Sum) := [(147, (S_147 N)), (148, (S_148 N)), (149, (S_149 N)), (150, (S_150 N))]
theorem x_79 (N : Nat) : FnsOk Tryz.prog laidL (X_79 N) := fk (s_147 N) (fk (s_148 N) (fk (s_149 N) (fk (s_150 N) fz)))
def sh_79_0 : List ShA := [.one (.d (.int .i64)), .one (.ptr 176 0), .one (.ptr 192 0), .one (.d (.int .i64)), .one (.d (.int .i64)), .one (.d (.int .i64)), zg9, zg8]
abbrev T_79_0 := ((TAs [.one (.d (.int .i64)), .one (.d (.err 129))]) ⊕ (TAs [.one (.d (.int .i64))]))
def o_79_0 : OutK 0 T_79_0 := (outTwo (outOne 0 .ret [6, 7] [] [.one (.d (.int .i64)), .one (.d (.err 129))]) (outOne 0 (.exit 0) [9] [] [.one (.d (.int .i64))]))
def b_79_0 (N : Nat) (ih : TAs sh_79_0 → Option T_79_0) : TAs sh_79_0 → Option T_79_0 := fun (y10, _, _, y11, y12, y13, (y14, y15, y16), (y17, y18, y19)) =>
 (bif (decide (y13 < y12)) then ((f_149 N y14 y15 y16 y17 y18 y19 y13).bind fun r20 => (bif (decide (y10 < (IntKind.i64.wrap (r20.1 * 1000000000)))) then (ih (y10, (), (), y11, y12, (IntKind.i64.wrap (y13 + 1)), (y14, y15, y16), (y17, y18, y19))) else (bif (decide (y10 ≥ (IntKind.i64.wrap (r20.2 * 1000000000)))) then (ih (y10, (), (), y11, y12, (IntKind.i64.wrap (y13 + 1)), (y14, y15, y16), (y17, y18, y19))) else ((f_150 N y14 y15 y16 (IntKind.i64.wrap (y10 - (IntKind.i64.wrap (r20.1 * 1000000000))))).bind fun r21 => (bif (!(Option.isNone r21.2)) then (some (.inl (0, r21.2))) else (some (.inl ((IntKind.i64.wrap ((IntKind.i64.wrap (y10 - (IntKind.i64.wrap ((IntKind.i64.wrap (y17 + y13)) * 1000000000)))) - r21.1)), none)))))))) else (some (.inr y11)))
def l_79_0 (N : Nat) : TAs sh_79_0 → Option T_79_0 := iter (b_79_0 N) N
def L_79_0 (N : Nat) : LSum := loopSum [2, 3, 4, 9, 39, 40] [176, 192] sh_79_0 o_79_0 (l_79_0 N)
theorem L_ok_79_0 (N : Nat) : SegOk Tryz.prog laidL 0 Tryz.f79.ntmps (loopAt 0 0 (bodyOf Tryz.f79)) (L_79_0 N) :=
 lp_x h0 (x_79 N) (lookOk_nil)
def f_79 (N : Nat) (x1 x2 x3 x4 x5 : Int) (x6 : List Int) (x7 : Int) : Option (TAs [.one (.d (.int .i64)), .one (.d (.err 129))]) :=
 ((f_147 N x1 x2 x3 x4 x5 x6).bind fun r8 => (bif (!(Option.isNone r8)) then (some (0, r8)) else ((f_148 N x4 x5 x6 x7).bind fun r9 => (bif (!(Option.isNone r9.2)) then (some (r9.1, r9.2)) else (bif (x1 == 0) then (some (r9.1, r9.2)) else ((l_79_0 N (x7, (), (), r9.1, (List.length x6 : Int), 0, (x1, x2, x3), (x4, x5, x6))).bind fun q => (match q with | .inl q22 => (some (q22.1, q22.2)) | .inr q23 => (some (q23, none)))))))))
def S_79 (N : Nat) : Sum := fnSum 3 0 2 [zg9, zg8, .one (.d (.int .i64))] [.one (.d (.int .i64)), .one (.d (.err 129))] (fun ((x1, x2, x3), (x4, x5, x6), x7) => f_79 N x1 x2 x3 x4 x5 x6 x7)
theorem s_79 (N : Nat) : SumOk Tryz.prog laidL 79 (S_79 N) := fn_x h0 (x_79 N) Tryz.func79 ((lookOk_cons (L_ok_79_0 N) lookOk_nil))
def f_184 (N : Nat) (x1 x2 : Int) (x3 : List Int) (x4 : Int) : Option (TAs [.one (.d (.int .i64)), .one (.d (.err 129))]) :=
 ((f_108 N x1 x2).bind fun r5 => (bif (!(Option.isNone r5)) then (some (0, r5)) else ((f_94 N x4 x2).bind fun r6 => (bif (!(Option.isNone r6.2.2)) then (some (0, r6.2.2)) else ((f_201 N x3 r6.1 (IntKind.u64.wrap x1)).bind fun r7 => (some ((IntKind.i64.wrap r7), none)))))))
def S_184 (N : Nat) : Sum := fnSum 3 0 2 [zg13, .agg [.d (.arr .u8 16)], .one (.d (.int .i64))] [.one (.d (.int .i64)), .one (.d (.err 129))] (fun ((x1, x2), x3, x4) => f_184 N x1 x2 x3 x4)
theorem s_184 (N : Nat) : SumOk Tryz.prog laidL 184 (S_184 N) := fn_x h0 (fk (s_108 N) (fk (s_94 N) (fk (s_201 N) fz))) Tryz.func184 (lookOk_nil)
def f_25 (N : Nat) (x1 : ByteArray) (x2 : List Int) (x3 x4 x5 x6 x7 x8 : Int) (x9 : Bool) (x10 : ByteArray) (x11 : Int) (x12 : List (Int × Int × ByteArray)) (x13 : Bool) (x14 x15 : Int) (x16 : Bool) (x17 x18 x19 x20 : Int) (x21 : List Int) (x22 : Int) : Option (TAs [.one (.d (.int .i64)), .one (.d (.err 129))]) :=
 ((f_22 N x1 x2 x3 x4 x5 x6 x7 x8 x9 x10 x11 x12 x13 x14 x15 x16 x17 x18).bind fun r23 => (bif (!(Option.isNone r23)) then (some (0, r23)) else ((f_78 N x13 x14 x15 x22).bind fun r24 => (bif (!(Option.isNone r24.2)) then (some (0, r24.2)) else ((f_79 N x3 x4 x5 x19 x20 x21 r24.1).bind fun r25 => (some (r25.1, r25.2)))))))
def S_25 (N : Nat) : Sum := fnSum 3 0 2 [zg1, zg8, .one (.d (.int .i64))] [.one (.d (.int .i64)), .one (.d (.err 129))] (fun ((x1, x2, x3, x4, x5, x6, x7, x8, x9, x10, x11, x12, x13, x14, x15, x16, x17, x18), (x19, x20, x21), x22) => f_25 N x1 x2 x3 x4 x5 x6 x7 x8 x9 x10 x11 x12 x13 x14 x15 x16 x17 x18 x19 x20 x21 x22)
theorem s_25 (N : Nat) : SumOk Tryz.prog laidL 25 (S_25 N) := fn_x h0 (fk (s_22 N) (fk (s_78 N) (fk (s_79 N) fz))) Tryz.func25 (lookOk_nil)
def f_143 (N : Nat) (x1 x2 : Int) (x3 : List Int) (x4 : Int) : Option (TAs [.one (.d (.int .i64)), .one (.d (.err 129))]) :=
 ((f_184 N x1 x2 x3 x4).bind fun r5 => (bif (!(Option.isNone r5.2)) then (some (0, r5.2)) else ((f_114 N x4 r5.1).bind fun r6 => (some (r6.1, r6.2)))))
def S_143 (N : Nat) : Sum := fnSum 3 0 2 [zg13, .agg [.d (.arr .u8 16)], .one (.d (.int .i64))] [.one (.d (.int .i64)), .one (.d (.err 129))] (fun ((x1, x2), x3, x4) => f_143 N x1 x2 x3 x4)
theorem s_143 (N : Nat) : SumOk Tryz.prog laidL 143 (S_143 N) := fn_x h0 (fk (s_184 N) (fk (s_114 N) fz)) Tryz.func143 (lookOk_nil)
def f_74 (N : Nat) (_x1 : ByteArray) (x2 : List Int) (_x3 _x4 _x5 x6 x7 x8 : Int) (_x9 : Bool) (_x10 : ByteArray) (_x11 : Int) (_x12 : List (Int × Int × ByteArray)) (_x13 : Bool) (_x14 _x15 : Int) (_x16 : Bool) (_x17 _x18 x19 : Int) : Option (TAs [.one (.d (.int .i64)), .one (.d (.err 129))]) :=
 ((f_143 N x7 x8 x2 x19).bind fun r20 => (bif (!(Option.isNone r20.2)) then (some (0, r20.2)) else ((f_144 N r20.1 x6).bind fun r21 => (some (r21.1, r21.2)))))
def S_74 (N : Nat) : Sum := fnSum 2 0 2 [zg1, .one (.d (.int .i64))] [.one (.d (.int .i64)), .one (.d (.err 129))] (fun ((x1, x2, x3, x4, x5, x6, x7, x8, x9, x10, x11, x12, x13, x14, x15, x16, x17, x18), x19) => f_74 N x1 x2 x3 x4 x5 x6 x7 x8 x9 x10 x11 x12 x13 x14 x15 x16 x17 x18 x19)
theorem s_74 (N : Nat) : SumOk Tryz.prog laidL 74 (S_74 N) := fn_x h0 (fk (s_143 N) (fk (s_144 N) fz)) Tryz.func74 (lookOk_nil)
def f_24 (N : Nat) (x1 : ByteArray) (x2 : List Int) (x3 x4 x5 x6 x7 x8 : Int) (x9 : Bool) (x10 : ByteArray) (x11 : Int) (x12 : List (Int × Int × ByteArray)) (x13 : Bool) (x14 x15 : Int) (x16 : Bool) (x17 x18 x19 x20 : Int) (x21 : List Int) (x22 x23 : Int) : Option (TAs [zg7, zg0, .one (.d (.err 129))]) :=
 ((f_22 N x1 x2 x3 x4 x5 x6 x7 x8 x9 x10 x11 x12 x13 x14 x15 x16 x17 x18).bind fun r24 => (bif (!(Option.isNone r24)) then (some ((0, 0, 0, 0), (ByteArray.empty, [0, 0, 0, 0, 0, 0, 0, 0, 0, 0, 0, 0, 0, 0, 0, 0], 0, 0, 0, 0, 0, 0, false, ByteArray.empty, 0, ([] : List (Int × Int × ByteArray)), false, 0, 0, false, 0, 0), (some 1))) else (bif (decide (x23 < 0)) then (some ((0, 0, 0, 0), (ByteArray.empty, [0, 0, 0, 0, 0, 0, 0, 0, 0, 0, 0, 0, 0, 0, 0, 0], 0, 0, 0, 0, 0, 0, false, ByteArray.empty, 0, ([] : List (Int × Int × ByteArray)), false, 0, 0, false, 0, 0), (some 1))) else (bif x13 then (some ((0, 0, 0, 0), (ByteArray.empty, [0, 0, 0, 0, 0, 0, 0, 0, 0, 0, 0, 0, 0, 0, 0, 0], 0, 0, 0, 0, 0, 0, false, ByteArray.empty, 0, ([] : List (Int × Int × ByteArray)), false, 0, 0, false, 0, 0), (some 16))) else ((f_25 N x1 x2 x3 x4 x5 x6 x7 x8 x9 x10 x11 x12 x13 x14 x15 x16 x17 x18 x19 x20 x21 x22).bind fun r25 => (bif (!(Option.isNone r25.2)) then (some ((0, 0, 0, 0), (ByteArray.empty, [0, 0, 0, 0, 0, 0, 0, 0, 0, 0, 0, 0, 0, 0, 0, 0], 0, 0, 0, 0, 0, 0, false, ByteArray.empty, 0, ([] : List (Int × Int × ByteArray)), false, 0, 0, false, 0, 0), r25.2)) else ((f_74 N x1 x2 x3 x4 x5 x6 x7 x8 x9 x10 x11 x12 x13 x14 x15 x16 x17 x18 r25.1).bind fun r26 => (bif (!(Option.isNone r26.2)) then (some ((0, 0, 0, 0), (ByteArray.empty, [0, 0, 0, 0, 0, 0, 0, 0, 0, 0, 0, 0, 0, 0, 0, 0], 0, 0, 0, 0, 0, 0, false, ByteArray.empty, 0, ([] : List (Int × Int × ByteArray)), false, 0, 0, false, 0, 0), r26.2)) else ((f_75 N x1 x2 x3 x4 x5 x6 x7 x8 x9 x10 x11 x12 x13 x14 x15 x16 x17 x18).bind fun r27 => (bif (x3 != 0) then ((f_76 N x16 x17 r26.1).bind fun r28 => ((f_77 N x1 x2 x3 x4 x5 x6 x7 x8 x9 x10 x11 x12 x13 x14 x15 x16 x17 x18 x23 r28.2.1).bind fun r29 => (some ((r28.1, r29, r28.2.1, x23), (r27.1, r27.2.1, r27.2.2.1, r27.2.2.2.1, r27.2.2.2.2.1, r27.2.2.2.2.2.1, r27.2.2.2.2.2.2.1, r27.2.2.2.2.2.2.2.1, r27.2.2.2.2.2.2.2.2.1, r27.2.2.2.2.2.2.2.2.2.1, r27.2.2.2.2.2.2.2.2.2.2.1, r27.2.2.2.2.2.2.2.2.2.2.2.1, r27.2.2.2.2.2.2.2.2.2.2.2.2.1, r27.2.2.2.2.2.2.2.2.2.2.2.2.2.1, r27.2.2.2.2.2.2.2.2.2.2.2.2.2.2.1, r28.2.2.1, r28.2.2.2, r27.2.2.2.2.2.2.2.2.2.2.2.2.2.2.2.2.2), none)))) else ((f_77 N x1 x2 x3 x4 x5 x6 x7 x8 x9 x10 x11 x12 x13 x14 x15 x16 x17 x18 x23 0).bind fun r30 => (some ((r26.1, r30, 0, x23), (r27.1, r27.2.1, r27.2.2.1, r27.2.2.2.1, r27.2.2.2.2.1, r27.2.2.2.2.2.1, r27.2.2.2.2.2.2.1, r27.2.2.2.2.2.2.2.1, r27.2.2.2.2.2.2.2.2.1, r27.2.2.2.2.2.2.2.2.2.1, r27.2.2.2.2.2.2.2.2.2.2.1, r27.2.2.2.2.2.2.2.2.2.2.2.1, r27.2.2.2.2.2.2.2.2.2.2.2.2.1, r27.2.2.2.2.2.2.2.2.2.2.2.2.2.1, r27.2.2.2.2.2.2.2.2.2.2.2.2.2.2.1, r27.2.2.2.2.2.2.2.2.2.2.2.2.2.2.2.1, r27.2.2.2.2.2.2.2.2.2.2.2.2.2.2.2.2.1, r27.2.2.2.2.2.2.2.2.2.2.2.2.2.2.2.2.2), none)))))))))))))
def S_24 (N : Nat) : Sum := fnSum 4 0 3 [zg1, zg8, .one (.d (.int .i64)), .one (.d (.int .i64))] [zg7, zg0, .one (.d (.err 129))] (fun ((x1, x2, x3, x4, x5, x6, x7, x8, x9, x10, x11, x12, x13, x14, x15, x16, x17, x18), (x19, x20, x21), x22, x23) => f_24 N x1 x2 x3 x4 x5 x6 x7 x8 x9 x10 x11 x12 x13 x14 x15 x16 x17 x18 x19 x20 x21 x22 x23)
theorem s_24 (N : Nat) : SumOk Tryz.prog laidL 24 (S_24 N) := fn_x h0 (fk (s_22 N) (fk (s_25 N) (fk (s_74 N) (fk (s_75 N) (fk (s_76 N) (fk (s_77 N) fz)))))) Tryz.func24 (lookOk_nil)
def f_23 (N : Nat) : Option (TAs [.one (.d (.bool))]) :=
 ((f_47 N).bind fun r1 => ((f_40 N (⟨#[97]⟩) [0, 0, 0, 0, 0, 0, 0, 0, 0, 0, 0, 0, 0, 0, 0, 0] r1.1 r1.2.1 r1.2.2.1 r1.2.2.2.1 r1.2.2.2.2.1 r1.2.2.2.2.2.1 r1.2.2.2.2.2.2.1 r1.2.2.2.2.2.2.2.1 r1.2.2.2.2.2.2.2.2.1 r1.2.2.2.2.2.2.2.2.2).bind fun r2 => ((f_73 N).bind fun r3 => ((f_24 N r2.1.1 r2.1.2.1 r2.1.2.2.1 r2.1.2.2.2.1 r2.1.2.2.2.2.1 r2.1.2.2.2.2.2.1 r2.1.2.2.2.2.2.2.1 r2.1.2.2.2.2.2.2.2.1 r2.1.2.2.2.2.2.2.2.2.1 r2.1.2.2.2.2.2.2.2.2.2.1 r2.1.2.2.2.2.2.2.2.2.2.2.1 r2.1.2.2.2.2.2.2.2.2.2.2.2.1 r2.1.2.2.2.2.2.2.2.2.2.2.2.2.1 r2.1.2.2.2.2.2.2.2.2.2.2.2.2.2.1 r2.1.2.2.2.2.2.2.2.2.2.2.2.2.2.2.1 r2.1.2.2.2.2.2.2.2.2.2.2.2.2.2.2.2.1 r2.1.2.2.2.2.2.2.2.2.2.2.2.2.2.2.2.2.1 r2.1.2.2.2.2.2.2.2.2.2.2.2.2.2.2.2.2.2 r3.1 r3.2.1 r3.2.2 50000000000 7).bind fun r4 => ((f_73 N).bind fun r5 => ((f_24 N ByteArray.empty [0, 0, 0, 0, 0, 0, 0, 0, 0, 0, 0, 0, 0, 0, 0, 0] 0 0 0 0 0 0 false ByteArray.empty 0 ([] : List (Int × Int × ByteArray)) false 0 0 false 0 0 r5.1 r5.2.1 r5.2.2 0 0).bind fun r6 => ((f_38 N r2.1.1 r2.1.2.1 r2.1.2.2.1 r2.1.2.2.2.1 r2.1.2.2.2.2.1 r2.1.2.2.2.2.2.1 r2.1.2.2.2.2.2.2.1 r2.1.2.2.2.2.2.2.2.1 r2.1.2.2.2.2.2.2.2.2.1 r2.1.2.2.2.2.2.2.2.2.2.1 r2.1.2.2.2.2.2.2.2.2.2.2.1 r2.1.2.2.2.2.2.2.2.2.2.2.2.1 r2.1.2.2.2.2.2.2.2.2.2.2.2.2.1 r2.1.2.2.2.2.2.2.2.2.2.2.2.2.2.1 r2.1.2.2.2.2.2.2.2.2.2.2.2.2.2.2.1 r2.1.2.2.2.2.2.2.2.2.2.2.2.2.2.2.2.1 r2.1.2.2.2.2.2.2.2.2.2.2.2.2.2.2.2.2.1 r2.1.2.2.2.2.2.2.2.2.2.2.2.2.2.2.2.2.2 r4.1.1 r4.1.2.1 r4.1.2.2.1 r4.1.2.2.2).bind fun r7 => ((f_73 N).bind fun r8 => ((f_25 N r2.1.1 r2.1.2.1 r2.1.2.2.1 r2.1.2.2.2.1 r2.1.2.2.2.2.1 r2.1.2.2.2.2.2.1 r2.1.2.2.2.2.2.2.1 r2.1.2.2.2.2.2.2.2.1 r2.1.2.2.2.2.2.2.2.2.1 r2.1.2.2.2.2.2.2.2.2.2.1 r2.1.2.2.2.2.2.2.2.2.2.2.1 r2.1.2.2.2.2.2.2.2.2.2.2.2.1 r2.1.2.2.2.2.2.2.2.2.2.2.2.2.1 r2.1.2.2.2.2.2.2.2.2.2.2.2.2.2.1 r2.1.2.2.2.2.2.2.2.2.2.2.2.2.2.2.1 r2.1.2.2.2.2.2.2.2.2.2.2.2.2.2.2.2.1 r2.1.2.2.2.2.2.2.2.2.2.2.2.2.2.2.2.2.1 r2.1.2.2.2.2.2.2.2.2.2.2.2.2.2.2.2.2.2 r8.1 r8.2.1 r8.2.2 50000000000).bind fun r9 => (bif (Option.isNone r2.2) then (bif (Option.isNone r4.2.2) then (bif (Option.isNone r7.2) then (bif (Option.isNone r9.2) then (bif ((r4.1.1 == 40000000000) && ((r4.1.2.1 == 1000000007) && ((r4.1.2.2.1 == 0) && (r4.1.2.2.2 == 7)))) then (bif ((ByteArray.toList r4.2.1.1) == (ByteArray.toList (⟨#[97]⟩ : ByteArray))) then ((f_33 N r6.2.2).bind fun r10 => (bif (r10 == 1) then (bif ((r7.1.1 == 0) && (r7.1.2 == 40)) then (some (r9.1 == 40000000000)) else (some false)) else (some false))) else (some false)) else (some false)) else (some false)) else (some false)) else (some false)) else (some false)))))))))))
def S_23 (N : Nat) : Sum := fnSum 0 0 1 [] [.one (.d (.bool))] (fun _ => f_23 N)
theorem s_23 (N : Nat) : SumOk Tryz.prog laidL 23 (S_23 N) := fn_x h0 (fk (s_47 N) (fk (s_40 N) (fk (s_73 N) (fk (s_24 N) (fk (s_38 N) (fk (s_25 N) (fk (s_33 N) fz))))))) Tryz.func23 (lookOk_nil)
def f_5 (N : Nat) (x1 : ByteArray) (x2 : List Int) (x3 x4 x5 x6 x7 x8 : Int) (x9 : Bool) (x10 : ByteArray) (x11 : Int) (x12 : List (Int × Int × ByteArray)) (x13 : Bool) (x14 x15 : Int) (x16 : Bool) (x17 x18 x19 x20 : Int) (x21 : List Int) (x22 x23 x24 x25 x26 x27 x28 x29 : Int) (x30 : Bool) (x31 : ByteArray) (x32 : Int) (x33 : List (Int × Int × ByteArray)) (_x34 : Int) : Option (TAs [.one (.d (.bool))]) :=
 ((f_21 N x1 x2 x3 x4 x5 x6 x7 x8 x9 x10 x11 x12 x13 x14 x15 x16 x17 x18).bind fun r35 => (bif r35 then ((f_23 N).bind fun r36 => (some r36)) else ((f_26 N x31 x32 x33).bind fun r37 => (bif r37 then ((f_23 N).bind fun r38 => (some r38)) else (bif (decide ((List.length x21 : Int) > 40)) then ((f_23 N).bind fun r39 => (some r39)) else ((f_20 N x1 x2 x3 x4 x5 x6 x7 x8 x9 x10 x11 x12 x13 x14 x15 x16 x17 x18).bind fun r40 => ((f_24 N r40.1 r40.2.1 r40.2.2.1 r40.2.2.2.1 r40.2.2.2.2.1 r40.2.2.2.2.2.1 r40.2.2.2.2.2.2.1 r40.2.2.2.2.2.2.2.1 r40.2.2.2.2.2.2.2.2.1 r40.2.2.2.2.2.2.2.2.2.1 r40.2.2.2.2.2.2.2.2.2.2.1 r40.2.2.2.2.2.2.2.2.2.2.2.1 r40.2.2.2.2.2.2.2.2.2.2.2.2.1 r40.2.2.2.2.2.2.2.2.2.2.2.2.2.1 r40.2.2.2.2.2.2.2.2.2.2.2.2.2.2.1 r40.2.2.2.2.2.2.2.2.2.2.2.2.2.2.2.1 r40.2.2.2.2.2.2.2.2.2.2.2.2.2.2.2.2.1 r40.2.2.2.2.2.2.2.2.2.2.2.2.2.2.2.2.2 x19 x20 x21 x22 x23).bind fun r41 => ((f_27 N x1 x2 x3 x4 x5 x6 x7 x8 x9 x10 x11 x12 x13 x14 x15 x16 x17 x18 x19 x20 x21 x22 x23).bind fun r42 => ((f_25 N r40.1 r40.2.1 r40.2.2.1 r40.2.2.2.1 r40.2.2.2.2.1 r40.2.2.2.2.2.1 r40.2.2.2.2.2.2.1 r40.2.2.2.2.2.2.2.1 r40.2.2.2.2.2.2.2.2.1 r40.2.2.2.2.2.2.2.2.2.1 r40.2.2.2.2.2.2.2.2.2.2.1 r40.2.2.2.2.2.2.2.2.2.2.2.1 r40.2.2.2.2.2.2.2.2.2.2.2.2.1 r40.2.2.2.2.2.2.2.2.2.2.2.2.2.1 r40.2.2.2.2.2.2.2.2.2.2.2.2.2.2.1 r40.2.2.2.2.2.2.2.2.2.2.2.2.2.2.2.1 r40.2.2.2.2.2.2.2.2.2.2.2.2.2.2.2.2.1 r40.2.2.2.2.2.2.2.2.2.2.2.2.2.2.2.2.2 x19 x20 x21 x22).bind fun r43 => ((f_28 N x1 x2 x3 x4 x5 x6 x7 x8 x9 x10 x11 x12 x13 x14 x15 x16 x17 x18 x19 x20 x21 x22).bind fun r44 => ((f_30 N x24 x25 x26 x27 x28 x29 x30 x31 x32 x33).bind fun r45 => ((f_29 N r40.1 r40.2.1 r40.2.2.1 r40.2.2.2.1 r40.2.2.2.2.1 r40.2.2.2.2.2.1 r40.2.2.2.2.2.2.1 r40.2.2.2.2.2.2.2.1 r40.2.2.2.2.2.2.2.2.1 r40.2.2.2.2.2.2.2.2.2.1 r40.2.2.2.2.2.2.2.2.2.2.1 r40.2.2.2.2.2.2.2.2.2.2.2.1 r40.2.2.2.2.2.2.2.2.2.2.2.2.1 r40.2.2.2.2.2.2.2.2.2.2.2.2.2.1 r40.2.2.2.2.2.2.2.2.2.2.2.2.2.2.1 r40.2.2.2.2.2.2.2.2.2.2.2.2.2.2.2.1 r40.2.2.2.2.2.2.2.2.2.2.2.2.2.2.2.2.1 r40.2.2.2.2.2.2.2.2.2.2.2.2.2.2.2.2.2 r45.1 r45.2.1 r45.2.2.1 r45.2.2.2.1 r45.2.2.2.2.1 r45.2.2.2.2.2.1 r45.2.2.2.2.2.2.1 r45.2.2.2.2.2.2.2.1 r45.2.2.2.2.2.2.2.2.1 r45.2.2.2.2.2.2.2.2.2).bind fun r46 => ((f_31 N x1 x2 x3 x4 x5 x6 x7 x8 x9 x10 x11 x12 x13 x14 x15 x16 x17 x18 x24 x25 x26 x27 x28 x29 x30 x31 x32 x33).bind fun r47 => (bif (!((r41.1.1 == r42.1.1) && ((r41.1.2.1 == r42.1.2.1) && ((r41.1.2.2.1 == r42.1.2.2.1) && (r41.1.2.2.2 == r42.1.2.2.2))))) then (some false) else ((f_32 N r41.2.1.1 r41.2.1.2.1 r41.2.1.2.2.1 r41.2.1.2.2.2.1 r41.2.1.2.2.2.2.1 r41.2.1.2.2.2.2.2.1 r41.2.1.2.2.2.2.2.2.1 r41.2.1.2.2.2.2.2.2.2.1 r41.2.1.2.2.2.2.2.2.2.2.1 r41.2.1.2.2.2.2.2.2.2.2.2.1 r41.2.1.2.2.2.2.2.2.2.2.2.2.1 r41.2.1.2.2.2.2.2.2.2.2.2.2.2.1 r41.2.1.2.2.2.2.2.2.2.2.2.2.2.2.1 r41.2.1.2.2.2.2.2.2.2.2.2.2.2.2.2.1 r41.2.1.2.2.2.2.2.2.2.2.2.2.2.2.2.2.1 r41.2.1.2.2.2.2.2.2.2.2.2.2.2.2.2.2.2.1 r41.2.1.2.2.2.2.2.2.2.2.2.2.2.2.2.2.2.2.1 r41.2.1.2.2.2.2.2.2.2.2.2.2.2.2.2.2.2.2.2 r42.2.1.1 r42.2.1.2.1 r42.2.1.2.2.1 r42.2.1.2.2.2.1 r42.2.1.2.2.2.2.1 r42.2.1.2.2.2.2.2.1 r42.2.1.2.2.2.2.2.2.1 r42.2.1.2.2.2.2.2.2.2.1 r42.2.1.2.2.2.2.2.2.2.2.1 r42.2.1.2.2.2.2.2.2.2.2.2.1 r42.2.1.2.2.2.2.2.2.2.2.2.2.1 r42.2.1.2.2.2.2.2.2.2.2.2.2.2.1 r42.2.1.2.2.2.2.2.2.2.2.2.2.2.2.1 r42.2.1.2.2.2.2.2.2.2.2.2.2.2.2.2.1 r42.2.1.2.2.2.2.2.2.2.2.2.2.2.2.2.2.1 r42.2.1.2.2.2.2.2.2.2.2.2.2.2.2.2.2.2.1 r42.2.1.2.2.2.2.2.2.2.2.2.2.2.2.2.2.2.2.1 r42.2.1.2.2.2.2.2.2.2.2.2.2.2.2.2.2.2.2.2).bind fun r48 => (bif (!r48) then (some false) else ((f_33 N r41.2.2).bind fun r49 => (bif (r49 != r42.2.2) then (some false) else (bif (r43.1 != r44.1) then (some false) else ((f_33 N r43.2).bind fun r50 => (bif (r50 != r44.2) then (some false) else ((f_32 N r46.1.1 r46.1.2.1 r46.1.2.2.1 r46.1.2.2.2.1 r46.1.2.2.2.2.1 r46.1.2.2.2.2.2.1 r46.1.2.2.2.2.2.2.1 r46.1.2.2.2.2.2.2.2.1 r46.1.2.2.2.2.2.2.2.2.1 r46.1.2.2.2.2.2.2.2.2.2.1 r46.1.2.2.2.2.2.2.2.2.2.2.1 r46.1.2.2.2.2.2.2.2.2.2.2.2.1 r46.1.2.2.2.2.2.2.2.2.2.2.2.2.1 r46.1.2.2.2.2.2.2.2.2.2.2.2.2.2.1 r46.1.2.2.2.2.2.2.2.2.2.2.2.2.2.2.1 r46.1.2.2.2.2.2.2.2.2.2.2.2.2.2.2.2.1 r46.1.2.2.2.2.2.2.2.2.2.2.2.2.2.2.2.2.1 r46.1.2.2.2.2.2.2.2.2.2.2.2.2.2.2.2.2.2 r47.1.1 r47.1.2.1 r47.1.2.2.1 r47.1.2.2.2.1 r47.1.2.2.2.2.1 r47.1.2.2.2.2.2.1 r47.1.2.2.2.2.2.2.1 r47.1.2.2.2.2.2.2.2.1 r47.1.2.2.2.2.2.2.2.2.1 r47.1.2.2.2.2.2.2.2.2.2.1 r47.1.2.2.2.2.2.2.2.2.2.2.1 r47.1.2.2.2.2.2.2.2.2.2.2.2.1 r47.1.2.2.2.2.2.2.2.2.2.2.2.2.1 r47.1.2.2.2.2.2.2.2.2.2.2.2.2.2.1 r47.1.2.2.2.2.2.2.2.2.2.2.2.2.2.2.1 r47.1.2.2.2.2.2.2.2.2.2.2.2.2.2.2.2.1 r47.1.2.2.2.2.2.2.2.2.2.2.2.2.2.2.2.2.1 r47.1.2.2.2.2.2.2.2.2.2.2.2.2.2.2.2.2.2).bind fun r51 => (bif (!r51) then (some false) else ((f_33 N r46.2).bind fun r52 => (bif (r52 != r47.2) then (some false) else ((f_32 N r40.1 r40.2.1 r40.2.2.1 r40.2.2.2.1 r40.2.2.2.2.1 r40.2.2.2.2.2.1 r40.2.2.2.2.2.2.1 r40.2.2.2.2.2.2.2.1 r40.2.2.2.2.2.2.2.2.1 r40.2.2.2.2.2.2.2.2.2.1 r40.2.2.2.2.2.2.2.2.2.2.1 r40.2.2.2.2.2.2.2.2.2.2.2.1 r40.2.2.2.2.2.2.2.2.2.2.2.2.1 r40.2.2.2.2.2.2.2.2.2.2.2.2.2.1 r40.2.2.2.2.2.2.2.2.2.2.2.2.2.2.1 r40.2.2.2.2.2.2.2.2.2.2.2.2.2.2.2.1 r40.2.2.2.2.2.2.2.2.2.2.2.2.2.2.2.2.1 r40.2.2.2.2.2.2.2.2.2.2.2.2.2.2.2.2.2 x1 x2 x3 x4 x5 x6 x7 x8 x9 x10 x11 x12 x13 x14 x15 x16 x17 x18).bind fun r53 => (bif (!r53) then (some false) else ((f_34 N r40.1 r40.2.1 r40.2.2.1 r40.2.2.2.1 r40.2.2.2.2.1 r40.2.2.2.2.2.1 r40.2.2.2.2.2.2.1 r40.2.2.2.2.2.2.2.1 r40.2.2.2.2.2.2.2.2.1 r40.2.2.2.2.2.2.2.2.2.1 r40.2.2.2.2.2.2.2.2.2.2.1 r40.2.2.2.2.2.2.2.2.2.2.2.1 r40.2.2.2.2.2.2.2.2.2.2.2.2.1 r40.2.2.2.2.2.2.2.2.2.2.2.2.2.1 r40.2.2.2.2.2.2.2.2.2.2.2.2.2.2.1 r40.2.2.2.2.2.2.2.2.2.2.2.2.2.2.2.1 r40.2.2.2.2.2.2.2.2.2.2.2.2.2.2.2.2.1 r40.2.2.2.2.2.2.2.2.2.2.2.2.2.2.2.2.2 x22).bind fun r54 => ((f_35 N x1 x2 x3 x4 x5 x6 x7 x8 x9 x10 x11 x12 x13 x14 x15 x16 x17 x18 x22).bind fun r55 => ((f_36 N r40.1 r40.2.1 r40.2.2.1 r40.2.2.2.1 r40.2.2.2.2.1 r40.2.2.2.2.2.1 r40.2.2.2.2.2.2.1 r40.2.2.2.2.2.2.2.1 r40.2.2.2.2.2.2.2.2.1 r40.2.2.2.2.2.2.2.2.2.1 r40.2.2.2.2.2.2.2.2.2.2.1 r40.2.2.2.2.2.2.2.2.2.2.2.1 r40.2.2.2.2.2.2.2.2.2.2.2.2.1 r40.2.2.2.2.2.2.2.2.2.2.2.2.2.1 r40.2.2.2.2.2.2.2.2.2.2.2.2.2.2.1 r40.2.2.2.2.2.2.2.2.2.2.2.2.2.2.2.1 r40.2.2.2.2.2.2.2.2.2.2.2.2.2.2.2.2.1 r40.2.2.2.2.2.2.2.2.2.2.2.2.2.2.2.2.2 x22).bind fun r56 => ((f_37 N x1 x2 x3 x4 x5 x6 x7 x8 x9 x10 x11 x12 x13 x14 x15 x16 x17 x18 x22).bind fun r57 => ((f_38 N r40.1 r40.2.1 r40.2.2.1 r40.2.2.2.1 r40.2.2.2.2.1 r40.2.2.2.2.2.1 r40.2.2.2.2.2.2.1 r40.2.2.2.2.2.2.2.1 r40.2.2.2.2.2.2.2.2.1 r40.2.2.2.2.2.2.2.2.2.1 r40.2.2.2.2.2.2.2.2.2.2.1 r40.2.2.2.2.2.2.2.2.2.2.2.1 r40.2.2.2.2.2.2.2.2.2.2.2.2.1 r40.2.2.2.2.2.2.2.2.2.2.2.2.2.1 r40.2.2.2.2.2.2.2.2.2.2.2.2.2.2.1 r40.2.2.2.2.2.2.2.2.2.2.2.2.2.2.2.1 r40.2.2.2.2.2.2.2.2.2.2.2.2.2.2.2.2.1 r40.2.2.2.2.2.2.2.2.2.2.2.2.2.2.2.2.2 r42.1.1 r42.1.2.1 r42.1.2.2.1 r42.1.2.2.2).bind fun r58 => ((f_39 N x1 x2 x3 x4 x5 x6 x7 x8 x9 x10 x11 x12 x13 x14 x15 x16 x17 x18 r42.1.1 r42.1.2.1 r42.1.2.2.1 r42.1.2.2.2).bind fun r59 => ((f_30 N x3 x4 x5 x6 x7 x8 x9 x10 x11 x12).bind fun r60 => ((f_40 N x1 x2 r60.1 r60.2.1 r60.2.2.1 r60.2.2.2.1 r60.2.2.2.2.1 r60.2.2.2.2.2.1 r60.2.2.2.2.2.2.1 r60.2.2.2.2.2.2.2.1 r60.2.2.2.2.2.2.2.2.1 r60.2.2.2.2.2.2.2.2.2).bind fun r61 => ((f_41 N x1 x2 x3 x4 x5 x6 x7 x8 x9 x10 x11 x12 false 0 0 false 0 0).bind fun r62 => (bif (!((Option.isNone r61.2) == r62)) then (some false) else (bif r62 then ((f_32 N r61.1.1 r61.1.2.1 r61.1.2.2.1 r61.1.2.2.2.1 r61.1.2.2.2.2.1 r61.1.2.2.2.2.2.1 r61.1.2.2.2.2.2.2.1 r61.1.2.2.2.2.2.2.2.1 r61.1.2.2.2.2.2.2.2.2.1 r61.1.2.2.2.2.2.2.2.2.2.1 r61.1.2.2.2.2.2.2.2.2.2.2.1 r61.1.2.2.2.2.2.2.2.2.2.2.2.1 r61.1.2.2.2.2.2.2.2.2.2.2.2.2.1 r61.1.2.2.2.2.2.2.2.2.2.2.2.2.2.1 r61.1.2.2.2.2.2.2.2.2.2.2.2.2.2.2.1 r61.1.2.2.2.2.2.2.2.2.2.2.2.2.2.2.2.1 r61.1.2.2.2.2.2.2.2.2.2.2.2.2.2.2.2.2.1 r61.1.2.2.2.2.2.2.2.2.2.2.2.2.2.2.2.2.2 x1 x2 x3 x4 x5 x6 x7 x8 x9 x10 x11 x12 false 0 0 false 0 0).bind fun r63 => (bif (!r63) then (some false) else ((f_32 N r54.1.1 r54.1.2.1 r54.1.2.2.1 r54.1.2.2.2.1 r54.1.2.2.2.2.1 r54.1.2.2.2.2.2.1 r54.1.2.2.2.2.2.2.1 r54.1.2.2.2.2.2.2.2.1 r54.1.2.2.2.2.2.2.2.2.1 r54.1.2.2.2.2.2.2.2.2.2.1 r54.1.2.2.2.2.2.2.2.2.2.2.1 r54.1.2.2.2.2.2.2.2.2.2.2.2.1 r54.1.2.2.2.2.2.2.2.2.2.2.2.2.1 r54.1.2.2.2.2.2.2.2.2.2.2.2.2.2.1 r54.1.2.2.2.2.2.2.2.2.2.2.2.2.2.2.1 r54.1.2.2.2.2.2.2.2.2.2.2.2.2.2.2.2.1 r54.1.2.2.2.2.2.2.2.2.2.2.2.2.2.2.2.2.1 r54.1.2.2.2.2.2.2.2.2.2.2.2.2.2.2.2.2.2 r55.1.1 r55.1.2.1 r55.1.2.2.1 r55.1.2.2.2.1 r55.1.2.2.2.2.1 r55.1.2.2.2.2.2.1 r55.1.2.2.2.2.2.2.1 r55.1.2.2.2.2.2.2.2.1 r55.1.2.2.2.2.2.2.2.2.1 r55.1.2.2.2.2.2.2.2.2.2.1 r55.1.2.2.2.2.2.2.2.2.2.2.1 r55.1.2.2.2.2.2.2.2.2.2.2.2.1 r55.1.2.2.2.2.2.2.2.2.2.2.2.2.1 r55.1.2.2.2.2.2.2.2.2.2.2.2.2.2.1 r55.1.2.2.2.2.2.2.2.2.2.2.2.2.2.2.1 r55.1.2.2.2.2.2.2.2.2.2.2.2.2.2.2.2.1 r55.1.2.2.2.2.2.2.2.2.2.2.2.2.2.2.2.2.1 r55.1.2.2.2.2.2.2.2.2.2.2.2.2.2.2.2.2.2).bind fun r64 => (bif r64 then ((f_33 N r54.2).bind fun r65 => (bif (r65 == r55.2) then ((f_32 N r56.1.1 r56.1.2.1 r56.1.2.2.1 r56.1.2.2.2.1 r56.1.2.2.2.2.1 r56.1.2.2.2.2.2.1 r56.1.2.2.2.2.2.2.1 r56.1.2.2.2.2.2.2.2.1 r56.1.2.2.2.2.2.2.2.2.1 r56.1.2.2.2.2.2.2.2.2.2.1 r56.1.2.2.2.2.2.2.2.2.2.2.1 r56.1.2.2.2.2.2.2.2.2.2.2.2.1 r56.1.2.2.2.2.2.2.2.2.2.2.2.2.1 r56.1.2.2.2.2.2.2.2.2.2.2.2.2.2.1 r56.1.2.2.2.2.2.2.2.2.2.2.2.2.2.2.1 r56.1.2.2.2.2.2.2.2.2.2.2.2.2.2.2.2.1 r56.1.2.2.2.2.2.2.2.2.2.2.2.2.2.2.2.2.1 r56.1.2.2.2.2.2.2.2.2.2.2.2.2.2.2.2.2.2 r57.1.1 r57.1.2.1 r57.1.2.2.1 r57.1.2.2.2.1 r57.1.2.2.2.2.1 r57.1.2.2.2.2.2.1 r57.1.2.2.2.2.2.2.1 r57.1.2.2.2.2.2.2.2.1 r57.1.2.2.2.2.2.2.2.2.1 r57.1.2.2.2.2.2.2.2.2.2.1 r57.1.2.2.2.2.2.2.2.2.2.2.1 r57.1.2.2.2.2.2.2.2.2.2.2.2.1 r57.1.2.2.2.2.2.2.2.2.2.2.2.2.1 r57.1.2.2.2.2.2.2.2.2.2.2.2.2.2.1 r57.1.2.2.2.2.2.2.2.2.2.2.2.2.2.2.1 r57.1.2.2.2.2.2.2.2.2.2.2.2.2.2.2.2.1 r57.1.2.2.2.2.2.2.2.2.2.2.2.2.2.2.2.2.1 r57.1.2.2.2.2.2.2.2.2.2.2.2.2.2.2.2.2.2).bind fun r66 => (bif r66 then ((f_33 N r56.2).bind fun r67 => (bif (r67 == r57.2) then (bif ((r58.1.1 == r59.1.1) && (r58.1.2 == r59.1.2)) then ((f_33 N r58.2).bind fun r68 => (bif (r68 == r59.2) then ((f_22 N r40.1 r40.2.1 r40.2.2.1 r40.2.2.2.1 r40.2.2.2.2.1 r40.2.2.2.2.2.1 r40.2.2.2.2.2.2.1 r40.2.2.2.2.2.2.2.1 r40.2.2.2.2.2.2.2.2.1 r40.2.2.2.2.2.2.2.2.2.1 r40.2.2.2.2.2.2.2.2.2.2.1 r40.2.2.2.2.2.2.2.2.2.2.2.1 r40.2.2.2.2.2.2.2.2.2.2.2.2.1 r40.2.2.2.2.2.2.2.2.2.2.2.2.2.1 r40.2.2.2.2.2.2.2.2.2.2.2.2.2.2.1 r40.2.2.2.2.2.2.2.2.2.2.2.2.2.2.2.1 r40.2.2.2.2.2.2.2.2.2.2.2.2.2.2.2.2.1 r40.2.2.2.2.2.2.2.2.2.2.2.2.2.2.2.2.2).bind fun r69 => ((f_41 N x1 x2 x3 x4 x5 x6 x7 x8 x9 x10 x11 x12 x13 x14 x15 x16 x17 x18).bind fun r70 => (bif ((Option.isNone r69) == r70) then ((f_23 N).bind fun r71 => (some r71)) else (some false)))) else (some false))) else (some false)) else (some false))) else (some false))) else (some false))) else (some false))))) else ((f_32 N r54.1.1 r54.1.2.1 r54.1.2.2.1 r54.1.2.2.2.1 r54.1.2.2.2.2.1 r54.1.2.2.2.2.2.1 r54.1.2.2.2.2.2.2.1 r54.1.2.2.2.2.2.2.2.1 r54.1.2.2.2.2.2.2.2.2.1 r54.1.2.2.2.2.2.2.2.2.2.1 r54.1.2.2.2.2.2.2.2.2.2.2.1 r54.1.2.2.2.2.2.2.2.2.2.2.2.1 r54.1.2.2.2.2.2.2.2.2.2.2.2.2.1 r54.1.2.2.2.2.2.2.2.2.2.2.2.2.2.1 r54.1.2.2.2.2.2.2.2.2.2.2.2.2.2.2.1 r54.1.2.2.2.2.2.2.2.2.2.2.2.2.2.2.2.1 r54.1.2.2.2.2.2.2.2.2.2.2.2.2.2.2.2.2.1 r54.1.2.2.2.2.2.2.2.2.2.2.2.2.2.2.2.2.2 r55.1.1 r55.1.2.1 r55.1.2.2.1 r55.1.2.2.2.1 r55.1.2.2.2.2.1 r55.1.2.2.2.2.2.1 r55.1.2.2.2.2.2.2.1 r55.1.2.2.2.2.2.2.2.1 r55.1.2.2.2.2.2.2.2.2.1 r55.1.2.2.2.2.2.2.2.2.2.1 r55.1.2.2.2.2.2.2.2.2.2.2.1 r55.1.2.2.2.2.2.2.2.2.2.2.2.1 r55.1.2.2.2.2.2.2.2.2.2.2.2.2.1 r55.1.2.2.2.2.2.2.2.2.2.2.2.2.2.1 r55.1.2.2.2.2.2.2.2.2.2.2.2.2.2.2.1 r55.1.2.2.2.2.2.2.2.2.2.2.2.2.2.2.2.1 r55.1.2.2.2.2.2.2.2.2.2.2.2.2.2.2.2.2.1 r55.1.2.2.2.2.2.2.2.2.2.2.2.2.2.2.2.2.2).bind fun r72 => (bif r72 then ((f_33 N r54.2).bind fun r73 => (bif (r73 == r55.2) then ((f_32 N r56.1.1 r56.1.2.1 r56.1.2.2.1 r56.1.2.2.2.1 r56.1.2.2.2.2.1 r56.1.2.2.2.2.2.1 r56.1.2.2.2.2.2.2.1 r56.1.2.2.2.2.2.2.2.1 r56.1.2.2.2.2.2.2.2.2.1 r56.1.2.2.2.2.2.2.2.2.2.1 r56.1.2.2.2.2.2.2.2.2.2.2.1 r56.1.2.2.2.2.2.2.2.2.2.2.2.1 r56.1.2.2.2.2.2.2.2.2.2.2.2.2.1 r56.1.2.2.2.2.2.2.2.2.2.2.2.2.2.1 r56.1.2.2.2.2.2.2.2.2.2.2.2.2.2.2.1 r56.1.2.2.2.2.2.2.2.2.2.2.2.2.2.2.2.1 r56.1.2.2.2.2.2.2.2.2.2.2.2.2.2.2.2.2.1 r56.1.2.2.2.2.2.2.2.2.2.2.2.2.2.2.2.2.2 r57.1.1 r57.1.2.1 r57.1.2.2.1 r57.1.2.2.2.1 r57.1.2.2.2.2.1 r57.1.2.2.2.2.2.1 r57.1.2.2.2.2.2.2.1 r57.1.2.2.2.2.2.2.2.1 r57.1.2.2.2.2.2.2.2.2.1 r57.1.2.2.2.2.2.2.2.2.2.1 r57.1.2.2.2.2.2.2.2.2.2.2.1 r57.1.2.2.2.2.2.2.2.2.2.2.2.1 r57.1.2.2.2.2.2.2.2.2.2.2.2.2.1 r57.1.2.2.2.2.2.2.2.2.2.2.2.2.2.1 r57.1.2.2.2.2.2.2.2.2.2.2.2.2.2.2.1 r57.1.2.2.2.2.2.2.2.2.2.2.2.2.2.2.2.1 r57.1.2.2.2.2.2.2.2.2.2.2.2.2.2.2.2.2.1 r57.1.2.2.2.2.2.2.2.2.2.2.2.2.2.2.2.2.2).bind fun r74 => (bif r74 then ((f_33 N r56.2).bind fun r75 => (bif (r75 == r57.2) then (bif ((r58.1.1 == r59.1.1) && (r58.1.2 == r59.1.2)) then ((f_33 N r58.2).bind fun r76 => (bif (r76 == r59.2) then ((f_22 N r40.1 r40.2.1 r40.2.2.1 r40.2.2.2.1 r40.2.2.2.2.1 r40.2.2.2.2.2.1 r40.2.2.2.2.2.2.1 r40.2.2.2.2.2.2.2.1 r40.2.2.2.2.2.2.2.2.1 r40.2.2.2.2.2.2.2.2.2.1 r40.2.2.2.2.2.2.2.2.2.2.1 r40.2.2.2.2.2.2.2.2.2.2.2.1 r40.2.2.2.2.2.2.2.2.2.2.2.2.1 r40.2.2.2.2.2.2.2.2.2.2.2.2.2.1 r40.2.2.2.2.2.2.2.2.2.2.2.2.2.2.1 r40.2.2.2.2.2.2.2.2.2.2.2.2.2.2.2.1 r40.2.2.2.2.2.2.2.2.2.2.2.2.2.2.2.2.1 r40.2.2.2.2.2.2.2.2.2.2.2.2.2.2.2.2.2).bind fun r77 => ((f_41 N x1 x2 x3 x4 x5 x6 x7 x8 x9 x10 x11 x12 x13 x14 x15 x16 x17 x18).bind fun r78 => (bif ((Option.isNone r77) == r78) then ((f_23 N).bind fun r79 => (some r79)) else (some false)))) else (some false))) else (some false)) else (some false))) else (some false))) else (some false))) else (some false)))))))))))))))))))))))))))))))))))))))))
def S_5 (N : Nat) : Sum := fnSum 3 0 1 [zg1, zg8, .agg [.d (.int .i64), .d (.int .i64), .d (.int .i64), .d (.int .i64), .d (.int .i64), .d (.int .i64), .d (.int .i64), .d (.int .i64), .d (.bool), .d (.str), .d (.int .i64), .d (.sl [.int .i64, .int .i64, .str]), .d (.int .i64)]] [.one (.d (.bool))] (fun ((x1, x2, x3, x4, x5, x6, x7, x8, x9, x10, x11, x12, x13, x14, x15, x16, x17, x18), (x19, x20, x21), (x22, x23, x24, x25, x26, x27, x28, x29, x30, x31, x32, x33, x34)) => f_5 N x1 x2 x3 x4 x5 x6 x7 x8 x9 x10 x11 x12 x13 x14 x15 x16 x17 x18 x19 x20 x21 x22 x23 x24 x25 x26 x27 x28 x29 x30 x31 x32 x33 x34)
theorem s_5 (N : Nat) : SumOk Tryz.prog laidL 5 (S_5 N) := fn_x h0 (fk (s_21 N) (fk (s_23 N) (fk (s_26 N) (fk (s_20 N) (fk (s_24 N) (fk (s_27 N) (fk (s_25 N) (fk (s_28 N) (fk (s_30 N) (fk (s_29 N) (fk (s_31 N) (fk (s_32 N) (fk (s_33 N) (fk (s_34 N) (fk (s_35 N) (fk (s_36 N) (fk (s_37 N) (fk (s_38 N) (fk (s_39 N) (fk (s_40 N) (fk (s_41 N) (fk (s_22 N) fz)))))))))))))))))))))) Tryz.func5 (lookOk_nil)
end
end Go.Proofs.YthpljlpokmoeeaaGreatDoor.Mir
namespace Go.Proofs.YthpljlpokmoeeaaGreatDoor.Mir
open Go Go.RowKit
set_option maxRecDepth 100000
def fineI (c : Int) : Bool := (decide (c ≥ 97) && decide (c ≤ 122)) || ((decide (c ≥ 65) && decide (c ≤ 90)) || ((decide (c ≥ 48) && decide (c ≤ 57)) || ((c == 47) || ((c == 95) || ((c == 43) || (c == 45))))))
def fineL : List UInt8 := [65, 66, 67, 68, 69, 70, 71, 72, 73, 74, 75, 76, 77, 78, 79, 80, 81, 82, 83, 84, 85, 86, 87, 88, 89, 90, 97, 98, 99, 100, 101, 102, 103, 104, 105, 106, 107, 108, 109, 110, 111, 112, 113, 114, 115, 116, 117, 118, 119, 120, 121, 122, 48, 49, 50, 51, 52, 53, 54, 55, 56, 57, 47, 95, 43, 45]
theorem fine_nat : ∀ n : Fin 256, fineL.contains (UInt8.ofNat n.val) = fineI (n.val : Int) := by decide +kernel
theorem fine_byte (b : UInt8) : fineL.contains b = fineI (b.toNat : Int) := by
 have := fine_nat ⟨b.toNat, b.toNat_lt⟩
 simpa using this
def allFine (l : List UInt8) : Bool := l.all fun b => fineI (b.toNat : Int)
def nameB (s : ByteArray) : Bool := decide (1 ≤ s.size) && (decide (s.size ≤ 12) && allFine s.data.toList)
theorem size_list (s : ByteArray) : s.size = s.data.toList.length := by rw [Array.length_toList]; rfl
theorem beq_nil (l : List UInt8) : (l == []) = l.isEmpty := by cases l <;> rfl
theorem drop_all : ∀ l : List UInt8, ((l.dropWhile (fineL.contains ·)) == []) = allFine l
 | [] => rfl
 | b :: l => by
  have h := drop_all l
  simp only [List.dropWhile, allFine, List.all_cons] at h ⊢
  rw [fine_byte b]
  cases fineI (b.toNat : Int) with
  | true => simpa using h
  | false => simp
theorem named_at (N : Nat) (s : ByteArray) : f_167 N s = some (nameB s) := by
 have ht : trimF s (⟨#[65, 66, 67, 68, 69, 70, 71, 72, 73, 74, 75, 76, 77, 78, 79, 80, 81, 82, 83, 84, 85, 86, 87, 88, 89, 90, 97, 98, 99, 100, 101, 102, 103, 104, 105, 106, 107, 108, 109, 110, 111, 112, 113, 114, 115, 116, 117, 118, 119, 120, 121, 122, 48, 49, 50, 51, 52, 53, 54, 55, 56, 57, 47, 95, 43, 45]⟩) = some ⟨(Lib.trimLeftS s.data.toList fineL).toArray⟩ := rfl
 unfold f_167 nameB
 rw [ht]
 simp only [Lib.toList_data, Option.bind_some]
 show (bif !(s.data.toList == []) then (bif decide ((s.size : Int) ≤ 12) then some ((Lib.trimLeftS s.data.toList fineL) == []) else some false) else some false) = _
 rw [show (Lib.trimLeftS s.data.toList fineL == []) = allFine s.data.toList from drop_all _, beq_nil, size_list]
 generalize s.data.toList = l
 cases l with
 | nil => rfl
 | cons b l =>
  by_cases h : (b :: l).length ≤ 12
  ·rw [decide_eq_true (show (((b :: l).length : Nat) : Int) ≤ 12 by omega), decide_eq_true h, decide_eq_true (show 1 ≤ (b :: l).length by simp)]; rfl
  ·rw [decide_eq_false (show ¬ (((b :: l).length : Nat) : Int) ≤ 12 by omega), decide_eq_false h, decide_eq_true (show 1 ≤ (b :: l).length by simp)]; rfl
theorem rname_step (N : Nat) (ih : _ → _) (s : ByteArray) (i : Int) (h0 : 0 ≤ i) (h1 : i < (s.size : Int)) : b_173_0 N ih (s, i) = bif fineI (byteAt s i.toNat) then ih (s, IntKind.i64.wrap (i + 1)) else some (.inl false) := by
 unfold b_173_0 fineI
 simp only
 rw [decide_eq_true h1, decide_eq_true (show 0 ≤ i ∧ i < (s.size : Int) from ⟨h0, h1⟩)]
 simp only [cond_true]
 generalize ih (s, IntKind.i64.wrap (i + 1)) = T
 generalize byteAt s i.toNat = c
 generalize decide (c ≥ 97) = t1
 generalize decide (c ≤ 122) = t2
 generalize decide (c ≥ 65) = t3
 generalize decide (c ≤ 90) = t4
 generalize decide (c ≥ 48) = t5
 generalize decide (c ≤ 57) = t6
 generalize (c == 47) = t7
 generalize (c == 95) = t8
 generalize (c == 43) = t9
 generalize (c == 45) = t10
 cases t1 <;> cases t2 <;> cases t3 <;> cases t4 <;> cases t5 <;> cases t6 <;> cases t7 <;> cases t8 <;> cases t9 <;> cases t10 <;> rfl
theorem rname_loop (N : Nat) {s : ByteArray} (hs : s.size ≤ 1000000) : ∀ (k M i : Nat), i + k = s.size → k < M → iter (b_173_0 N) M (s, (i : Int)) = bif allFine (s.data.toList.drop i) then some (.inr s) else some (.inl false) := by
 have hl := size_list s
 intro k
 induction k with
 | zero =>
  intro M i hi hM
  obtain ⟨M, rfl⟩ : ∃ m, M = m + 1 := ⟨M - 1, by omega⟩
  rw [List.drop_eq_nil_of_le (by omega)]
  show b_173_0 N (iter (b_173_0 N) M) (s, (i : Int)) = _
  unfold b_173_0
  simp only
  rw [decide_eq_false (show ¬ (i : Int) < (s.size : Int) by omega)]; rfl
 | succ k ih =>
  intro M i hi hM
  obtain ⟨M, rfl⟩ : ∃ m, M = m + 1 := ⟨M - 1, by omega⟩
  have hi' : i < s.data.toList.length := by omega
  show b_173_0 N (iter (b_173_0 N) M) (s, (i : Int)) = _
  rw [rname_step N _ s _ (by omega) (by omega), wi64 (by omega) (by omega), show (i : Int) + 1 = ((i + 1 : Nat) : Int) by omega, ih M (i + 1) (by omega) (by omega), List.drop_eq_getElem_cons hi']
  have eb : byteAt s (Int.toNat (i : Int)) = ((s.data.toList[i]).toNat : Int) := by
   unfold byteAt
   rw [Int.toNat_natCast, List.getD_eq_getElem?_getD, List.getElem?_eq_getElem hi']; rfl
  rw [eb]
  show _ = bif (fineI ((s.data.toList[i]).toNat : Int) && allFine (s.data.toList.drop (i + 1))) then _ else _
  cases fineI ((s.data.toList[i]).toNat : Int) <;> rfl
theorem rname_at {N : Nat} {s : ByteArray} (hs : s.size ≤ 1000000) (hN : s.size < N) : f_173 N s = some (nameB s) := by
 have h := rname_loop N hs s.size N 0 (by omega) hN
 have h' : l_173_0 N (s, 0) = bif allFine s.data.toList then some (.inr s) else some (.inl false) := h
 unfold f_173 nameB
 rw [h']
 cases allFine s.data.toList with
 | false =>
  show some false = _
  simp
 | true =>
  show (bif decide ((s.size : Int) ≥ 1) then some (decide ((s.size : Int) ≤ 12)) else some false) = _
  by_cases h1 : 1 ≤ s.size
  ·rw [decide_eq_true (show (s.size : Int) ≥ 1 by omega), decide_eq_true h1]
   by_cases h2 : s.size ≤ 12
   ·rw [decide_eq_true (show (s.size : Int) ≤ 12 by omega), decide_eq_true h2]; rfl
   ·rw [decide_eq_false (show ¬ (s.size : Int) ≤ 12 by omega), decide_eq_false h2]; rfl
  ·rw [decide_eq_false (show ¬ (s.size : Int) ≥ 1 by omega), decide_eq_false h1]; rfl
def offB (n : Int) : Bool := decide (-86399 ≤ n) && decide (n ≤ 86399)
theorem added_at (N : Nat) (n : Int) : f_168 N n = some (offB n) := by
 unfold f_168 offB
 show (bif decide (-86399 ≤ n) then _ else _) = _
 cases decide (-86399 ≤ n) <;> rfl
theorem off_at (N : Nat) (n : Int) : f_174 N n = some (offB n) := by
 unfold f_174 offB
 have e1 : decide (n > -86400) = decide (-86399 ≤ n) := decide_eq_decide.2 (by omega)
 have e2 : decide (n < 86400) = decide (n ≤ 86399) := decide_eq_decide.2 (by omega)
 rw [e1, e2]
 cases decide (-86399 ≤ n) <;> rfl
abbrev Rul := Int × Int × ByteArray
def gR (L : List Rul) (i : Nat) : Rul := L.getD i (0, 0, ByteArray.empty)
def okAt (L : List Rul) (i : Nat) : Bool := nameB (gR L i).2.2 && (offB (gR L i).2.1 && (!decide ((gR L i).1 < -1099511627776) && (!decide ((gR L i).1 > 1099511627776) && !(decide ((i : Int) > 0) && decide ((gR L (i - 1)).1 ≥ (gR L i).1)))))
def allFrom (L : List Rul) : Nat → Nat → Bool
 | _, 0 => true
 | i, k + 1 => okAt L i && allFrom L (i + 1) k
def mayZ (n : ByteArray) (f : Int) (L : List Rul) : Bool := nameB n && (offB f && (decide ((L.length : Int) ≤ 32) && allFrom L 0 L.length))
theorem check_loop (N : Nat) {n : ByteArray} {f : Int} {L : List Rul} (hL : L.length ≤ 1000000) : ∀ (k M i : Nat), i + k = L.length → k < M → iter (b_109_0 N) M ((), L, (L.length : Int), (i : Int), (n, f, L)) = bif allFrom L i k then some (.inr ()) else some (.inl (some 1)) := by
 intro k
 induction k with
 | zero =>
  intro M i hi hM
  obtain ⟨M, rfl⟩ : ∃ m, M = m + 1 := ⟨M - 1, by omega⟩
  show b_109_0 N (iter (b_109_0 N) M) _ = _
  unfold b_109_0
  simp only
  rw [decide_eq_false (show ¬ (i : Int) < (L.length : Int) by omega)]; rfl
 | succ k ih =>
  intro M i hi hM
  obtain ⟨M, rfl⟩ : ∃ m, M = m + 1 := ⟨M - 1, by omega⟩
  have ih' := ih M (i + 1) (by omega) (by omega)
  show b_109_0 N (iter (b_109_0 N) M) _ = _
  generalize iter (b_109_0 N) M = I at ih' ⊢
  unfold b_109_0
  simp only
  rw [decide_eq_true (show (i : Int) < (L.length : Int) by omega), decide_eq_true (show 0 ≤ (i : Int) ∧ (i : Int) < (L.length : Int) by omega), named_at, added_at, wi64 (n := (i : Int) + 1) (by omega) (by omega), show (i : Int) + 1 = ((i + 1 : Nat) : Int) by omega, ih']
  simp only [cond_true, Option.bind_some, Int.toNat_natCast]
  show _ = bif (okAt L i && allFrom L (i + 1) k) then _ else _
  unfold okAt
  show (bif !nameB (gR L i).2.2 then _ else (bif !offB (gR L i).2.1 then _ else (bif decide ((gR L i).1 < -1099511627776) then _ else (bif decide ((gR L i).1 > 1099511627776) then _ else _)))) = _
  generalize nameB (gR L i).2.2 = t1
  generalize offB (gR L i).2.1 = t2
  generalize decide ((gR L i).1 < -1099511627776) = t3
  generalize decide ((gR L i).1 > 1099511627776) = t4
  by_cases h0 : (i : Int) > 0
  ·rw [decide_eq_true h0, wi64 (n := (i : Int) - 1) (by omega) (by omega), decide_eq_true (show 0 ≤ (i : Int) - 1 ∧ (i : Int) - 1 < (L.length : Int) by omega), show ((i : Int) - 1).toNat = i - 1 by omega]
   show (bif !t1 then _ else (bif !t2 then _ else (bif t3 then _ else (bif t4 then _ else (bif decide ((gR L (i - 1)).1 ≥ (gR L i).1) then _ else _))))) = _
   generalize decide ((gR L (i - 1)).1 ≥ (gR L i).1) = t5
   cases t1 <;> cases t2 <;> cases t3 <;> cases t4 <;> cases t5 <;> rfl
  ·rw [decide_eq_false h0]
   cases t1 <;> cases t2 <;> cases t3 <;> cases t4 <;> rfl
theorem check_at {N : Nat} {n : ByteArray} {f : Int} {L : List Rul} (hL : L.length ≤ 1000000) (hN : L.length < N) : f_109 N n f L = some (bif mayZ n f L then none else some 1) := by
 have h := check_loop N (n := n) (f := f) hL L.length N 0 (by omega) hN
 have h' : l_109_0 N ((), L, (L.length : Int), 0, (n, f, L)) = bif allFrom L 0 L.length then some (.inr ()) else some (.inl (some 1)) := h
 unfold f_109 mayZ
 rw [named_at, added_at, h', show decide ((L.length : Int) > 32) = !decide ((L.length : Int) ≤ 32) by
  by_cases h : (L.length : Int) ≤ 32
  ·rw [decide_eq_true h, decide_eq_false (by omega)]; rfl
  ·rw [decide_eq_false h, decide_eq_true (by omega)]; rfl]
 cases nameB n <;> cases offB f <;> cases decide ((L.length : Int) ≤ 32) <;> cases allFrom L 0 L.length <;> rfl
theorem may_loop (N : Nat) {n : ByteArray} {f : Int} {L : List Rul} (hL : L.length ≤ 1000000) (hn : ∀ i, i < L.length → (gR L i).2.2.size ≤ 1000000 ∧ (gR L i).2.2.size < N) : ∀ (k M i : Nat), i + k = L.length → k < M → iter (b_119_0 N) M ((), (i : Int), (n, f, L)) = bif allFrom L i k then some (.inr ((), (n, f, L))) else some (.inl false) := by
 intro k
 induction k with
 | zero =>
  intro M i hi hM
  obtain ⟨M, rfl⟩ : ∃ m, M = m + 1 := ⟨M - 1, by omega⟩
  show b_119_0 N (iter (b_119_0 N) M) _ = _
  unfold b_119_0
  simp only
  rw [decide_eq_false (show ¬ (i : Int) < (L.length : Int) by omega)]; rfl
 | succ k ih =>
  intro M i hi hM
  obtain ⟨M, rfl⟩ : ∃ m, M = m + 1 := ⟨M - 1, by omega⟩
  have ih' := ih M (i + 1) (by omega) (by omega)
  have hs := hn i (by omega)
  show b_119_0 N (iter (b_119_0 N) M) _ = _
  generalize iter (b_119_0 N) M = I at ih' ⊢
  unfold b_119_0
  simp only
  rw [decide_eq_true (show (i : Int) < (L.length : Int) by omega), decide_eq_true (show 0 ≤ (i : Int) ∧ (i : Int) < (L.length : Int) by omega), wi64 (n := (i : Int) + 1) (by omega) (by omega), show (i : Int) + 1 = ((i + 1 : Nat) : Int) by omega, ih']
  simp only [cond_true, Int.toNat_natCast]
  show Option.bind (f_173 N (gR L i).2.2) _ = _
  rw [rname_at hs.1 hs.2]
  simp only [Option.bind_some]
  rw [off_at]
  simp only [Option.bind_some]
  show _ = bif (okAt L i && allFrom L (i + 1) k) then _ else _
  unfold okAt
  show (bif !nameB (gR L i).2.2 then _ else (bif !offB (gR L i).2.1 then _ else (bif decide ((gR L i).1 < -1099511627776) then _ else (bif decide ((gR L i).1 > 1099511627776) then _ else _)))) = _
  generalize nameB (gR L i).2.2 = t1
  generalize offB (gR L i).2.1 = t2
  generalize decide ((gR L i).1 < -1099511627776) = t3
  generalize decide ((gR L i).1 > 1099511627776) = t4
  by_cases h0 : (i : Int) > 0
  ·rw [decide_eq_true h0, wi64 (n := (i : Int) - 1) (by omega) (by omega), decide_eq_true (show 0 ≤ (i : Int) - 1 ∧ (i : Int) - 1 < (L.length : Int) by omega), show ((i : Int) - 1).toNat = i - 1 by omega]
   show (bif !t1 then _ else (bif !t2 then _ else (bif t3 then _ else (bif t4 then _ else (bif decide ((gR L i).1 ≤ (gR L (i - 1)).1) then _ else _))))) = _
   rw [show decide ((gR L (i - 1)).1 ≥ (gR L i).1) = decide ((gR L i).1 ≤ (gR L (i - 1)).1) from rfl]
   generalize decide ((gR L i).1 ≤ (gR L (i - 1)).1) = t5
   cases t1 <;> cases t2 <;> cases t3 <;> cases t4 <;> cases t5 <;> rfl
  ·rw [decide_eq_false h0]
   cases t1 <;> cases t2 <;> cases t3 <;> cases t4 <;> rfl
theorem may_at {N : Nat} {n : ByteArray} {f : Int} {L : List Rul} (hL : L.length ≤ 1000000) (hN : L.length < N) (h0 : n.size ≤ 1000000 ∧ n.size < N) (hn : ∀ i, i < L.length → (gR L i).2.2.size ≤ 1000000 ∧ (gR L i).2.2.size < N) : f_119 N n f L = some (mayZ n f L) := by
 have h := may_loop N (n := n) (f := f) hL hn L.length N 0 (by omega) hN
 have h' : l_119_0 N ((), 0, (n, f, L)) = bif allFrom L 0 L.length then some (.inr ((), (n, f, L))) else some (.inl false) := h
 unfold f_119 mayZ
 rw [h']
 cases allFrom L 0 L.length with
 | false =>
  show some false = _
  simp
 | true =>
  show Option.bind (f_173 N n) (fun r => bif r then Option.bind (f_174 N f) (fun r => bif r then some (decide ((L.length : Int) ≤ 32)) else some false) else some false) = _
  rw [rname_at h0.1 h0.2, off_at]
  cases nameB n <;> cases offB f <;> cases decide ((L.length : Int) ≤ 32) <;> rfl
end Go.Proofs.YthpljlpokmoeeaaGreatDoor.Mir
