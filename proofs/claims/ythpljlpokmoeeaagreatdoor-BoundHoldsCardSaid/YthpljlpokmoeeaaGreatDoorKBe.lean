/- Texts joined. -/
import Derived.RangeFuncBox
import Derived.RangeFuncNested
import Derived.RangeFuncBound
import Derived.RangeFuncCalls
import Derived.RangeFuncLeaves
import Derived.Shelf.Abstract
import Derived.WalkKit
import Derived.OwnWalkIn
import Derived.TacticsInMore
import Derived.LoopNIn
import Derived.LoopIn
import Derived.Test.YthpljlpokmoeeaaGreatDoorProg
import Derived.Test.YthpljlpokmoeeaaGreatDoorKx0e6d92
import Derived.Test.YthpljlpokmoeeaaGreatDoorKx2b741a
import Derived.Shelf.Strings.SlTrimAscii
namespace Go.Proofs.YthpljlpokmoeeaaGreatDoor
open Go Go.RowKit Go.Shelf Go.Proofs
attribute [local go_sem] Oper.semAt_some
def upTo {α : Type} (f : Nat → α) (k : Nat) : List α := (List.range k).map f
theorem upTo_succ {α : Type} (f : Nat → α) (k : Nat) : upTo f (k + 1) = upTo f k ++ [f k] := by simp [upTo, List.range_succ]
theorem upTo_length {α : Type} (f : Nat → α) (k : Nat) : (upTo f k).length = k := by simp [upTo]
def backAt (zs : List Int) (len k : Nat) : Int × Int := ((len : Int) - 1 - k, zs[len - 1 - k]?.getD 0)
def KeepB (Bs n₀ : Nat) (W W' : World) : Prop := (∀ v, W.cell? ⟨Bs, 0, none⟩ = some v → W'.cell? ⟨Bs, 0, none⟩ = some v) ∧ Below n₀ W W'
theorem KeepB.trans {Bs n₀ : Nat} {A B C : World} (h : KeepB Bs n₀ A B) (k : KeepB Bs n₀ B C) : KeepB Bs n₀ A C := ⟨fun v e => k.1 v (h.1 v e), h.2.trans k.2⟩
set_option maxRecDepth 100000 in
set_option maxHeartbeats 2000000 in
theorem back1_in (F : Fence) (n : Nat) (h8 : F.fn 239) (hro : F.round = none) (hn : 1 ≤ n) (l Bs n₀ b off len cap : Nat) (zs : List Int) (hreach : len ≤ 140737488351232) (hb : b < n₀) (J Jx : List (Int × Int) → World → Prop)
  (hY : ∀ pre x W, J pre W → pre.length < len → YieldAt F (n - 1) Tryz.prog l #[.int .i64 x.1, .int .u8 x.2] W fun e W' =>
   (e = .returned (.bool true) ∧ J (pre ++ [x]) W' ∧ KeepB Bs n₀ W W') ∨ (e = .returned (.bool false) ∧ Jx (pre ++ [x]) W'))
  (W : World) (hBs : W.cell? ⟨Bs, 0, none⟩ = some (.slice (some ⟨b, off, none⟩) len cap)) (hc : ∀ j, j < len → W.cell? ⟨b, off + j, none⟩ = some (.int .u8 (zs[j]?.getD 0))) (h0 : J [] W) :
  CallsIn F n Tryz.prog 239 #[.func (.yield l) #[] #[], .pointer (some ⟨Bs, 0, none⟩)] W fun e W' => (∃ v, e = .returned v) ∧
   ((∃ ys, ys = upTo (backAt zs len) len ∧ J ys W') ∨ (∃ pre, (∃ k, k ≤ len ∧ pre = upTo (backAt zs len) k) ∧ Jx pre W')) := by
 refine callsIn_of_wp Tryz.func239 rfl h8 ?_ hro
 simp only [Tryz.ntmps239, List.size_toArray, List.length_cons, List.length_nil, Nat.reduceAdd, Nat.reduceSub, Array.replicate_succ, Array.replicate_zero, List.push_toArray, List.append_toArray, List.nil_append, List.cons_append]
 gi_wp2
 gi_loopw [3] (fun i wr => ∃ k : Nat, k ≤ len ∧ i = .int .i64 ((len : Int) - 1 - k) ∧ J (upTo (backAt zs len) k) wr ∧ wr.cell? ⟨Bs, 0, none⟩ = some (.slice (some ⟨b, off, none⟩) len cap) ∧ Below n₀ W wr)
  (fun i _ => (intOf i + 1).toNat)
 case atStart => exact ⟨0, Nat.zero_le _, by simp, h0, hBs, Below.refl _ _⟩
 case round =>
  obtain ⟨k, hk, rfl, hJs, hBs', hnx⟩ := hrel
  have hcx : k < len → wr.cell? ⟨b, off + (len - 1 - k), none⟩ = some (.int .u8 (zs[len - 1 - k]?.getD 0)) := fun h => (hnx.cell (p := ⟨b, off + (len - 1 - k), none⟩) hb).trans (hc _ (by omega))
  by_cases hlt : k < len
  ·obtain ⟨fn, tmps, assign, body, hy, hR⟩ := hY _ (backAt zs len k) wr hJs (by rw [upTo_length]; exact hlt)
   dsimp only [backAt] at hy
   have hcx' := hcx hlt
   obtain ⟨m, hm1, hm2, hm3⟩ : ∃ m : Nat, (len : Int) - 1 - k = m ∧ len - 1 - k = m ∧ m < len := ⟨len - 1 - k, by omega, rfl, by omega⟩
   rw [hm2] at hcx'
   rw [hm1, hm2] at hy
   rw [hm1]
   gi_wp2
   refine hR.mono ?_
   rintro e W3 (⟨rfl, hJ3, hk3⟩ | ⟨rfl, hJx3⟩)
   ·gi_wp2
    go_roundw
    case rel => exact ⟨k + 1, by omega, by congr 1; omega, by rw [upTo_succ]; exact hJ3, hk3.1 _ hBs', hnx.trans hk3.2⟩
    case measure => simp [intOf]
   ·gi_wp2
    refine bodyPost_ret (results_none rfl _ _ _) rfl ?_
    exact ⟨⟨_, rfl⟩, .inr ⟨_, ⟨k + 1, by omega, (upTo_succ _ _).symm⟩, hJx3⟩⟩
  ·obtain rfl : k = len := by omega
   gi_wp2
   go_end0
   exact ⟨⟨_, rfl⟩, .inl ⟨_, rfl, hJs⟩⟩
set_option maxRecDepth 100000 in
set_option maxHeartbeats 1000000 in
theorem back1_nil_in (F : Fence) (n : Nat) (h8 : F.fn 239) (hro : F.round = none) (l Bs : Nat) (J : List (Int × Int) → World → Prop) (W : World) (hBs : W.cell? ⟨Bs, 0, none⟩ = some (.slice none 0 0)) (h0 : J [] W) :
  CallsIn F n Tryz.prog 239 #[.func (.yield l) #[] #[], .pointer (some ⟨Bs, 0, none⟩)] W fun e W' => (∃ v, e = .returned v) ∧ J [] W' := by
 refine callsIn_of_wp Tryz.func239 rfl h8 ?_ hro
 simp only [Tryz.ntmps239, List.size_toArray, List.length_cons, List.length_nil, Nat.reduceAdd, Nat.reduceSub, Array.replicate_succ, Array.replicate_zero, List.push_toArray, List.append_toArray, List.nil_append, List.cons_append]
 gi_wp2
 gi_loopw [3] (fun i wr => i = .int .i64 (-1) ∧ J [] wr) (fun _ _ => 0)
 case atStart => exact ⟨rfl, h0⟩
 case round =>
  obtain ⟨rfl, hJs⟩ := hrel
  gi_wp2
  go_end0
  exact ⟨⟨_, rfl⟩, hJs⟩
set_option maxHeartbeats 1000000 in
theorem backward_in (F : Fence) (n : Nat) (h6 : F.fn 237) (hro : F.round = none) (a : Option Addr) (len cap : Nat) (w : World) :
  CallsIn F n Tryz.prog 237 #[.slice a len cap] w fun e w' => e = .returned (.func (.func 239) #[] #[.pointer (some ⟨w.heap.size, 0, none⟩)]) ∧ w' = w.alloc (.cells #[.slice a len cap] 305) := by
 refine callsIn_of_wp Tryz.func237 rfl h6 ?_ hro
 simp only [Tryz.ntmps237, List.size_toArray, List.length_cons, List.length_nil, Nat.reduceAdd, Nat.reduceSub, Array.replicate_succ, Array.replicate_zero, List.push_toArray, List.append_toArray, List.nil_append, List.cons_append]
 gi_wp2
 go_ret
 exact ⟨rfl, rfl⟩
def Bytes (n₀ : Nat) (W : World) (sv : Value) (zs : List Int) : Prop :=
 (sv = .slice none 0 0 ∧ zs = []) ∨ ∃ b off cap, sv = .slice (some ⟨b, off, none⟩) zs.length cap ∧ b < n₀ ∧ ∀ j, j < zs.length → W.cell? ⟨b, off + j, none⟩ = some (.int .u8 (zs[j]?.getD 0))
theorem Bytes.below {n₀ : Nat} {A B : World} (h : Below n₀ A B) {sv : Value} {zs : List Int} : Bytes n₀ A sv zs → Bytes n₀ B sv zs
 | .inl e => .inl e
 | .inr ⟨b, off, cap, e, hb, hc⟩ => .inr ⟨b, off, cap, e, hb, fun j hj => (h.cell (p := ⟨b, off + j, none⟩) hb).trans (hc j hj)⟩
theorem back_stops (F : Fence) (n : Nat) (h8 : F.fn 239) (hro : F.round = none) (hn : 1 ≤ n) (Bs n₀ : Nat) (sv : Value) (zs : List Int) (hreach : zs.length ≤ 140737488351232) (w : World) (hBs : Bs < w.heap.size) (hn₀ : n₀ ≤ w.heap.size)
  (hc : w.cell? ⟨Bs, 0, none⟩ = some sv) (hI : Bytes n₀ w sv zs) :
  SeqStopsK F n Tryz.prog 239 #[.pointer (some ⟨Bs, 0, none⟩)] (fun x : Int × Int => #[Value.int .i64 x.1, Value.int .u8 x.2]) (KeepB Bs n₀) (fun ys => ys = upTo (backAt zs zs.length) zs.length)
   (fun pre => ∃ k, k ≤ zs.length ∧ pre = upTo (backAt zs zs.length) k) zs.length w := fun l J Jx W hW _ _ hY h0 => by
 have hc' := (hW.cell (p := ⟨Bs, 0, none⟩) hBs).trans hc
 rcases hI.below (hW.mono hn₀) with ⟨rfl, rfl⟩ | ⟨b, off, cap, rfl, hb, hcs⟩
 ·exact (back1_nil_in F n h8 hro l Bs J W hc' h0).mono fun e W' ⟨he, hj⟩ => ⟨he, .inl ⟨_, rfl, hj⟩⟩
 ·exact back1_in F n h8 hro hn l Bs n₀ b off zs.length cap zs hreach hb J Jx hY W hc' hcs h0
def numStep (v : Int) (x : Int × Int) : Int := bits .or .u64 (IntKind.u64.wrap (v * 256)) (IntKind.u64.wrap x.2)
def leftOf (b off len cap n : Nat) : Value := .slice (some ⟨b, if cap = n then off else off + n, none⟩) (len - n) (cap - n)
set_option maxRecDepth 100000 in
set_option maxHeartbeats 1000000 in
theorem take_good (β b off len cap n : Nat) (w : World) (hn : 1 ≤ n) (hnl : n ≤ len) (hcap : len ≤ cap)
  (h0 : w.cell? ⟨β, 0, none⟩ = some (.slice (some ⟨b, off, none⟩) len cap)) (h1 : w.cell? ⟨β, 1, none⟩ = some (.bool false)) (hf : w.frozen? ⟨β, 0, none⟩ = false) :
  Calls Tryz.prog 238 #[.pointer (some ⟨β, 0, none⟩), .int .i64 n] w fun e W' => e = .returned (.slice (some ⟨b, off, none⟩) n cap) ∧ W' = w.setCell ⟨β, 0, none⟩ (leftOf b off len cap n) := by
 go_enter Tryz.func238, Tryz.ntmps238
 go_wp2
 ·go_ret
  exact ⟨rfl, by unfold leftOf; simp⟩
 ·have hcn : ¬ cap = n := by omega
  go_ret
  exact ⟨rfl, by unfold leftOf; rw [if_neg hcn]⟩
def gone (β : Nat) (w : World) : World := (w.setCell ⟨β, 0, none⟩ (.slice none 0 0)).setCell ⟨β, 1, none⟩ (.bool true)
set_option maxRecDepth 100000 in
set_option maxHeartbeats 1000000 in
theorem take_bad (β len cap n : Nat) (a : Option Addr) (bd : Bool) (w : World) (hbad : bd = true ∨ len < n)
  (h0 : w.cell? ⟨β, 0, none⟩ = some (.slice a len cap)) (h1 : w.cell? ⟨β, 1, none⟩ = some (.bool bd)) (hf : w.frozen? ⟨β, 0, none⟩ = false) (hf1 : w.frozen? ⟨β, 1, none⟩ = false) :
  Calls Tryz.prog 238 #[.pointer (some ⟨β, 0, none⟩), .int .i64 n] w fun e W' => e = .returned (.slice none 0 0) ∧ W' = gone β w := by
 cases bd with
 | true =>
  go_enter Tryz.func238, Tryz.ntmps238
  go_wp2
  go_ret
  exact ⟨rfl, rfl⟩
 | false =>
  have hbad : len < n := by simpa using hbad
  go_enter Tryz.func238, Tryz.ntmps238
  go_wp2
  go_ret
  exact ⟨rfl, rfl⟩
set_option maxRecDepth 100000 in
set_option maxHeartbeats 2000000 in
theorem number_bad (β len cap n : Nat) (ad : Option Addr) (bd : Bool) (w : World) (hbad : bd = true ∨ len < n) (hβ : β < w.heap.size)
  (h0 : w.cell? ⟨β, 0, none⟩ = some (.slice ad len cap)) (h1 : w.cell? ⟨β, 1, none⟩ = some (.bool bd)) (hf : w.frozen? ⟨β, 0, none⟩ = false) (hf1 : w.frozen? ⟨β, 1, none⟩ = false) :
  CallsIn Fence.wide 5 Tryz.prog 235 #[.pointer (some ⟨β, 0, none⟩), .int .i64 n] w fun e W' => e = .returned (.int .u64 0) ∧ Below w.heap.size (gone β w) W' := by
 refine callsIn_of_wp_marks Tryz.func235 rfl trivial ?_ rfl
 simp only [Tryz.ntmps235, List.size_toArray, List.length_cons, List.length_nil, Nat.reduceAdd, Nat.reduceSub, Array.replicate_succ, Array.replicate_zero, List.push_toArray, List.append_toArray, List.nil_append, List.cons_append]
 have h0' : (w.alloc (.cells #[.int .u64 0] 138)).cell? ⟨β, 0, none⟩ = some (.slice ad len cap) := by rw [World.cell?_alloc_lt _ _ _ hβ]; exact h0
 have h1' : (w.alloc (.cells #[.int .u64 0] 138)).cell? ⟨β, 1, none⟩ = some (.bool bd) := by rw [World.cell?_alloc_lt _ _ _ hβ]; exact h1
 have hf' : (w.alloc (.cells #[.int .u64 0] 138)).frozen? ⟨β, 0, none⟩ = false := by rw [frozen?_alloc_cells]; exact hf
 have hf1' : (w.alloc (.cells #[.int .u64 0] 138)).frozen? ⟨β, 1, none⟩ = false := by rw [frozen?_alloc_cells]; exact hf1
 gi_wp2_with (first | (refine ⟨trivial, ?_⟩; gi_at_call 237; refine (backward_in Fence.wide _ trivial rfl _ _ _ _).mono ?_; rintro e w' ⟨rfl, rfl⟩) | (refine ⟨trivial, ?_⟩; gi_at_call 238; refine (callsIn_wide.2 (take_bad β len cap n ad bd _ hbad h0' h1' hf' hf1')).mono ?_; rintro e w' ⟨rfl, rfl⟩; unfold gone))
 have hAs : (gone β w).heap.size = w.heap.size := by simp [gone]
 have hAe : (w.setCell ⟨β, 0, none⟩ (.slice none 0 0)).setCell ⟨β, 1, none⟩ (.bool true) = gone β w := rfl
 try rw [hAe]
 generalize hA : gone β w = A at hAs ⊢
 have bS := Boxed.new A 138 (.int .u64 0)
 have bN := Boxed.new (A.alloc (.cells #[.int .u64 0] 138)) 305 (.slice none 0 0)
 rw [World.size_alloc, hAs] at bN
 rw [hAs] at bS
 have hB0 : Below w.heap.size A ((A.alloc (.cells #[.int .u64 0] 138)).alloc (.cells #[.slice none 0 0] 305)) := ((Below.refl _ A).alloc (by omega) _).alloc (by simp; omega) _
 have hBy : Bytes w.heap.size A (.slice none 0 0) [] := .inl ⟨rfl, rfl⟩
 refine wpIn_rangeFunc_ownG rfl (by omega) (gf := 239) (lb := #[.pointer (some ⟨w.heap.size + 1, 0, none⟩)]) (by simp [Act.eval]) trivial (enters_of Tryz.func239 (by kernel_rfl) rfl)
  (back_stops Fence.wide 4 trivial rfl (by omega) (w.heap.size + 1) w.heap.size _ [] (by simp) _ (by simp; omega) (by simp; omega) bN.cell (hBy.below hB0)) KeepB.trans
  (fun W l o o' hl h hcl _ => ⟨fun v e => by
   have hne' : l ≠ w.heap.size + 1 := fun el => by
    subst el
    unfold World.cell? at e
    rw [h] at e
    cases o <;> simp_all [Obj.isCells]
   exact cell_kept e (grownBy_putObj' W l o') (fun r e => by cases e; exact ⟨_, h, hcl⟩), belowK_b (w := A) (by omega) W l o o' (by simp at hl; omega) h hcl (by assumption)⟩) (Below.refl _ _) (fun _ => rfl)
  (fun pre W => (W.cell? ⟨w.heap.size, 0, none⟩ = some (.int .u64 (pre.foldl numStep 0)) ∧ W.frozen? ⟨w.heap.size, 0, none⟩ = false) ∧ Below w.heap.size A W)
  (fun _ _ _ => False)
  (OwnFrom.and (Own.from (fun s A B row hs hg hr => ⟨cell_kept hs.1 hg hr, (frozen_kept hs.1 hg hr).trans hs.2⟩) _) (ownFrom_below (by omega) (by simp; omega)))
  (fun _ _ _ _ _ hs _ _ => hs)
  ⟨⟨(bS.alloc _).cell, (bS.alloc _).frozen⟩, hB0⟩
  (fun x => { tmps := #[.pointer (some ⟨β, 0, none⟩), .int .i64 n, undef, undef, .int .u64 0, .pointer (some ⟨w.heap.size, 0, none⟩), undef, .int .u8 x.2, .pointer (some ⟨β, 0, none⟩), .int .i64 n, .slice none 0 0, .func (.func 239) #[] #[.pointer (some ⟨w.heap.size + 1, 0, none⟩)], .int .i64 x.1, .int .u8 x.2, undef, undef, undef, undef, undef, undef], defers := [] }) ?assign ?body ?done ?stop
 case assign =>
  intro l x W K hK
  gi_wp2
  exact hK
 case body =>
  rintro l pre x W _ hlen
  exact absurd hlen (Nat.not_lt_zero _)
 case done =>
  rintro D ys W hD rfl ⟨⟨hc, _⟩, hB⟩ hK
  gi_wp2
  refine ⟨by simp, .inl ⟨_, _, rfl, run_takeDeferred hK, ?_⟩⟩
  exact ⟨_, results_tmp rfl _ _ _, rfl, by rw [hA]; exact hB.trans (belowK_b (w := A) (by omega) W D _ _ (by simp at hD; omega) hK rfl rfl)⟩
 case stop =>
  rintro D c pre W _ _ h _
  exact h.elim
set_option maxRecDepth 100000 in
set_option maxHeartbeats 2000000 in
theorem number_good (β b off len cap : Nat) (zs : List Int) (w : World) (hn : 1 ≤ zs.length) (hnl : zs.length ≤ len) (hcap : len ≤ cap) (hmax : zs.length ≤ 140737488351232) (hβ : β < w.heap.size)
  (hb : b < w.heap.size) (hne : b ≠ β) (h0 : w.cell? ⟨β, 0, none⟩ = some (.slice (some ⟨b, off, none⟩) len cap)) (h1 : w.cell? ⟨β, 1, none⟩ = some (.bool false)) (hf : w.frozen? ⟨β, 0, none⟩ = false)
  (hc : ∀ j, j < zs.length → w.cell? ⟨b, off + j, none⟩ = some (.int .u8 (zs[j]?.getD 0))) :
  CallsIn Fence.wide 5 Tryz.prog 235 #[.pointer (some ⟨β, 0, none⟩), .int .i64 (zs.length : Int)] w fun e W' => e = .returned (.int .u64 ((upTo (backAt zs zs.length) zs.length).foldl numStep 0)) ∧
   Below w.heap.size (w.setCell ⟨β, 0, none⟩ (leftOf b off len cap zs.length)) W' := by
 refine callsIn_of_wp_marks Tryz.func235 rfl trivial ?_ rfl
 simp only [Tryz.ntmps235, List.size_toArray, List.length_cons, List.length_nil, Nat.reduceAdd, Nat.reduceSub, Array.replicate_succ, Array.replicate_zero, List.push_toArray, List.append_toArray, List.nil_append, List.cons_append]
 have h0' : (w.alloc (.cells #[.int .u64 0] 138)).cell? ⟨β, 0, none⟩ = some (.slice (some ⟨b, off, none⟩) len cap) := by rw [World.cell?_alloc_lt _ _ _ hβ]; exact h0
 have h1' : (w.alloc (.cells #[.int .u64 0] 138)).cell? ⟨β, 1, none⟩ = some (.bool false) := by rw [World.cell?_alloc_lt _ _ _ hβ]; exact h1
 have hf' : (w.alloc (.cells #[.int .u64 0] 138)).frozen? ⟨β, 0, none⟩ = false := by rw [frozen?_alloc_cells]; exact hf
 gi_wp2_with (first | (refine ⟨trivial, ?_⟩; gi_at_call 237; refine (backward_in Fence.wide _ trivial rfl _ _ _ _).mono ?_; rintro e w' ⟨rfl, rfl⟩) | (refine ⟨trivial, ?_⟩; gi_at_call 238; refine (callsIn_wide.2 (take_good β b off len cap zs.length _ hn hnl hcap h0' h1' hf')).mono ?_; rintro e w' ⟨rfl, rfl⟩))
 have hAs : (w.setCell ⟨β, 0, none⟩ (leftOf b off len cap zs.length)).heap.size = w.heap.size := by simp
 generalize hA : w.setCell ⟨β, 0, none⟩ (leftOf b off len cap zs.length) = A at hAs ⊢
 have bS := Boxed.new A 138 (.int .u64 0)
 have bN := Boxed.new (A.alloc (.cells #[.int .u64 0] 138)) 305 (.slice (some ⟨b, off, none⟩) zs.length cap)
 rw [World.size_alloc, hAs] at bN
 rw [hAs] at bS
 have hB0 : Below w.heap.size A ((A.alloc (.cells #[.int .u64 0] 138)).alloc (.cells #[.slice (some ⟨b, off, none⟩) zs.length cap] 305)) := ((Below.refl _ A).alloc (by omega) _).alloc (by simp; omega) _
 have hBy : Bytes w.heap.size A (.slice (some ⟨b, off, none⟩) zs.length cap) zs := .inr ⟨b, off, cap, rfl, hb, fun j hj => by
  rw [← hA, World.cell?_setCell_other _ _ _ _ (by simp)]
  exact hc j hj⟩
 refine wpIn_rangeFunc_ownG rfl (by omega) (gf := 239) (lb := #[.pointer (some ⟨w.heap.size + 1, 0, none⟩)]) (by simp [Act.eval]) trivial (enters_of Tryz.func239 (by kernel_rfl) rfl)
  (back_stops Fence.wide 4 trivial rfl (by omega) (w.heap.size + 1) w.heap.size _ zs (by omega) _ (by simp; omega) (by simp; omega) bN.cell (hBy.below hB0)) KeepB.trans
  (fun W l o o' hl h hcl _ => ⟨fun v e => by
   have hne' : l ≠ w.heap.size + 1 := fun el => by
    subst el
    unfold World.cell? at e
    rw [h] at e
    cases o <;> simp_all [Obj.isCells]
   exact cell_kept e (grownBy_putObj' W l o') (fun r e => by cases e; exact ⟨_, h, hcl⟩), belowK_b (w := A) (by omega) W l o o' (by simp at hl; omega) h hcl (by assumption)⟩) (Below.refl _ _) (fun _ => rfl)
  (fun pre W => (W.cell? ⟨w.heap.size, 0, none⟩ = some (.int .u64 (pre.foldl numStep 0)) ∧ W.frozen? ⟨w.heap.size, 0, none⟩ = false) ∧ Below w.heap.size A W)
  (fun _ _ _ => False)
  (OwnFrom.and (Own.from (fun s A B row hs hg hr => ⟨cell_kept hs.1 hg hr, (frozen_kept hs.1 hg hr).trans hs.2⟩) _) (ownFrom_below (by omega) (by simp; omega)))
  (fun _ _ _ _ _ hs _ _ => hs)
  ⟨⟨(bS.alloc _).cell, (bS.alloc _).frozen⟩, hB0⟩
  (fun x => { tmps := #[.pointer (some ⟨β, 0, none⟩), .int .i64 (zs.length : Int), undef, undef, .int .u64 0, .pointer (some ⟨w.heap.size, 0, none⟩), undef, .int .u8 x.2, .pointer (some ⟨β, 0, none⟩), .int .i64 (zs.length : Int), .slice (some ⟨b, off, none⟩) zs.length cap, .func (.func 239) #[] #[.pointer (some ⟨w.heap.size + 1, 0, none⟩)], .int .i64 x.1, .int .u8 x.2, undef, undef, undef, undef, undef, undef], defers := [] }) ?assign ?body ?done ?stop
 case assign =>
  intro l x W K hK
  gi_wp2
  exact hK
 case body =>
  rintro l pre x W ⟨⟨hc, hf⟩, hB⟩ _
  gi_wp2
  refine ⟨(KeepsOthers.setCell _ _ _).from _, ⟨fun v e => ?_, (Below.refl w.heap.size W).setCell (p := ⟨w.heap.size, 0, none⟩) (Nat.le_refl _) _⟩, ⟨?_, by rw [World.frozen?_setCell]; exact hf⟩, hB.setCell (p := ⟨w.heap.size, 0, none⟩) (Nat.le_refl _) _⟩
  ·rw [World.cell?_setCell_other _ _ _ _ (by simp)]; exact e
  ·rw [List.foldl_append]; exact World.cell?_setCell_same' _ _ _ (by rw [hc]; rfl)
 case done =>
  rintro D ys W hD rfl ⟨⟨hc, _⟩, hB⟩ hK
  gi_wp2
  refine ⟨by simp, .inl ⟨_, _, rfl, run_takeDeferred hK, ?_⟩⟩
  exact ⟨_, results_tmp rfl _ _ _, rfl, by rw [hA]; exact hB.trans (belowK_b (w := A) (by omega) W D _ _ (by simp at hD; omega) hK rfl rfl)⟩
 case stop =>
  rintro D c pre W _ _ h _
  exact h.elim
end Go.Proofs.YthpljlpokmoeeaaGreatDoor
namespace Go.Proofs.YthpljlpokmoeeaaGreatDoor.Mir
open Go Go.RowKit
def numV (zs : List Int) : Int := (upTo (backAt zs zs.length) zs.length).foldl numStep 0
def rdF (n : Int) (xs : List Int) (bd : Bool) : Option (Int × List Int × Bool) :=
 bif decide (1 ≤ n ∧ n ≤ 140737488351232) then (bif bd || decide ((xs.length : Int) < n) then some (0, [], true) else some (numV (xs.take n.toNat), xs.drop n.toNat, false)) else none
def rdS : Sum := fnSum 2 1 1 [.one (.ptr 0 0), .one (.d (.int .i64)), .agg [.d (.sl [.int .u8]), .d .bool]] [.one (.d (.int .u64)), .agg [.d (.sl [.int .u8]), .d .bool]] (fun p => rdF p.2.1 p.2.2.1 p.2.2.2)
theorem ends1 {n : Nat} {PS RS : List ShA} {F : TAs PS → Option (TAs RS)} {al : List A} {cs cs' : List C} {r : TAs RS} {g : Gh} {w w' : World} {v : Value} {β : Nat} {vs : Array Value} {ty : TypeId}
  (htk : tksOf RS = []) (hB : Blks g w [cs]) (hk : Knows g w) (hj : g.j 0 = some β) (hout : ((fnSum n 1 1 PS RS F).out al [cs] r).2 = [cs'])
  (hv : RepV { K := g.K, j := g.j, th := fun _ _ => none } ((fnSum n 1 1 PS RS F).out al [cs] r).1 v)
  (hb : w'.heap[β]? = some (.cells vs ty (0, 0))) (hr : RepL { K := g.K, j := g.j, th := fun _ _ => none } cs' vs.toList) (ho : Only (fun k => k = β) w w') : Ends (fnSum n 1 1 PS RS F) al [cs] r g w v w' { K := g.K, j := g.j, th := fun _ _ => none } := by
 obtain ⟨β0, _, _, h1, h2, _, h4⟩ := hB.blk 0 cs rfl
 obtain rfl := Option.some.inj (hj.symm.trans h1)
 have dom : ∀ n β', g.j n = some β' → n = 0 := fun n β' e => by
  obtain ⟨i, h5, h6⟩ := hB.dom n β' e
  simp only [List.length_singleton] at h6
  omega
 refine ⟨fun _ _ _ e => e, fun _ _ _ e => .inl e, fun β' o u e => ?_, hv, ⟨fun i cs0 e => ?_, fun i k β' e1 e2 => ?_, fun m β' e => ?_⟩, ?_, fun i _ => rfl, fun i β' hi e => ?_, noTks (fun _ _ => rfl) (fun p => ?_), noLvs (fun p => ?_), fun β' ⟨n', e, cap, h⟩ => (by cases h), ?_⟩
 ·have hne : β' ≠ β := fun e' => by subst e'; have := h4 o; rw [this] at e; cases e
  have := hk β' o u e
  have hl := block_lt_of_cell this
  unfold World.cell? at this ⊢
  rw [ho.block β' hl hne]; exact this
 ·rw [hout] at e
  cases i with
  | zero => simp at e; subst e; exact ⟨β, vs, ty, h1, hb, hr, h4⟩
  | succ i => simp at e
 ·have := dom _ _ e1; have := dom _ _ e2; omega
 ·rw [hout]; exact ⟨0, dom m β' e, by simp⟩
 ·rw [hout]; simp
 ·have := dom _ _ e; simp at hi; omega
 ·show (tksOf RS)[p]? = none
  rw [htk]; rfl
 ·show (tksOf RS)[p]? = none
  rw [htk]; rfl
 ·exact ho.mono fun k _ e => .inl ⟨0, by simp, by subst e; exact h1⟩
theorem setCell_row {w : World} {β o : Nat} {vs : Array Value} {ty : TypeId} {u : Value} (h : w.heap[β]? = some (.cells vs ty (0, 0))) : (w.setCell ⟨β, o, none⟩ u).heap[β]? = some (.cells (vs.setIfInBounds o u) ty (0, 0)) := by
 have hl := (Array.getElem?_eq_some_iff.1 h).1
 have he := (Array.getElem?_eq_some_iff.1 h).2
 show (w.heap.modify β _)[β]? = _
 rw [Array.getElem?_eq_getElem (by simpa using hl), Array.getElem_modify_self, he]
 rfl
theorem frozen_row {w : World} {β o : Nat} {vs : Array Value} {ty : TypeId} (h : w.heap[β]? = some (.cells vs ty (0, 0))) : w.frozen? ⟨β, o, none⟩ = false := by
 simp [World.frozen?, h]
set_option maxRecDepth 100000 in
theorem rdS_ok {laid : List (Nat × Nat × Value)} : SumOk Tryz.prog laid 235 rdS := by
 intro al bs r hr g w vs hlaid hknown hA hB hTk hLv
 simp only [rdS, fnSum] at hr
 cases hk : (Nat.beq al.length 2 && Nat.beq bs.length 1) with
 | false => rw [hk] at hr; cases hr
 | true =>
  rw [hk] at hr
  simp only [cond_true] at hr
  simp only [Bool.and_eq_true] at hk
  obtain ⟨a0, a1, rfl⟩ : ∃ a0 a1, al = [a0, a1] := by
   match al, Nat.eq_of_beq_eq_true hk.1 with
   | [a0, a1], _ => exact ⟨a0, a1, rfl⟩
  obtain ⟨cs, rfl⟩ : ∃ cs, bs = [cs] := by
   match bs, Nat.eq_of_beq_eq_true hk.2 with
   | [cs], _ => exact ⟨cs, rfl⟩
  split at hr
  ·rename_i p ep
   obtain ⟨u, n, xs, bd⟩ := p
   simp only at hr
   obtain ⟨d1, d2⟩ := decAs_get ep
   obtain ⟨x0, _, rfl, h0, x1, _, rfl, h1, rfl⟩ := hA
   obtain ⟨a0', e0, q0, _⟩ := d2 0 a0 rfl
   obtain rfl := Option.some.inj e0
   obtain ⟨β, hj, rfl⟩ : RepC g (.ptr 0 0) x0 := q0 g x0 h0
   obtain ⟨a1', e1, q1, _⟩ := d2 1 a1 rfl
   obtain rfl := Option.some.inj e1
   obtain rfl : x1 = .int .i64 n := q1 g x1 h1
   obtain ⟨a2', e2, q2, _⟩ := d2 2 (.agg cs) rfl
   obtain rfl := Option.some.inj e2
   obtain ⟨β', vs', ty, hb1, hb2, hb3, hb4⟩ := hB.blk 0 cs rfl
   obtain rfl := Option.some.inj (hj.symm.trans hb1)
   obtain ⟨us, eu, hu⟩ := q2 g (.agg vs') ⟨vs'.toList, by simp, hb3⟩
   injection eu with eu
   subst eu
   obtain ⟨sv, _, rfl, hs, bv, _, rfl, hv, rfl⟩ : RepL g [.sl none [.int .u8] xs, boolC bd] us := hu
   obtain rfl : bv = .bool bd := hv
   have hβ : β < w.heap.size := (Array.getElem?_eq_some_iff.1 hb2).1
   have c0 : w.cell? ⟨β, 0, none⟩ = some sv := by rw [cell_row hb2]; rfl
   have c1 : w.cell? ⟨β, 1, none⟩ = some (.bool bd) := by rw [cell_row hb2]; rfl
   have f0 := frozen_row (o := 0) hb2
   have f1 := frozen_row (o := 1) hb2
   unfold rdF at hr
   cases hn : decide (1 ≤ n ∧ n ≤ 140737488351232) with
   | false => rw [hn] at hr; cases hr
   | true =>
    rw [hn] at hr
    simp only [cond_true] at hr
    obtain ⟨hn1, hn2⟩ := of_decide_eq_true hn
    obtain ⟨m, hm⟩ := Int.eq_ofNat_of_zero_le (a := n) (Int.le_trans (by decide) hn1)
    subst hm
    have hn1 : (1 : Int) ≤ (m : Int) := hn1
    have hn2 : (m : Int) ≤ (140737488351232 : Int) := hn2
    have hslice : ∃ ad cap, sv = .slice ad xs.length cap := by
     rcases hs.1 with ⟨rfl, ad, cz, rfl⟩ | ⟨b, off, cap, rfl, _⟩
     ·exact ⟨ad, cz, rfl⟩
     ·exact ⟨_, cap, rfl⟩
    cases hbad : (bd || decide ((xs.length : Int) < (m : Int))) with
    | true =>
     rw [hbad] at hr
     obtain rfl := Option.some.inj hr
     obtain ⟨ad, cap, rfl⟩ := hslice
     have hb' : bd = true ∨ xs.length < m := by
      rcases Bool.or_eq_true_iff.1 hbad with h | h
      ·exact .inl h
      ·have h2 : ((List.length (α := Int) xs : Nat) : Int) < (m : Int) := of_decide_eq_true h
       exact .inr (by omega)
     have hC := callsIn_wide.1 (number_bad β xs.length cap m ad bd w hb' hβ c0 c1 f0 f1)
     refine invokes_of_calls Tryz.func235 (by kernel_rfl) rfl (Calls.mono hC ?_)
     rintro e w' ⟨rfl, hw⟩
     refine ⟨_, rfl, _, ends1 (cs := cs) (cs' := [.sl none [.int .u8] [], boolC true]) (β := β) (vs := #[.slice none 0 0, .bool true]) (ty := ty) rfl hB hknown hj rfl rfl ?_ ?_ ?_⟩
     ·rw [hw.block β hβ]
      exact setCell_row (setCell_row hb2)
     ·exact ⟨_, _, rfl, ⟨.inl ⟨rfl, none, 0, rfl⟩, fun _ _ e => by cases e⟩, _, _, rfl, rfl, rfl⟩
     ·refine ⟨hw.os, hw.tape, hw.output, ?_, fun k hk hne => ?_⟩
      ·have := hw.size; simpa [gone] using this
      ·rw [hw.block k hk]
       unfold gone
       rw [Below.heap_setCell _ _ _ _ hne, Below.heap_setCell _ _ _ _ hne]
    | false =>
     rw [hbad] at hr
     obtain rfl := Option.some.inj hr
     obtain ⟨rfl, hlt⟩ := Bool.or_eq_false_iff.1 hbad
     have hlt : ¬ (((List.length (α := Int) xs : Nat) : Int) < (m : Int)) := of_decide_eq_false hlt
     rcases hs.1 with ⟨rfl, _⟩ | ⟨b, off, cap, rfl, hcap, hel⟩
     ·simp at hlt; omega
     have hcap : List.length (α := Int) xs ≤ cap := hcap
     have hbl : ∀ j, j < List.length (α := Int) xs → g.K b (off + j) = some (.int .u8 (xs[j]?.getD 0)) := fun j hj => by
      obtain ⟨us, u1, u2, u3⟩ := hel j xs[j] (List.getElem?_eq_getElem hj)
      obtain rfl : us = [Value.int .u8 xs[j]] := u2
      have := u3 0 _ rfl
      rw [List.getElem?_eq_getElem hj]
      simpa [widSL, widS] using this
     have hbK := hbl 0 (by omega)
     have hbs : b < w.heap.size := block_lt_of_cell (hknown _ _ _ hbK)
     have hne : b ≠ β := fun e => by subst e; rw [hb4] at hbK; cases hbK
     have hzl : (xs.take m).length = m := by rw [List.length_take]; omega
     have hC := callsIn_wide.1 (number_good β b off xs.length cap (xs.take m) w (by omega) (by omega) hcap (by omega) hβ hbs hne c0 c1 f0 (fun j hj => by
      rw [hknown _ _ _ (hbl j (by omega)), List.getElem?_take, if_pos (by omega)]))
     rw [hzl] at hC
     refine invokes_of_calls Tryz.func235 (by kernel_rfl) rfl (Calls.mono hC ?_)
     rintro e w' ⟨rfl, hw⟩
     refine ⟨_, rfl, _, ends1 (cs := cs) (cs' := [.sl none [.int .u8] (xs.drop m), boolC false]) (β := β) (vs := #[leftOf b off xs.length cap m, .bool false]) (ty := ty) rfl hB hknown hj rfl ?_ ?_ ?_ ?_⟩
     ·show Value.int .u64 _ = Value.int .u64 (numV (xs.take m))
      unfold numV
      rw [hzl]
     ·rw [hw.block β hβ]
      exact setCell_row hb2
     ·refine ⟨_, _, rfl, ⟨?_, fun _ _ e => by cases e⟩, _, _, rfl, rfl, rfl⟩
      show RowS g.K _ _ (xs.drop m) (leftOf b off xs.length cap m)
      unfold leftOf
      refine .inr ⟨b, if cap = m then off else off + m, cap - m, by simp, by simp; omega, fun i x hx => ?_⟩
      rw [List.getElem?_drop] at hx
      have hi := (List.getElem?_eq_some_iff.1 hx).1
      obtain ⟨us, u1, u2, u3⟩ := hel (m + i) x hx
      refine ⟨us, u1, u2, fun j u hu => ?_⟩
      rw [if_neg (by omega)]
      have := u3 j u hu
      rw [show off + m + (i * widSL [.int .u8] + j) = off + ((m + i) * widSL [.int .u8] + j) by simp [widSL, widS]; omega]
      exact this
     ·refine ⟨hw.os, hw.tape, hw.output, ?_, fun k hk hne => ?_⟩
      ·have := hw.size; simpa using this
      ·rw [hw.block k hk, Below.heap_setCell _ _ _ _ hne]
  ·cases hr
end Go.Proofs.YthpljlpokmoeeaaGreatDoor.Mir
namespace Go.Proofs.YthpljlpokmoeeaaGreatDoor.Mir
open Go Go.RowKit
set_option maxRecDepth 1000000
def trimF (s c : ByteArray) : Option (TAs [.one (.d .str)]) := bif Nat.blt c.size 4294967281 && c.data.toList.all (fun b => Nat.blt b.toNat 128) then some ⟨(Lib.trimLeftS s.data.toList c.data.toList).toArray⟩ else none
def trimS : Sum := fnSum 2 0 1 [.one (.d .str), .one (.d .str)] [.one (.d .str)] (fun p => trimF p.1 p.2)
theorem trimS_ok : SumOk Tryz.prog laidL 70 trimS := by
 refine bridge rfl (fun _ => rfl) ?_
 rintro ⟨s, c⟩ r h g w vs _ ⟨_, _, rfl, hs, _, _, rfl, hc, rfl⟩
 simp only [trimF] at h
 cases hk : (Nat.blt c.size 4294967281 && c.data.toList.all (fun b => Nat.blt b.toNat 128)) with
 | false => rw [hk] at h; cases h
 | true =>
  rw [hk] at h
  obtain rfl := Option.some.inj h
  simp only [Bool.and_eq_true] at hk
  cases hs; cases hc
  refine invokes_of_calls Tryz.func70 (by kernel_rfl) (by kernel_rfl) ((Any.strings_TrimLeft_laid Tryz.lays161 (by kernel_rfl) s c w (Nat.le_of_ble_eq_true hk.1) (fun j b hb => ?_)).mono ?_)
  ·exact Nat.le_of_ble_eq_true (List.all_eq_true.1 hk.2 b (List.mem_of_getElem? hb))
  ·rintro e w' ⟨rfl, hw⟩
   exact ⟨_, rfl, rfl, hw⟩
end Go.Proofs.YthpljlpokmoeeaaGreatDoor.Mir
namespace Go.Proofs.YthpljlpokmoeeaaGreatDoor.Mir
open Go Go.RowKit
set_option maxRecDepth 100000
def msP (a m s : Int) : Int × Option Int := if s < 0 ∨ 31 < s then (0, some 1) else fitP (a * m / 2 ^ s.toNat)
def u32B (m : Int) : Bool := decide (0 ≤ m) && decide (m < 4294967296)
theorem u32B_iff {m : Int} : u32B m = true ↔ 0 ≤ m ∧ m < 4294967296 := by simp [u32B]
def msF (a m s : Int) : Option (TAs [.one (.d (.int .i64)), shE]) := bif i64B a && u32B m then some (msP a m s) else none
def msS : Sum := fnSum 3 0 2 [.one (.d (.int .i64)), .one (.d (.int .u32)), .one (.d (.int .i64))] [.one (.d (.int .i64)), shE] (fun p => msF p.1 p.2.1 p.2.2)
theorem msS_ok : SumOk Tryz.prog laidL 110 msS := by
 refine bridge rfl (fun _ => rfl) ?_
 rintro ⟨a, m, s⟩ r h g w vs _ ⟨_, _, rfl, ha, _, _, rfl, hb, _, _, rfl, hc, rfl⟩
 simp only [msF] at h
 cases hk : (i64B a && u32B m) with
 | false => rw [hk] at h; cases h
 | true =>
  rw [hk] at h
  obtain rfl := Option.some.inj h
  simp only [Bool.and_eq_true, i64B_iff, u32B_iff] at hk
  cases ha; cases hb; cases hc
  refine invokes_of_calls Tryz.func110 (by kernel_rfl) (by kernel_rfl) ((wide_MulShift a m s hk.1 hk.2.1 hk.2.2 w).mono ?_)
  rintro e w' ⟨rfl, hw⟩
  refine ⟨_, rfl, ?_, hw⟩
  unfold mulShiftR msP
  by_cases h : s < 0 ∨ 31 < s
  ·rw [if_pos h, if_pos h]; exact ⟨_, rfl, _, _, rfl, rfl, _, _, rfl, rfl, rfl⟩
  ·rw [if_neg h, if_neg h]; exact fitP_rep _
end Go.Proofs.YthpljlpokmoeeaaGreatDoor.Mir
namespace Go.Proofs.YthpljlpokmoeeaaGreatDoor.Mir
open Go Go.RowKit
set_option maxRecDepth 100000
def ti_2 : TI := ⟨.int .i64, 1, 8, [int .i64 0], [.int .i64]⟩
theorem tk_2 : TyOk1 Go.Proofs.Tryz.prog 2 ti_2 := ⟨by kernel_rfl, fieldsNone (fun fs h => by cases h), ⟨Go.Proofs.Tryz.t2, (Go.Proofs.Tryz.t2.zero).getD .nilIface, by kernel_rfl, by kernel_rfl, by kernel_rfl, by kernel_rfl, by kernel_rfl⟩⟩
def ti_3 : TI := ⟨.int .i64, 1, 8, [int .i64 0], [.int .i64]⟩
theorem tk_3 : TyOk1 Go.Proofs.Tryz.prog 3 ti_3 := ⟨by kernel_rfl, fieldsNone (fun fs h => by cases h), ⟨Go.Proofs.Tryz.t3, (Go.Proofs.Tryz.t3.zero).getD .nilIface, by kernel_rfl, by kernel_rfl, by kernel_rfl, by kernel_rfl, by kernel_rfl⟩⟩
def ti_4 : TI := ⟨.bool, 1, 1, [boolC false], [.bool]⟩
theorem tk_4 : TyOk1 Go.Proofs.Tryz.prog 4 ti_4 := ⟨by kernel_rfl, fieldsNone (fun fs h => by cases h), ⟨Go.Proofs.Tryz.t4, (Go.Proofs.Tryz.t4.zero).getD .nilIface, by kernel_rfl, by kernel_rfl, by kernel_rfl, by kernel_rfl, by kernel_rfl⟩⟩
def ti_5 : TI := ⟨.int .u8, 1, 1, [int .u8 0], [.int .u8]⟩
theorem tk_5 : TyOk1 Go.Proofs.Tryz.prog 5 ti_5 := ⟨by kernel_rfl, fieldsNone (fun fs h => by cases h), ⟨Go.Proofs.Tryz.t5, (Go.Proofs.Tryz.t5.zero).getD .nilIface, by kernel_rfl, by kernel_rfl, by kernel_rfl, by kernel_rfl, by kernel_rfl⟩⟩
def ti_9 : TI := ⟨.string, 1, 16, [.lit (.string ByteArray.empty)], [.str]⟩
theorem tk_9 : TyOk1 Go.Proofs.Tryz.prog 9 ti_9 := ⟨by kernel_rfl, fieldsNone (fun fs h => by cases h), ⟨Go.Proofs.Tryz.t9, (Go.Proofs.Tryz.t9.zero).getD .nilIface, by kernel_rfl, by kernel_rfl, by kernel_rfl, by kernel_rfl, by kernel_rfl⟩⟩
def ti_22 : TI := ⟨.int .u32, 1, 4, [int .u32 0], [.int .u32]⟩
theorem tk_22 : TyOk1 Go.Proofs.Tryz.prog 22 ti_22 := ⟨by kernel_rfl, fieldsNone (fun fs h => by cases h), ⟨Go.Proofs.Tryz.t22, (Go.Proofs.Tryz.t22.zero).getD .nilIface, by kernel_rfl, by kernel_rfl, by kernel_rfl, by kernel_rfl, by kernel_rfl⟩⟩
def ti_24 : TI := ⟨.struct #[{ name := "Mult", type := 22, offset := 0, embedded := false, tag := "", pkgPath := "", byteOffset := 0 }, { name := "Shift", type := 3, offset := 1, embedded := false, tag := "", pkgPath := "", byteOffset := 8 }], 2, 16, [int .u32 0, int .i64 0], [.int .u32, .int .i64]⟩
theorem tk_24 : TyOk1 Go.Proofs.Tryz.prog 24 ti_24 := ⟨by kernel_rfl, fieldsSome rfl (by kernel_rfl), ⟨Go.Proofs.Tryz.t24, (Go.Proofs.Tryz.t24.zero).getD .nilIface, by kernel_rfl, by kernel_rfl, by kernel_rfl, by kernel_rfl, by kernel_rfl⟩⟩
def ti_26 : TI := ⟨.struct #[{ name := "Epoch", type := 2, offset := 0, embedded := false, tag := "", pkgPath := "", byteOffset := 0 }, { name := "Base", type := 2, offset := 1, embedded := false, tag := "", pkgPath := "", byteOffset := 8 }, { name := "Tai", type := 2, offset := 2, embedded := false, tag := "", pkgPath := "", byteOffset := 16 }, { name := "Err", type := 2, offset := 3, embedded := false, tag := "", pkgPath := "", byteOffset := 24 }, { name := "Go", type := 24, offset := 4, embedded := false, tag := "", pkgPath := "", byteOffset := 32 }, { name := "Plain", type := 24, offset := 6, embedded := false, tag := "", pkgPath := "", byteOffset := 48 }, { name := "Parts", type := 2, offset := 8, embedded := false, tag := "", pkgPath := "", byteOffset := 64 }, { name := "Cap", type := 2, offset := 9, embedded := false, tag := "", pkgPath := "", byteOffset := 72 }], 10, 80, [int .i64 0, int .i64 0, int .i64 0, int .i64 0, int .u32 0, int .i64 0, int .u32 0, int .i64 0, int .i64 0, int .i64 0], [.int .i64, .int .i64, .int .i64, .int .i64, .int .u32, .int .i64, .int .u32, .int .i64, .int .i64, .int .i64]⟩
theorem tk_26 : TyOk1 Go.Proofs.Tryz.prog 26 ti_26 := ⟨by kernel_rfl, fieldsSome rfl (by kernel_rfl), ⟨Go.Proofs.Tryz.t26, (Go.Proofs.Tryz.t26.zero).getD .nilIface, by kernel_rfl, by kernel_rfl, by kernel_rfl, by kernel_rfl, by kernel_rfl⟩⟩
def ti_28 : TI := ⟨.struct #[{ name := "Kind", type := 3, offset := 0, embedded := false, tag := "", pkgPath := "", byteOffset := 0 }, { name := "Before", type := 2, offset := 1, embedded := false, tag := "", pkgPath := "", byteOffset := 8 }, { name := "After", type := 2, offset := 2, embedded := false, tag := "", pkgPath := "", byteOffset := 16 }], 3, 24, [int .i64 0, int .i64 0, int .i64 0], [.int .i64, .int .i64, .int .i64]⟩
theorem tk_28 : TyOk1 Go.Proofs.Tryz.prog 28 ti_28 := ⟨by kernel_rfl, fieldsSome rfl (by kernel_rfl), ⟨Go.Proofs.Tryz.t28, (Go.Proofs.Tryz.t28.zero).getD .nilIface, by kernel_rfl, by kernel_rfl, by kernel_rfl, by kernel_rfl, by kernel_rfl⟩⟩
def ti_30 : TI := ⟨.struct #[{ name := "Width", type := 2, offset := 0, embedded := false, tag := "", pkgPath := "", byteOffset := 0 }, { name := "Cell", type := 2, offset := 1, embedded := false, tag := "", pkgPath := "", byteOffset := 8 }], 2, 16, [int .i64 0, int .i64 0], [.int .i64, .int .i64]⟩
theorem tk_30 : TyOk1 Go.Proofs.Tryz.prog 30 ti_30 := ⟨by kernel_rfl, fieldsSome rfl (by kernel_rfl), ⟨Go.Proofs.Tryz.t30, (Go.Proofs.Tryz.t30.zero).getD .nilIface, by kernel_rfl, by kernel_rfl, by kernel_rfl, by kernel_rfl, by kernel_rfl⟩⟩
def ti_31 : TI := ⟨.slice 124, 1, 24, [.lit (.slice none 0 0)], [.sl [.int .i64, .int .i64, .str]]⟩
theorem tk_31 : TyOk1 Go.Proofs.Tryz.prog 31 ti_31 := ⟨by kernel_rfl, fieldsNone (fun fs h => by cases h), ⟨Go.Proofs.Tryz.t31, (Go.Proofs.Tryz.t31.zero).getD .nilIface, by kernel_rfl, by kernel_rfl, by kernel_rfl, by kernel_rfl, by kernel_rfl⟩⟩
def ti_33 : TI := ⟨.struct #[{ name := "Name", type := 9, offset := 0, embedded := false, tag := "", pkgPath := "", byteOffset := 0 }, { name := "First", type := 2, offset := 1, embedded := false, tag := "", pkgPath := "", byteOffset := 16 }, { name := "L", type := 31, offset := 2, embedded := false, tag := "", pkgPath := "", byteOffset := 24 }], 3, 48, [.lit (.string ByteArray.empty), int .i64 0, .lit (.slice none 0 0)], [.str, .int .i64, .sl [.int .i64, .int .i64, .str]]⟩
theorem tk_33 : TyOk1 Go.Proofs.Tryz.prog 33 ti_33 := ⟨by kernel_rfl, fieldsSome rfl (by kernel_rfl), ⟨Go.Proofs.Tryz.t33, (Go.Proofs.Tryz.t33.zero).getD .nilIface, by kernel_rfl, by kernel_rfl, by kernel_rfl, by kernel_rfl, by kernel_rfl⟩⟩
def ti_35 : TI := ⟨.struct #[{ name := "Smear", type := 28, offset := 0, embedded := false, tag := "", pkgPath := "", byteOffset := 0 }, { name := "Quantum", type := 2, offset := 3, embedded := false, tag := "", pkgPath := "", byteOffset := 24 }, { name := "Fuzz", type := 30, offset := 4, embedded := false, tag := "", pkgPath := "", byteOffset := 32 }, { name := "Jump", type := 4, offset := 6, embedded := false, tag := "", pkgPath := "", byteOffset := 48 }, { name := "Zone", type := 33, offset := 7, embedded := false, tag := "", pkgPath := "", byteOffset := 56 }], 10, 104, [int .i64 0, int .i64 0, int .i64 0, int .i64 0, int .i64 0, int .i64 0, boolC false, .lit (.string ByteArray.empty), int .i64 0, .lit (.slice none 0 0)], [.int .i64, .int .i64, .int .i64, .int .i64, .int .i64, .int .i64, .bool, .str, .int .i64, .sl [.int .i64, .int .i64, .str]]⟩
theorem tk_35 : TyOk1 Go.Proofs.Tryz.prog 35 ti_35 := ⟨by kernel_rfl, fieldsSome rfl (by kernel_rfl), ⟨Go.Proofs.Tryz.t35, (Go.Proofs.Tryz.t35.zero).getD .nilIface, by kernel_rfl, by kernel_rfl, by kernel_rfl, by kernel_rfl, by kernel_rfl⟩⟩
def ti_36 : TI := ⟨.array 3 2, 3, 24, [.arr .i64 3 (List.replicate 3 0)], [.arr .i64 3]⟩
theorem tk_36 : TyOk1 Go.Proofs.Tryz.prog 36 ti_36 := ⟨by kernel_rfl, fieldsNone (fun fs h => by cases h), ⟨Go.Proofs.Tryz.t36, (Go.Proofs.Tryz.t36.zero).getD .nilIface, by kernel_rfl, by kernel_rfl, by kernel_rfl, by kernel_rfl, by kernel_rfl⟩⟩
def ti_39 : TI := ⟨.struct #[{ name := "Mult", type := 22, offset := 0, embedded := false, tag := "", pkgPath := "", byteOffset := 0 }, { name := "Shift", type := 3, offset := 1, embedded := false, tag := "", pkgPath := "", byteOffset := 8 }], 2, 16, [int .u32 0, int .i64 0], [.int .u32, .int .i64]⟩
theorem tk_39 : TyOk1 Go.Proofs.Tryz.prog 39 ti_39 := ⟨by kernel_rfl, fieldsSome rfl (by kernel_rfl), ⟨Go.Proofs.Tryz.t39, (Go.Proofs.Tryz.t39.zero).getD .nilIface, by kernel_rfl, by kernel_rfl, by kernel_rfl, by kernel_rfl, by kernel_rfl⟩⟩
def ti_41 : TI := ⟨.struct #[{ name := "Epoch", type := 2, offset := 0, embedded := false, tag := "", pkgPath := "", byteOffset := 0 }, { name := "Base", type := 2, offset := 1, embedded := false, tag := "", pkgPath := "", byteOffset := 8 }, { name := "Tai", type := 2, offset := 2, embedded := false, tag := "", pkgPath := "", byteOffset := 16 }, { name := "Err", type := 2, offset := 3, embedded := false, tag := "", pkgPath := "", byteOffset := 24 }, { name := "Go", type := 39, offset := 4, embedded := false, tag := "", pkgPath := "", byteOffset := 32 }, { name := "Plain", type := 39, offset := 6, embedded := false, tag := "", pkgPath := "", byteOffset := 48 }, { name := "Parts", type := 2, offset := 8, embedded := false, tag := "", pkgPath := "", byteOffset := 64 }, { name := "Cap", type := 2, offset := 9, embedded := false, tag := "", pkgPath := "", byteOffset := 72 }], 10, 80, [int .i64 0, int .i64 0, int .i64 0, int .i64 0, int .u32 0, int .i64 0, int .u32 0, int .i64 0, int .i64 0, int .i64 0], [.int .i64, .int .i64, .int .i64, .int .i64, .int .u32, .int .i64, .int .u32, .int .i64, .int .i64, .int .i64]⟩
theorem tk_41 : TyOk1 Go.Proofs.Tryz.prog 41 ti_41 := ⟨by kernel_rfl, fieldsSome rfl (by kernel_rfl), ⟨Go.Proofs.Tryz.t41, (Go.Proofs.Tryz.t41.zero).getD .nilIface, by kernel_rfl, by kernel_rfl, by kernel_rfl, by kernel_rfl, by kernel_rfl⟩⟩
def ti_43 : TI := ⟨.struct #[{ name := "Kind", type := 3, offset := 0, embedded := false, tag := "", pkgPath := "", byteOffset := 0 }, { name := "Before", type := 2, offset := 1, embedded := false, tag := "", pkgPath := "", byteOffset := 8 }, { name := "After", type := 2, offset := 2, embedded := false, tag := "", pkgPath := "", byteOffset := 16 }], 3, 24, [int .i64 0, int .i64 0, int .i64 0], [.int .i64, .int .i64, .int .i64]⟩
theorem tk_43 : TyOk1 Go.Proofs.Tryz.prog 43 ti_43 := ⟨by kernel_rfl, fieldsSome rfl (by kernel_rfl), ⟨Go.Proofs.Tryz.t43, (Go.Proofs.Tryz.t43.zero).getD .nilIface, by kernel_rfl, by kernel_rfl, by kernel_rfl, by kernel_rfl, by kernel_rfl⟩⟩
def ti_44 : TI := ⟨.struct #[{ name := "Width", type := 2, offset := 0, embedded := false, tag := "", pkgPath := "", byteOffset := 0 }, { name := "Cell", type := 2, offset := 1, embedded := false, tag := "", pkgPath := "", byteOffset := 8 }], 2, 16, [int .i64 0, int .i64 0], [.int .i64, .int .i64]⟩
theorem tk_44 : TyOk1 Go.Proofs.Tryz.prog 44 ti_44 := ⟨by kernel_rfl, fieldsSome rfl (by kernel_rfl), ⟨Go.Proofs.Tryz.t44, (Go.Proofs.Tryz.t44.zero).getD .nilIface, by kernel_rfl, by kernel_rfl, by kernel_rfl, by kernel_rfl, by kernel_rfl⟩⟩
def ti_45 : TI := ⟨.slice 195, 1, 24, [.lit (.slice none 0 0)], [.sl [.int .i64, .int .i64, .str]]⟩
theorem tk_45 : TyOk1 Go.Proofs.Tryz.prog 45 ti_45 := ⟨by kernel_rfl, fieldsNone (fun fs h => by cases h), ⟨Go.Proofs.Tryz.t45, (Go.Proofs.Tryz.t45.zero).getD .nilIface, by kernel_rfl, by kernel_rfl, by kernel_rfl, by kernel_rfl, by kernel_rfl⟩⟩
def ti_47 : TI := ⟨.struct #[{ name := "Name", type := 9, offset := 0, embedded := false, tag := "", pkgPath := "", byteOffset := 0 }, { name := "First", type := 2, offset := 1, embedded := false, tag := "", pkgPath := "", byteOffset := 16 }, { name := "L", type := 45, offset := 2, embedded := false, tag := "", pkgPath := "", byteOffset := 24 }], 3, 48, [.lit (.string ByteArray.empty), int .i64 0, .lit (.slice none 0 0)], [.str, .int .i64, .sl [.int .i64, .int .i64, .str]]⟩
theorem tk_47 : TyOk1 Go.Proofs.Tryz.prog 47 ti_47 := ⟨by kernel_rfl, fieldsSome rfl (by kernel_rfl), ⟨Go.Proofs.Tryz.t47, (Go.Proofs.Tryz.t47.zero).getD .nilIface, by kernel_rfl, by kernel_rfl, by kernel_rfl, by kernel_rfl, by kernel_rfl⟩⟩
def ti_49 : TI := ⟨.struct #[{ name := "Smear", type := 43, offset := 0, embedded := false, tag := "", pkgPath := "", byteOffset := 0 }, { name := "Quantum", type := 2, offset := 3, embedded := false, tag := "", pkgPath := "", byteOffset := 24 }, { name := "Fuzz", type := 44, offset := 4, embedded := false, tag := "", pkgPath := "", byteOffset := 32 }, { name := "Jump", type := 4, offset := 6, embedded := false, tag := "", pkgPath := "", byteOffset := 48 }, { name := "Zone", type := 47, offset := 7, embedded := false, tag := "", pkgPath := "", byteOffset := 56 }], 10, 104, [int .i64 0, int .i64 0, int .i64 0, int .i64 0, int .i64 0, int .i64 0, boolC false, .lit (.string ByteArray.empty), int .i64 0, .lit (.slice none 0 0)], [.int .i64, .int .i64, .int .i64, .int .i64, .int .i64, .int .i64, .bool, .str, .int .i64, .sl [.int .i64, .int .i64, .str]]⟩
theorem tk_49 : TyOk1 Go.Proofs.Tryz.prog 49 ti_49 := ⟨by kernel_rfl, fieldsSome rfl (by kernel_rfl), ⟨Go.Proofs.Tryz.t49, (Go.Proofs.Tryz.t49.zero).getD .nilIface, by kernel_rfl, by kernel_rfl, by kernel_rfl, by kernel_rfl, by kernel_rfl⟩⟩
def ti_52 : TI := ⟨.struct #[{ name := "Set", type := 2, offset := 0, embedded := false, tag := "", pkgPath := "", byteOffset := 0 }, { name := "Age", type := 2, offset := 1, embedded := false, tag := "", pkgPath := "", byteOffset := 8 }, { name := "Fit", type := 2, offset := 2, embedded := false, tag := "", pkgPath := "", byteOffset := 16 }, { name := "Fuzz", type := 2, offset := 3, embedded := false, tag := "", pkgPath := "", byteOffset := 24 }, { name := "Step", type := 2, offset := 4, embedded := false, tag := "", pkgPath := "", byteOffset := 32 }, { name := "Leap", type := 2, offset := 5, embedded := false, tag := "", pkgPath := "", byteOffset := 40 }, { name := "Raise", type := 2, offset := 6, embedded := false, tag := "", pkgPath := "", byteOffset := 48 }], 7, 56, [int .i64 0, int .i64 0, int .i64 0, int .i64 0, int .i64 0, int .i64 0, int .i64 0], [.int .i64, .int .i64, .int .i64, .int .i64, .int .i64, .int .i64, .int .i64]⟩
theorem tk_52 : TyOk1 Go.Proofs.Tryz.prog 52 ti_52 := ⟨by kernel_rfl, fieldsSome rfl (by kernel_rfl), ⟨Go.Proofs.Tryz.t52, (Go.Proofs.Tryz.t52.zero).getD .nilIface, by kernel_rfl, by kernel_rfl, by kernel_rfl, by kernel_rfl, by kernel_rfl⟩⟩
def ti_54 : TI := ⟨.interface #[("Error", 349)], 1, 16, [.lit .nilIface], [.err 129]⟩
theorem tk_54 : TyOk1 Go.Proofs.Tryz.prog 54 ti_54 := ⟨by kernel_rfl, fieldsNone (fun fs h => by cases h), ⟨Go.Proofs.Tryz.t54, (Go.Proofs.Tryz.t54.zero).getD .nilIface, by kernel_rfl, by kernel_rfl, by kernel_rfl, by kernel_rfl, by kernel_rfl⟩⟩
def ti_57 : TI := ⟨.struct #[{ name := "Set", type := 2, offset := 0, embedded := false, tag := "", pkgPath := "", byteOffset := 0 }, { name := "Age", type := 2, offset := 1, embedded := false, tag := "", pkgPath := "", byteOffset := 8 }, { name := "Fit", type := 2, offset := 2, embedded := false, tag := "", pkgPath := "", byteOffset := 16 }, { name := "Fuzz", type := 2, offset := 3, embedded := false, tag := "", pkgPath := "", byteOffset := 24 }, { name := "Step", type := 2, offset := 4, embedded := false, tag := "", pkgPath := "", byteOffset := 32 }, { name := "Leap", type := 2, offset := 5, embedded := false, tag := "", pkgPath := "", byteOffset := 40 }, { name := "Raise", type := 2, offset := 6, embedded := false, tag := "", pkgPath := "", byteOffset := 48 }], 7, 56, [int .i64 0, int .i64 0, int .i64 0, int .i64 0, int .i64 0, int .i64 0, int .i64 0], [.int .i64, .int .i64, .int .i64, .int .i64, .int .i64, .int .i64, .int .i64]⟩
theorem tk_57 : TyOk1 Go.Proofs.Tryz.prog 57 ti_57 := ⟨by kernel_rfl, fieldsSome rfl (by kernel_rfl), ⟨Go.Proofs.Tryz.t57, (Go.Proofs.Tryz.t57.zero).getD .nilIface, by kernel_rfl, by kernel_rfl, by kernel_rfl, by kernel_rfl, by kernel_rfl⟩⟩
def ti_65 : TI := ⟨.struct #[{ name := "Value", type := 2, offset := 0, embedded := false, tag := "", pkgPath := "", byteOffset := 0 }, { name := "Bound", type := 2, offset := 1, embedded := false, tag := "", pkgPath := "", byteOffset := 8 }, { name := "Raised", type := 2, offset := 2, embedded := false, tag := "", pkgPath := "", byteOffset := 16 }, { name := "Host", type := 2, offset := 3, embedded := false, tag := "", pkgPath := "", byteOffset := 24 }], 4, 32, [int .i64 0, int .i64 0, int .i64 0, int .i64 0], [.int .i64, .int .i64, .int .i64, .int .i64]⟩
theorem tk_65 : TyOk1 Go.Proofs.Tryz.prog 65 ti_65 := ⟨by kernel_rfl, fieldsSome rfl (by kernel_rfl), ⟨Go.Proofs.Tryz.t65, (Go.Proofs.Tryz.t65.zero).getD .nilIface, by kernel_rfl, by kernel_rfl, by kernel_rfl, by kernel_rfl, by kernel_rfl⟩⟩
def ti_71 : TI := ⟨.array 16 5, 16, 16, [.arr .u8 16 (List.replicate 16 0)], [.arr .u8 16]⟩
theorem tk_71 : TyOk1 Go.Proofs.Tryz.prog 71 ti_71 := ⟨by kernel_rfl, fieldsNone (fun fs h => by cases h), ⟨Go.Proofs.Tryz.t71, (Go.Proofs.Tryz.t71.zero).getD .nilIface, by kernel_rfl, by kernel_rfl, by kernel_rfl, by kernel_rfl, by kernel_rfl⟩⟩
def ti_73 : TI := ⟨.struct #[{ name := "On", type := 4, offset := 0, embedded := false, tag := "", pkgPath := "", byteOffset := 0 }, { name := "At", type := 2, offset := 1, embedded := false, tag := "", pkgPath := "", byteOffset := 8 }, { name := "Lost", type := 2, offset := 2, embedded := false, tag := "", pkgPath := "", byteOffset := 16 }], 3, 24, [boolC false, int .i64 0, int .i64 0], [.bool, .int .i64, .int .i64]⟩
theorem tk_73 : TyOk1 Go.Proofs.Tryz.prog 73 ti_73 := ⟨by kernel_rfl, fieldsSome rfl (by kernel_rfl), ⟨Go.Proofs.Tryz.t73, (Go.Proofs.Tryz.t73.zero).getD .nilIface, by kernel_rfl, by kernel_rfl, by kernel_rfl, by kernel_rfl, by kernel_rfl⟩⟩
def ti_75 : TI := ⟨.struct #[{ name := "Set", type := 4, offset := 0, embedded := false, tag := "", pkgPath := "", byteOffset := 0 }, { name := "At", type := 2, offset := 1, embedded := false, tag := "", pkgPath := "", byteOffset := 8 }], 2, 16, [boolC false, int .i64 0], [.bool, .int .i64]⟩
theorem tk_75 : TyOk1 Go.Proofs.Tryz.prog 75 ti_75 := ⟨by kernel_rfl, fieldsSome rfl (by kernel_rfl), ⟨Go.Proofs.Tryz.t75, (Go.Proofs.Tryz.t75.zero).getD .nilIface, by kernel_rfl, by kernel_rfl, by kernel_rfl, by kernel_rfl, by kernel_rfl⟩⟩
def ti_77 : TI := ⟨.struct #[{ name := "Name", type := 9, offset := 0, embedded := false, tag := "", pkgPath := "", byteOffset := 0 }, { name := "Key", type := 71, offset := 1, embedded := false, tag := "", pkgPath := "", byteOffset := 16 }, { name := "P", type := 35, offset := 17, embedded := false, tag := "", pkgPath := "", byteOffset := 32 }, { name := "Pause", type := 73, offset := 27, embedded := false, tag := "", pkgPath := "", byteOffset := 136 }, { name := "Floor", type := 75, offset := 30, embedded := false, tag := "", pkgPath := "", byteOffset := 160 }, { name := "Epoch", type := 2, offset := 32, embedded := false, tag := "", pkgPath := "", byteOffset := 176 }], 33, 184, [.lit (.string ByteArray.empty), .arr .u8 16 (List.replicate 16 0), int .i64 0, int .i64 0, int .i64 0, int .i64 0, int .i64 0, int .i64 0, boolC false, .lit (.string ByteArray.empty), int .i64 0, .lit (.slice none 0 0), boolC false, int .i64 0, int .i64 0, boolC false, int .i64 0, int .i64 0], [.str, .arr .u8 16, .int .i64, .int .i64, .int .i64, .int .i64, .int .i64, .int .i64, .bool, .str, .int .i64, .sl [.int .i64, .int .i64, .str], .bool, .int .i64, .int .i64, .bool, .int .i64, .int .i64]⟩
theorem tk_77 : TyOk1 Go.Proofs.Tryz.prog 77 ti_77 := ⟨by kernel_rfl, fieldsSome rfl (by kernel_rfl), ⟨Go.Proofs.Tryz.t77, (Go.Proofs.Tryz.t77.zero).getD .nilIface, by kernel_rfl, by kernel_rfl, by kernel_rfl, by kernel_rfl, by kernel_rfl⟩⟩
def ti_78 : TI := ⟨.slice 2, 1, 24, [.lit (.slice none 0 0)], [.sl [.int .i64]]⟩
theorem tk_78 : TyOk1 Go.Proofs.Tryz.prog 78 ti_78 := ⟨by kernel_rfl, fieldsNone (fun fs h => by cases h), ⟨Go.Proofs.Tryz.t78, (Go.Proofs.Tryz.t78.zero).getD .nilIface, by kernel_rfl, by kernel_rfl, by kernel_rfl, by kernel_rfl, by kernel_rfl⟩⟩
def ti_80 : TI := ⟨.struct #[{ name := "Base", type := 2, offset := 0, embedded := false, tag := "", pkgPath := "", byteOffset := 0 }, { name := "Last", type := 2, offset := 1, embedded := false, tag := "", pkgPath := "", byteOffset := 8 }, { name := "L", type := 78, offset := 2, embedded := false, tag := "", pkgPath := "", byteOffset := 16 }], 3, 40, [int .i64 0, int .i64 0, .lit (.slice none 0 0)], [.int .i64, .int .i64, .sl [.int .i64]]⟩
theorem tk_80 : TyOk1 Go.Proofs.Tryz.prog 80 ti_80 := ⟨by kernel_rfl, fieldsSome rfl (by kernel_rfl), ⟨Go.Proofs.Tryz.t80, (Go.Proofs.Tryz.t80.zero).getD .nilIface, by kernel_rfl, by kernel_rfl, by kernel_rfl, by kernel_rfl, by kernel_rfl⟩⟩
def ti_81 : TI := ⟨.array 16 5, 16, 16, [.arr .u8 16 (List.replicate 16 0)], [.arr .u8 16]⟩
theorem tk_81 : TyOk1 Go.Proofs.Tryz.prog 81 ti_81 := ⟨by kernel_rfl, fieldsNone (fun fs h => by cases h), ⟨Go.Proofs.Tryz.t81, (Go.Proofs.Tryz.t81.zero).getD .nilIface, by kernel_rfl, by kernel_rfl, by kernel_rfl, by kernel_rfl, by kernel_rfl⟩⟩
def ti_82 : TI := ⟨.struct #[{ name := "On", type := 4, offset := 0, embedded := false, tag := "", pkgPath := "", byteOffset := 0 }, { name := "At", type := 2, offset := 1, embedded := false, tag := "", pkgPath := "", byteOffset := 8 }, { name := "Lost", type := 2, offset := 2, embedded := false, tag := "", pkgPath := "", byteOffset := 16 }], 3, 24, [boolC false, int .i64 0, int .i64 0], [.bool, .int .i64, .int .i64]⟩
theorem tk_82 : TyOk1 Go.Proofs.Tryz.prog 82 ti_82 := ⟨by kernel_rfl, fieldsSome rfl (by kernel_rfl), ⟨Go.Proofs.Tryz.t82, (Go.Proofs.Tryz.t82.zero).getD .nilIface, by kernel_rfl, by kernel_rfl, by kernel_rfl, by kernel_rfl, by kernel_rfl⟩⟩
def ti_83 : TI := ⟨.struct #[{ name := "Set", type := 4, offset := 0, embedded := false, tag := "", pkgPath := "", byteOffset := 0 }, { name := "At", type := 2, offset := 1, embedded := false, tag := "", pkgPath := "", byteOffset := 8 }], 2, 16, [boolC false, int .i64 0], [.bool, .int .i64]⟩
theorem tk_83 : TyOk1 Go.Proofs.Tryz.prog 83 ti_83 := ⟨by kernel_rfl, fieldsSome rfl (by kernel_rfl), ⟨Go.Proofs.Tryz.t83, (Go.Proofs.Tryz.t83.zero).getD .nilIface, by kernel_rfl, by kernel_rfl, by kernel_rfl, by kernel_rfl, by kernel_rfl⟩⟩
def ti_85 : TI := ⟨.struct #[{ name := "Name", type := 9, offset := 0, embedded := false, tag := "", pkgPath := "", byteOffset := 0 }, { name := "Key", type := 81, offset := 1, embedded := false, tag := "", pkgPath := "", byteOffset := 16 }, { name := "P", type := 49, offset := 17, embedded := false, tag := "", pkgPath := "", byteOffset := 32 }, { name := "Pause", type := 82, offset := 27, embedded := false, tag := "", pkgPath := "", byteOffset := 136 }, { name := "Floor", type := 83, offset := 30, embedded := false, tag := "", pkgPath := "", byteOffset := 160 }, { name := "Epoch", type := 2, offset := 32, embedded := false, tag := "", pkgPath := "", byteOffset := 176 }], 33, 184, [.lit (.string ByteArray.empty), .arr .u8 16 (List.replicate 16 0), int .i64 0, int .i64 0, int .i64 0, int .i64 0, int .i64 0, int .i64 0, boolC false, .lit (.string ByteArray.empty), int .i64 0, .lit (.slice none 0 0), boolC false, int .i64 0, int .i64 0, boolC false, int .i64 0, int .i64 0], [.str, .arr .u8 16, .int .i64, .int .i64, .int .i64, .int .i64, .int .i64, .int .i64, .bool, .str, .int .i64, .sl [.int .i64, .int .i64, .str], .bool, .int .i64, .int .i64, .bool, .int .i64, .int .i64]⟩
theorem tk_85 : TyOk1 Go.Proofs.Tryz.prog 85 ti_85 := ⟨by kernel_rfl, fieldsSome rfl (by kernel_rfl), ⟨Go.Proofs.Tryz.t85, (Go.Proofs.Tryz.t85.zero).getD .nilIface, by kernel_rfl, by kernel_rfl, by kernel_rfl, by kernel_rfl, by kernel_rfl⟩⟩
def ti_87 : TI := ⟨.struct #[{ name := "Base", type := 2, offset := 0, embedded := false, tag := "", pkgPath := "", byteOffset := 0 }, { name := "Last", type := 2, offset := 1, embedded := false, tag := "", pkgPath := "", byteOffset := 8 }, { name := "L", type := 78, offset := 2, embedded := false, tag := "", pkgPath := "", byteOffset := 16 }], 3, 40, [int .i64 0, int .i64 0, .lit (.slice none 0 0)], [.int .i64, .int .i64, .sl [.int .i64]]⟩
theorem tk_87 : TyOk1 Go.Proofs.Tryz.prog 87 ti_87 := ⟨by kernel_rfl, fieldsSome rfl (by kernel_rfl), ⟨Go.Proofs.Tryz.t87, (Go.Proofs.Tryz.t87.zero).getD .nilIface, by kernel_rfl, by kernel_rfl, by kernel_rfl, by kernel_rfl, by kernel_rfl⟩⟩
def ti_95 : TI := ⟨.struct #[{ name := "Tai", type := 2, offset := 0, embedded := false, tag := "", pkgPath := "", byteOffset := 0 }, { name := "Off", type := 2, offset := 1, embedded := false, tag := "", pkgPath := "", byteOffset := 8 }, { name := "P", type := 35, offset := 2, embedded := false, tag := "", pkgPath := "", byteOffset := 16 }, { name := "Kind", type := 3, offset := 12, embedded := false, tag := "", pkgPath := "", byteOffset := 120 }], 13, 128, [int .i64 0, int .i64 0, int .i64 0, int .i64 0, int .i64 0, int .i64 0, int .i64 0, int .i64 0, boolC false, .lit (.string ByteArray.empty), int .i64 0, .lit (.slice none 0 0), int .i64 0], [.int .i64, .int .i64, .int .i64, .int .i64, .int .i64, .int .i64, .int .i64, .int .i64, .bool, .str, .int .i64, .sl [.int .i64, .int .i64, .str], .int .i64]⟩
theorem tk_95 : TyOk1 Go.Proofs.Tryz.prog 95 ti_95 := ⟨by kernel_rfl, fieldsSome rfl (by kernel_rfl), ⟨Go.Proofs.Tryz.t95, (Go.Proofs.Tryz.t95.zero).getD .nilIface, by kernel_rfl, by kernel_rfl, by kernel_rfl, by kernel_rfl, by kernel_rfl⟩⟩
def ti_96 : TI := ⟨.struct #[{ name := "Value", type := 2, offset := 0, embedded := false, tag := "", pkgPath := "", byteOffset := 0 }, { name := "Bound", type := 2, offset := 1, embedded := false, tag := "", pkgPath := "", byteOffset := 8 }, { name := "Raised", type := 2, offset := 2, embedded := false, tag := "", pkgPath := "", byteOffset := 16 }, { name := "Host", type := 2, offset := 3, embedded := false, tag := "", pkgPath := "", byteOffset := 24 }], 4, 32, [int .i64 0, int .i64 0, int .i64 0, int .i64 0], [.int .i64, .int .i64, .int .i64, .int .i64]⟩
theorem tk_96 : TyOk1 Go.Proofs.Tryz.prog 96 ti_96 := ⟨by kernel_rfl, fieldsSome rfl (by kernel_rfl), ⟨Go.Proofs.Tryz.t96, (Go.Proofs.Tryz.t96.zero).getD .nilIface, by kernel_rfl, by kernel_rfl, by kernel_rfl, by kernel_rfl, by kernel_rfl⟩⟩
def ti_108 : TI := ⟨.struct #[{ name := "Day", type := 2, offset := 0, embedded := false, tag := "", pkgPath := "", byteOffset := 0 }, { name := "Second", type := 2, offset := 1, embedded := false, tag := "", pkgPath := "", byteOffset := 8 }], 2, 16, [int .i64 0, int .i64 0], [.int .i64, .int .i64]⟩
theorem tk_108 : TyOk1 Go.Proofs.Tryz.prog 108 ti_108 := ⟨by kernel_rfl, fieldsSome rfl (by kernel_rfl), ⟨Go.Proofs.Tryz.t108, (Go.Proofs.Tryz.t108.zero).getD .nilIface, by kernel_rfl, by kernel_rfl, by kernel_rfl, by kernel_rfl, by kernel_rfl⟩⟩
def ti_111 : TI := ⟨.struct #[{ name := "Day", type := 2, offset := 0, embedded := false, tag := "", pkgPath := "", byteOffset := 0 }, { name := "Second", type := 2, offset := 1, embedded := false, tag := "", pkgPath := "", byteOffset := 8 }], 2, 16, [int .i64 0, int .i64 0], [.int .i64, .int .i64]⟩
theorem tk_111 : TyOk1 Go.Proofs.Tryz.prog 111 ti_111 := ⟨by kernel_rfl, fieldsSome rfl (by kernel_rfl), ⟨Go.Proofs.Tryz.t111, (Go.Proofs.Tryz.t111.zero).getD .nilIface, by kernel_rfl, by kernel_rfl, by kernel_rfl, by kernel_rfl, by kernel_rfl⟩⟩
def ti_116 : TI := ⟨.slice 95, 1, 24, [.lit (.slice none 0 0)], [.sl [.int .i64, .int .i64, .int .i64, .int .i64, .int .i64, .int .i64, .int .i64, .int .i64, .bool, .str, .int .i64, .sl [.int .i64, .int .i64, .str], .int .i64]]⟩
theorem tk_116 : TyOk1 Go.Proofs.Tryz.prog 116 ti_116 := ⟨by kernel_rfl, fieldsNone (fun fs h => by cases h), ⟨Go.Proofs.Tryz.t116, (Go.Proofs.Tryz.t116.zero).getD .nilIface, by kernel_rfl, by kernel_rfl, by kernel_rfl, by kernel_rfl, by kernel_rfl⟩⟩
def ti_118 : TI := ⟨.array 2 2, 2, 16, [.arr .i64 2 (List.replicate 2 0)], [.arr .i64 2]⟩
theorem tk_118 : TyOk1 Go.Proofs.Tryz.prog 118 ti_118 := ⟨by kernel_rfl, fieldsNone (fun fs h => by cases h), ⟨Go.Proofs.Tryz.t118, (Go.Proofs.Tryz.t118.zero).getD .nilIface, by kernel_rfl, by kernel_rfl, by kernel_rfl, by kernel_rfl, by kernel_rfl⟩⟩
def ti_124 : TI := ⟨.struct #[{ name := "At", type := 2, offset := 0, embedded := false, tag := "", pkgPath := "", byteOffset := 0 }, { name := "Off", type := 2, offset := 1, embedded := false, tag := "", pkgPath := "", byteOffset := 8 }, { name := "Name", type := 9, offset := 2, embedded := false, tag := "", pkgPath := "", byteOffset := 16 }], 3, 32, [int .i64 0, int .i64 0, .lit (.string ByteArray.empty)], [.int .i64, .int .i64, .str]⟩
theorem tk_124 : TyOk1 Go.Proofs.Tryz.prog 124 ti_124 := ⟨by kernel_rfl, fieldsSome rfl (by kernel_rfl), ⟨Go.Proofs.Tryz.t124, (Go.Proofs.Tryz.t124.zero).getD .nilIface, by kernel_rfl, by kernel_rfl, by kernel_rfl, by kernel_rfl, by kernel_rfl⟩⟩
def ti_129 : TI := ⟨.int .i64, 1, 8, [int .i64 0], [.int .i64]⟩
theorem tk_129 : TyOk1 Go.Proofs.Tryz.prog 129 ti_129 := ⟨by kernel_rfl, fieldsNone (fun fs h => by cases h), ⟨Go.Proofs.Tryz.t129, (Go.Proofs.Tryz.t129.zero).getD .nilIface, by kernel_rfl, by kernel_rfl, by kernel_rfl, by kernel_rfl, by kernel_rfl⟩⟩
def ti_138 : TI := ⟨.int .u64, 1, 8, [int .u64 0], [.int .u64]⟩
theorem tk_138 : TyOk1 Go.Proofs.Tryz.prog 138 ti_138 := ⟨by kernel_rfl, fieldsNone (fun fs h => by cases h), ⟨Go.Proofs.Tryz.t138, (Go.Proofs.Tryz.t138.zero).getD .nilIface, by kernel_rfl, by kernel_rfl, by kernel_rfl, by kernel_rfl, by kernel_rfl⟩⟩
def ti_139 : TI := ⟨.array 8 138, 8, 64, [.arr .u64 8 (List.replicate 8 0)], [.arr .u64 8]⟩
theorem tk_139 : TyOk1 Go.Proofs.Tryz.prog 139 ti_139 := ⟨by kernel_rfl, fieldsNone (fun fs h => by cases h), ⟨Go.Proofs.Tryz.t139, (Go.Proofs.Tryz.t139.zero).getD .nilIface, by kernel_rfl, by kernel_rfl, by kernel_rfl, by kernel_rfl, by kernel_rfl⟩⟩
def ti_141 : TI := ⟨.struct #[{ name := "Neg", type := 4, offset := 0, embedded := false, tag := "", pkgPath := "", byteOffset := 0 }, { name := "B", type := 139, offset := 1, embedded := false, tag := "", pkgPath := "", byteOffset := 8 }], 9, 72, [boolC false, .arr .u64 8 (List.replicate 8 0)], [.bool, .arr .u64 8]⟩
theorem tk_141 : TyOk1 Go.Proofs.Tryz.prog 141 ti_141 := ⟨by kernel_rfl, fieldsSome rfl (by kernel_rfl), ⟨Go.Proofs.Tryz.t141, (Go.Proofs.Tryz.t141.zero).getD .nilIface, by kernel_rfl, by kernel_rfl, by kernel_rfl, by kernel_rfl, by kernel_rfl⟩⟩
def ti_156 : TI := ⟨.pointer 129, 1, 8, [.lit (Value.pointer none)], []⟩
theorem tk_156 : TyOk1 Go.Proofs.Tryz.prog 156 ti_156 := ⟨by kernel_rfl, fieldsNone (fun fs h => by cases h), ⟨Go.Proofs.Tryz.t156, (Go.Proofs.Tryz.t156.zero).getD .nilIface, by kernel_rfl, by kernel_rfl, by kernel_rfl, by kernel_rfl, by kernel_rfl⟩⟩
def ti_195 : TI := ⟨.struct #[{ name := "At", type := 2, offset := 0, embedded := false, tag := "", pkgPath := "", byteOffset := 0 }, { name := "Off", type := 2, offset := 1, embedded := false, tag := "", pkgPath := "", byteOffset := 8 }, { name := "Name", type := 9, offset := 2, embedded := false, tag := "", pkgPath := "", byteOffset := 16 }], 3, 32, [int .i64 0, int .i64 0, .lit (.string ByteArray.empty)], [.int .i64, .int .i64, .str]⟩
theorem tk_195 : TyOk1 Go.Proofs.Tryz.prog 195 ti_195 := ⟨by kernel_rfl, fieldsSome rfl (by kernel_rfl), ⟨Go.Proofs.Tryz.t195, (Go.Proofs.Tryz.t195.zero).getD .nilIface, by kernel_rfl, by kernel_rfl, by kernel_rfl, by kernel_rfl, by kernel_rfl⟩⟩
def ti_200 : TI := ⟨.array 4 54, 4, 64, [.lit .nilIface, .lit .nilIface, .lit .nilIface, .lit .nilIface], [.err 129, .err 129, .err 129, .err 129]⟩
theorem tk_200 : TyOk1 Go.Proofs.Tryz.prog 200 ti_200 := ⟨by kernel_rfl, fieldsNone (fun fs h => by cases h), ⟨Go.Proofs.Tryz.t200, (Go.Proofs.Tryz.t200.zero).getD .nilIface, by kernel_rfl, by kernel_rfl, by kernel_rfl, by kernel_rfl, by kernel_rfl⟩⟩
def ti_203 : TI := ⟨.struct #[{ name := "Hi", type := 2, offset := 0, embedded := false, tag := "", pkgPath := "", byteOffset := 0 }, { name := "Lo", type := 138, offset := 1, embedded := false, tag := "", pkgPath := "", byteOffset := 8 }], 2, 16, [int .i64 0, int .u64 0], [.int .i64, .int .u64]⟩
theorem tk_203 : TyOk1 Go.Proofs.Tryz.prog 203 ti_203 := ⟨by kernel_rfl, fieldsSome rfl (by kernel_rfl), ⟨Go.Proofs.Tryz.t203, (Go.Proofs.Tryz.t203.zero).getD .nilIface, by kernel_rfl, by kernel_rfl, by kernel_rfl, by kernel_rfl, by kernel_rfl⟩⟩
def ti_217 : TI := ⟨.int .u64, 1, 8, [int .u64 0], [.int .u64]⟩
theorem tk_217 : TyOk1 Go.Proofs.Tryz.prog 217 ti_217 := ⟨by kernel_rfl, fieldsNone (fun fs h => by cases h), ⟨Go.Proofs.Tryz.t217, (Go.Proofs.Tryz.t217.zero).getD .nilIface, by kernel_rfl, by kernel_rfl, by kernel_rfl, by kernel_rfl, by kernel_rfl⟩⟩
def ti_254 : TI := ⟨.struct #[{ name := "Day", type := 2, offset := 0, embedded := false, tag := "", pkgPath := "", byteOffset := 0 }, { name := "Second", type := 2, offset := 1, embedded := false, tag := "", pkgPath := "", byteOffset := 8 }, { name := "Nano", type := 2, offset := 2, embedded := false, tag := "", pkgPath := "", byteOffset := 16 }], 3, 24, [int .i64 0, int .i64 0, int .i64 0], [.int .i64, .int .i64, .int .i64]⟩
theorem tk_254 : TyOk1 Go.Proofs.Tryz.prog 254 ti_254 := ⟨by kernel_rfl, fieldsSome rfl (by kernel_rfl), ⟨Go.Proofs.Tryz.t254, (Go.Proofs.Tryz.t254.zero).getD .nilIface, by kernel_rfl, by kernel_rfl, by kernel_rfl, by kernel_rfl, by kernel_rfl⟩⟩
def ti_290 : TI := ⟨.struct #[{ name := "Day", type := 2, offset := 0, embedded := false, tag := "", pkgPath := "", byteOffset := 0 }, { name := "Second", type := 2, offset := 1, embedded := false, tag := "", pkgPath := "", byteOffset := 8 }, { name := "Nano", type := 2, offset := 2, embedded := false, tag := "", pkgPath := "", byteOffset := 16 }], 3, 24, [int .i64 0, int .i64 0, int .i64 0], [.int .i64, .int .i64, .int .i64]⟩
theorem tk_290 : TyOk1 Go.Proofs.Tryz.prog 290 ti_290 := ⟨by kernel_rfl, fieldsSome rfl (by kernel_rfl), ⟨Go.Proofs.Tryz.t290, (Go.Proofs.Tryz.t290.zero).getD .nilIface, by kernel_rfl, by kernel_rfl, by kernel_rfl, by kernel_rfl, by kernel_rfl⟩⟩
def ti_305 : TI := ⟨.slice 5, 1, 24, [.lit (.slice none 0 0)], [.sl [.int .u8]]⟩
theorem tk_305 : TyOk1 Go.Proofs.Tryz.prog 305 ti_305 := ⟨by kernel_rfl, fieldsNone (fun fs h => by cases h), ⟨Go.Proofs.Tryz.t305, (Go.Proofs.Tryz.t305.zero).getD .nilIface, by kernel_rfl, by kernel_rfl, by kernel_rfl, by kernel_rfl, by kernel_rfl⟩⟩
def ti_323 : TI := ⟨.array 4 138, 4, 32, [.arr .u64 4 (List.replicate 4 0)], [.arr .u64 4]⟩
theorem tk_323 : TyOk1 Go.Proofs.Tryz.prog 323 ti_323 := ⟨by kernel_rfl, fieldsNone (fun fs h => by cases h), ⟨Go.Proofs.Tryz.t323, (Go.Proofs.Tryz.t323.zero).getD .nilIface, by kernel_rfl, by kernel_rfl, by kernel_rfl, by kernel_rfl, by kernel_rfl⟩⟩
def ti_327 : TI := ⟨.struct #[{ name := "a", type := 138, offset := 0, embedded := false, tag := "", pkgPath := "fusee/prf", byteOffset := 0 }, { name := "b", type := 138, offset := 1, embedded := false, tag := "", pkgPath := "fusee/prf", byteOffset := 8 }, { name := "c", type := 138, offset := 2, embedded := false, tag := "", pkgPath := "fusee/prf", byteOffset := 16 }, { name := "d", type := 138, offset := 3, embedded := false, tag := "", pkgPath := "fusee/prf", byteOffset := 24 }], 4, 32, [int .u64 0, int .u64 0, int .u64 0, int .u64 0], [.int .u64, .int .u64, .int .u64, .int .u64]⟩
theorem tk_327 : TyOk1 Go.Proofs.Tryz.prog 327 ti_327 := ⟨by kernel_rfl, fieldsSome rfl (by kernel_rfl), ⟨Go.Proofs.Tryz.t327, (Go.Proofs.Tryz.t327.zero).getD .nilIface, by kernel_rfl, by kernel_rfl, by kernel_rfl, by kernel_rfl, by kernel_rfl⟩⟩
def ti_329 : TI := ⟨.array 8 5, 8, 8, [.arr .u8 8 (List.replicate 8 0)], [.arr .u8 8]⟩
theorem tk_329 : TyOk1 Go.Proofs.Tryz.prog 329 ti_329 := ⟨by kernel_rfl, fieldsNone (fun fs h => by cases h), ⟨Go.Proofs.Tryz.t329, (Go.Proofs.Tryz.t329.zero).getD .nilIface, by kernel_rfl, by kernel_rfl, by kernel_rfl, by kernel_rfl, by kernel_rfl⟩⟩
def ti_332 : TI := ⟨.struct #[{ name := "B", type := 305, offset := 0, embedded := false, tag := "", pkgPath := "", byteOffset := 0 }, { name := "Bad", type := 4, offset := 1, embedded := false, tag := "", pkgPath := "", byteOffset := 24 }], 2, 32, [.lit (.slice none 0 0), boolC false], [.sl [.int .u8], .bool]⟩
theorem tk_332 : TyOk1 Go.Proofs.Tryz.prog 332 ti_332 := ⟨by kernel_rfl, fieldsSome rfl (by kernel_rfl), ⟨Go.Proofs.Tryz.t332, (Go.Proofs.Tryz.t332.zero).getD .nilIface, by kernel_rfl, by kernel_rfl, by kernel_rfl, by kernel_rfl, by kernel_rfl⟩⟩
def ti_341 : TI := ⟨.struct #[{ name := "b", type := 305, offset := 0, embedded := false, tag := "", pkgPath := "fusee/fields", byteOffset := 0 }, { name := "bad", type := 4, offset := 1, embedded := false, tag := "", pkgPath := "fusee/fields", byteOffset := 24 }], 2, 32, [.lit (.slice none 0 0), boolC false], [.sl [.int .u8], .bool]⟩
theorem tk_341 : TyOk1 Go.Proofs.Tryz.prog 341 ti_341 := ⟨by kernel_rfl, fieldsSome rfl (by kernel_rfl), ⟨Go.Proofs.Tryz.t341, (Go.Proofs.Tryz.t341.zero).getD .nilIface, by kernel_rfl, by kernel_rfl, by kernel_rfl, by kernel_rfl, by kernel_rfl⟩⟩
def tab : List (Nat × TI) := [(2, ti_2), (3, ti_3), (4, ti_4), (5, ti_5), (9, ti_9), (22, ti_22), (24, ti_24), (26, ti_26), (28, ti_28), (30, ti_30), (31, ti_31), (33, ti_33), (35, ti_35), (36, ti_36), (39, ti_39), (41, ti_41), (43, ti_43), (44, ti_44), (45, ti_45), (47, ti_47), (49, ti_49), (52, ti_52), (54, ti_54), (57, ti_57), (65, ti_65), (71, ti_71), (73, ti_73), (75, ti_75), (77, ti_77), (78, ti_78), (80, ti_80), (81, ti_81), (82, ti_82), (83, ti_83), (85, ti_85), (87, ti_87), (95, ti_95), (96, ti_96), (108, ti_108), (111, ti_111), (116, ti_116), (118, ti_118), (124, ti_124), (129, ti_129), (138, ti_138), (139, ti_139), (141, ti_141), (156, ti_156), (195, ti_195), (200, ti_200), (203, ti_203), (217, ti_217), (254, ti_254), (290, ti_290), (305, ti_305), (323, ti_323), (327, ti_327), (329, ti_329), (332, ti_332), (341, ti_341)]
def tyT : TypeId → Option TI := lookT tab
theorem tyOk : TyOk Go.Proofs.Tryz.prog tyT := TysOk.ok (tysOk_cons tk_2 (tysOk_cons tk_3 (tysOk_cons tk_4 (tysOk_cons tk_5 (tysOk_cons tk_9 (tysOk_cons tk_22 (tysOk_cons tk_24 (tysOk_cons tk_26 (tysOk_cons tk_28 (tysOk_cons tk_30 (tysOk_cons tk_31 (tysOk_cons tk_33 (tysOk_cons tk_35 (tysOk_cons tk_36 (tysOk_cons tk_39 (tysOk_cons tk_41 (tysOk_cons tk_43 (tysOk_cons tk_44 (tysOk_cons tk_45 (tysOk_cons tk_47 (tysOk_cons tk_49 (tysOk_cons tk_52 (tysOk_cons tk_54 (tysOk_cons tk_57 (tysOk_cons tk_65 (tysOk_cons tk_71 (tysOk_cons tk_73 (tysOk_cons tk_75 (tysOk_cons tk_77 (tysOk_cons tk_78 (tysOk_cons tk_80 (tysOk_cons tk_81 (tysOk_cons tk_82 (tysOk_cons tk_83 (tysOk_cons tk_85 (tysOk_cons tk_87 (tysOk_cons tk_95 (tysOk_cons tk_96 (tysOk_cons tk_108 (tysOk_cons tk_111 (tysOk_cons tk_116 (tysOk_cons tk_118 (tysOk_cons tk_124 (tysOk_cons tk_129 (tysOk_cons tk_138 (tysOk_cons tk_139 (tysOk_cons tk_141 (tysOk_cons tk_156 (tysOk_cons tk_195 (tysOk_cons tk_200 (tysOk_cons tk_203 (tysOk_cons tk_217 (tysOk_cons tk_254 (tysOk_cons tk_290 (tysOk_cons tk_305 (tysOk_cons tk_323 (tysOk_cons tk_327 (tysOk_cons tk_329 (tysOk_cons tk_332 (tysOk_cons tk_341 tysOk_nil))))))))))))))))))))))))))))))))))))))))))))))))))))))))))))
theorem ek_43 : EqOk Go.Proofs.Tryz.prog 43 (eqQ [.int .i64, .int .i64, .int .i64]) := eqQ_ok (d := 9) (by kernel_rfl) (by omega) (by kernel_rfl) (by kernel_rfl)
theorem ek_44 : EqOk Go.Proofs.Tryz.prog 44 (eqQ [.int .i64, .int .i64]) := eqQ_ok (d := 9) (by kernel_rfl) (by omega) (by kernel_rfl) (by kernel_rfl)
theorem ek_52 : EqOk Go.Proofs.Tryz.prog 52 (eqQ [.int .i64, .int .i64, .int .i64, .int .i64, .int .i64, .int .i64, .int .i64]) := eqQ_ok (d := 9) (by kernel_rfl) (by omega) (by kernel_rfl) (by kernel_rfl)
theorem ek_65 : EqOk Go.Proofs.Tryz.prog 65 (eqQ [.int .i64, .int .i64, .int .i64, .int .i64]) := eqQ_ok (d := 9) (by kernel_rfl) (by omega) (by kernel_rfl) (by kernel_rfl)
theorem ek_81 : EqOk Go.Proofs.Tryz.prog 81 (eqQ [.arr .u8 16]) := eqQ_ok (d := 9) (by kernel_rfl) (by omega) (by kernel_rfl) (by kernel_rfl)
theorem ek_82 : EqOk Go.Proofs.Tryz.prog 82 (eqQ [.bool, .int .i64, .int .i64]) := eqQ_ok (d := 9) (by kernel_rfl) (by omega) (by kernel_rfl) (by kernel_rfl)
theorem ek_83 : EqOk Go.Proofs.Tryz.prog 83 (eqQ [.bool, .int .i64]) := eqQ_ok (d := 9) (by kernel_rfl) (by omega) (by kernel_rfl) (by kernel_rfl)
theorem ek_108 : EqOk Go.Proofs.Tryz.prog 108 (eqQ [.int .i64, .int .i64]) := eqQ_ok (d := 9) (by kernel_rfl) (by omega) (by kernel_rfl) (by kernel_rfl)
theorem ek_195 : EqOk Go.Proofs.Tryz.prog 195 (eqQ [.int .i64, .int .i64, .str]) := eqQ_ok (d := 9) (by kernel_rfl) (by omega) (by kernel_rfl) (by kernel_rfl)
def eqT : TypeId → Option (List C → List C → Option Bool) := lookE [(43, eqQ [.int .i64, .int .i64, .int .i64]), (44, eqQ [.int .i64, .int .i64]), (52, eqQ [.int .i64, .int .i64, .int .i64, .int .i64, .int .i64, .int .i64, .int .i64]), (65, eqQ [.int .i64, .int .i64, .int .i64, .int .i64]), (81, eqQ [.arr .u8 16]), (82, eqQ [.bool, .int .i64, .int .i64]), (83, eqQ [.bool, .int .i64]), (108, eqQ [.int .i64, .int .i64]), (195, eqQ [.int .i64, .int .i64, .str])]
theorem eqOk : ∀ t q, eqT t = some q → EqOk Go.Proofs.Tryz.prog t q := (eqsOk_cons ek_43 (eqsOk_cons ek_44 (eqsOk_cons ek_52 (eqsOk_cons ek_65 (eqsOk_cons ek_81 (eqsOk_cons ek_82 (eqsOk_cons ek_83 (eqsOk_cons ek_108 (eqsOk_cons ek_195 eqsOk_nil)))))))))
theorem mix0 : Tryz.prog.follows .mixedOrders = true := by kernel_rfl
def h0 : Nat → Bool := fun _ => false
theorem fz : FnsOk Tryz.prog laidL [] := fnsOk_nil
theorem fk {g : Nat} {S : Sum} {l : List (Nat × Sum)} (h : SumOk Tryz.prog laidL g S) (t : FnsOk Tryz.prog laidL l) : FnsOk Tryz.prog laidL ((g, S) :: l) := fnsOk_cons h t
def cX (l : List (Nat × Sum)) (h : Nat → Bool) : Ctx := ⟨tyT, lookF l, eqT, h⟩
theorem cx {l : List (Nat × Sum)} (h : Nat → Bool) (H : FnsOk Tryz.prog laidL l) : CtxOk Tryz.prog laidL (cX l h) := ⟨tyOk, eqOk, fun _ _ => H.get, mix0⟩
theorem fn_x {l : List (Nat × Sum)} (h : Nat → Bool) (H : FnsOk Tryz.prog laidL l) {f : FuncId} {fn : Func} (hf : Tryz.prog.funcs[f]? = some fn) {n nOut nr : Nat} {PS RS : List ShA} {F : TAs PS → Option (TAs RS)} {ls : List (Nat × LSum)} (hl : LksOk Tryz.prog laidL nOut fn.ntmps 0 (bodyOf fn) ls)
  (hF : ∀ p, F p = exec (cX l h) fn.ntmps (lookL ls) (bodyOf fn) 0 (fnK (cX l h) fn.results.toList nOut RS) (fnSt n nOut PS p) := by intro _; kernel_rfl)
  (hb : fn.body = some (bodyOf fn) := by kernel_rfl) (hname : (fn.name == "runtime.NumGoroutine") = false := by kernel_rfl) (hnr : fn.results.size = nr := by exact rfl) (hn : nodupB ((loopsIn 0 (bodyOf fn)).map (·.1)) = true := by kernel_rfl) : SumOk Tryz.prog laidL f (fnSum n nOut nr PS RS F) :=
 fn_ok (cx h H) hf hb hname hnr hF (loopsAll hn hl)
theorem lp_x {l : List (Nat × Sum)} (h : Nat → Bool) (H : FnsOk Tryz.prog laidL l) {nOut NT cur k : Nat} {θ : Type} {live bl : List Nat} {sh : List ShA} {O : OutK nOut θ} {c : Code} {b : (TAs sh → Option θ) → TAs sh → Option θ} {N : Nat} {ls : List (Nat × LSum)} (hl : LksOk Tryz.prog laidL nOut NT k (unloop (loopAt cur k c)) ls)
  (hs : ∀ ih p, b ih p = exec (cX l h) NT (lookL ls) (unloop (loopAt cur k c)) k (roundK live bl sh O ih) (stOf live bl sh p) := by intro _ _; kernel_rfl)
  (hne : loopAt cur k c = .loop (unloop (loopAt cur k c)) := by kernel_rfl) (hn : nodupB ((loopsIn k (unloop (loopAt cur k c))).map (·.1)) = true := by kernel_rfl) : SegOk Tryz.prog laidL nOut NT (loopAt cur k c) (loopSum live bl sh O (iter b N)) :=
 (congrArg (fun c => SegOk Tryz.prog laidL nOut NT c (loopSum live bl sh O (iter b N))) hne).mpr (loop_ok (cx h H) (fun n => iter b n) (fun _ => rfl) (fun n p => hs (iter b n) p) (loopsAll hn hl) N)
abbrev zg0 : ShA := .agg [.d (.str), .d (.arr .u8 16), .d (.int .i64), .d (.int .i64), .d (.int .i64), .d (.int .i64), .d (.int .i64), .d (.int .i64), .d (.bool), .d (.str), .d (.int .i64), .slt [.int .i64, .int .i64, .str] 195 3, .d (.bool), .d (.int .i64), .d (.int .i64), .d (.bool), .d (.int .i64), .d (.int .i64)]
abbrev zg1 : ShA := .agg [.d (.str), .d (.arr .u8 16), .d (.int .i64), .d (.int .i64), .d (.int .i64), .d (.int .i64), .d (.int .i64), .d (.int .i64), .d (.bool), .d (.str), .d (.int .i64), .d (.sl [.int .i64, .int .i64, .str]), .d (.bool), .d (.int .i64), .d (.int .i64), .d (.bool), .d (.int .i64), .d (.int .i64)]
abbrev zg2 : ShA := .agg [.d (.int .i64), .d (.int .i64), .d (.int .i64), .d (.int .i64), .d (.int .i64), .d (.int .i64), .d (.bool), .d (.str), .d (.int .i64), .slt [.int .i64, .int .i64, .str] 195 3]
abbrev zg3 : ShA := .agg [.d (.int .i64), .d (.int .i64), .d (.int .i64), .d (.int .i64), .d (.int .i64), .d (.int .i64), .d (.bool), .d (.str), .d (.int .i64), .d (.sl [.int .i64, .int .i64, .str])]
abbrev zg4 : ShA := .agg [.d (.int .i64), .d (.int .i64), .d (.int .i64), .d (.int .i64), .d (.int .u32), .d (.int .i64), .d (.int .u32), .d (.int .i64), .d (.int .i64), .d (.int .i64)]
abbrev zg5 : ShA := .agg [.d (.int .i64), .d (.int .i64), .d (.int .i64), .d (.int .i64), .d (.int .i64), .d (.int .i64), .d (.int .i64)]
abbrev zg6 : ShA := .agg [.d (.str), .d (.int .i64), .slt [.int .i64, .int .i64, .str] 195 3]
abbrev zg7 : ShA := .agg [.d (.str), .d (.int .i64), .d (.sl [.int .i64, .int .i64, .str])]
abbrev zg8 : ShA := .agg [.d (.int .u64), .d (.int .u64), .d (.int .u64), .d (.int .u64)]
abbrev zg9 : ShA := .agg [.d (.int .i64), .d (.int .i64), .d (.int .i64), .d (.int .i64)]
abbrev zg10 : ShA := .agg [.d (.int .i64), .d (.int .i64), .d (.sl [.int .i64])]
abbrev zg11 : ShA := .agg [.d (.int .i64), .d (.int .i64), .d (.int .i64)]
abbrev zg12 : ShA := .agg [.d (.bool), .d (.int .i64), .d (.int .i64)]
abbrev zg13 : ShA := .agg [.d (.sl [.int .u8]), .d (.bool)]
abbrev zg14 : ShA := .agg [.slt [.int .u8] 5 1, .d (.bool)]
abbrev zg15 : ShA := .agg [.d (.int .i64), .d (.int .i64)]
abbrev zg16 : ShA := .agg [.d (.int .u32), .d (.int .i64)]
abbrev zg17 : ShA := .agg [.d (.bool), .d (.int .i64)]
end Go.Proofs.YthpljlpokmoeeaaGreatDoor.Mir
namespace Go.Proofs.YthpljlpokmoeeaaGreatDoor.Mir
open Go Go.RowKit
set_option maxRecDepth 100000
noncomputable section
def f_47 (_ : Nat) : Option (TAs [zg2]) :=
 (some (0, 0, 0, 1, 0, 1, false, ⟨#[85, 84, 67]⟩, 0, ([] : List (Int × Int × ByteArray))))
def S_47 (N : Nat) : Sum := fnSum 0 0 1 [] [zg2] (fun _ => f_47 N)
theorem s_47 (N : Nat) : SumOk Tryz.prog laidL 47 (S_47 N) := fn_x h0 fz Tryz.func47 (lookOk_nil)
def f_75 (_ : Nat) (x1 : ByteArray) (x2 : List Int) (x3 x4 x5 x6 x7 x8 : Int) (x9 : Bool) (x10 : ByteArray) (x11 : Int) (x12 : List (Int × Int × ByteArray)) (x13 : Bool) (x14 x15 : Int) (x16 : Bool) (x17 x18 : Int) : Option (TAs [zg0]) :=
 (bif (decide (0 ≤ (0 : Int) ∧ (0 : Int) ≤ (List.length x12 : Int))) then (bif (decide (0 ≤ (0 : Int) ∧ (0 : Int) ≤ (0 : Int))) then (bif (decide ((0 : Int) = (0 : Int))) then (bif (decide ((List.length (List.drop (Int.toNat (0 : Int)) (List.take (Int.toNat (0 : Int)) x12)) + List.length x12) * 32 ≤ 140737488355328)) then (some (x1, x2, x3, x4, x5, x6, x7, x8, x9, x10, x11, ((List.drop (Int.toNat (0 : Int)) (List.take (Int.toNat (0 : Int)) x12)) ++ x12), x13, x14, x15, x16, x17, x18)) else none) else none) else none) else none)
def S_75 (N : Nat) : Sum := fnSum 1 0 1 [zg1] [zg0] (fun (x1, x2, x3, x4, x5, x6, x7, x8, x9, x10, x11, x12, x13, x14, x15, x16, x17, x18) => f_75 N x1 x2 x3 x4 x5 x6 x7 x8 x9 x10 x11 x12 x13 x14 x15 x16 x17 x18)
theorem s_75 (N : Nat) : SumOk Tryz.prog laidL 75 (S_75 N) := fn_x h0 fz Tryz.func75 (lookOk_nil)
def f_94 (_ : Nat) (x1 x2 : Int) : Option (TAs [.one (.d (.int .i64)), .one (.d (.int .i64)), .one (.d (.err 129))]) :=
 (bif (decide (x2 < 1)) then (some (0, 0, (some 1))) else (bif (decide (x2 = 0)) then none else (bif (decide (x2 = 0)) then none else (bif (decide ((Int.tmod x1 x2) < 0)) then (some ((IntKind.i64.wrap ((IntKind.i64.wrap (Int.tdiv x1 x2)) - 1)), (IntKind.i64.wrap ((Int.tmod x1 x2) + x2)), none)) else (some ((IntKind.i64.wrap (Int.tdiv x1 x2)), (Int.tmod x1 x2), none))))))
def S_94 (N : Nat) : Sum := fnSum 2 0 3 [.one (.d (.int .i64)), .one (.d (.int .i64))] [.one (.d (.int .i64)), .one (.d (.int .i64)), .one (.d (.err 129))] (fun (x1, x2) => f_94 N x1 x2)
theorem s_94 (N : Nat) : SumOk Tryz.prog laidL 94 (S_94 N) := fn_x h0 fz Tryz.func94 (lookOk_nil)
def f_106 (_ : Nat) (x1 x2 x3 : Int) : Option (TAs [.one (.d (.err 129))]) :=
 (bif (decide (x2 < 0)) then (some (some 1)) else (bif (decide (x2 > 43200)) then (some (some 1)) else (bif (decide (x3 < 0)) then (some (some 1)) else (bif (decide (x3 > 43200)) then (some (some 1)) else (bif (x1 == 0) then (bif ((IntKind.i64.wrap (x2 + x3)) == 0) then (some none) else (some (some 1))) else (bif (x1 == 1) then (bif (decide ((IntKind.i64.wrap (x2 + x3)) > 0)) then (some none) else (some (some 1))) else (bif (x1 == 2) then (bif (decide ((IntKind.i64.wrap (x2 + x3)) ≥ 3600)) then (some none) else (some (some 1))) else (some (some 1)))))))))
def S_106 (N : Nat) : Sum := fnSum 1 0 1 [zg11] [.one (.d (.err 129))] (fun (x1, x2, x3) => f_106 N x1 x2 x3)
theorem s_106 (N : Nat) : SumOk Tryz.prog laidL 106 (S_106 N) := fn_x h0 fz Tryz.func106 (lookOk_nil)
def f_107 (_ : Nat) (x1 : Int) : Option (TAs [.one (.d (.err 129))]) :=
 (bif (decide (x1 < 1)) then (some (some 1)) else (bif (decide (x1 > 68719476736)) then (some (some 1)) else (some none)))
def S_107 (N : Nat) : Sum := fnSum 1 0 1 [.one (.d (.int .i64))] [.one (.d (.err 129))] (fun x1 => f_107 N x1)
theorem s_107 (N : Nat) : SumOk Tryz.prog laidL 107 (S_107 N) := fn_x h0 fz Tryz.func107 (lookOk_nil)
def f_108 (_ : Nat) (x1 x2 : Int) : Option (TAs [.one (.d (.err 129))]) :=
 (bif (decide (x1 < 0)) then (some (some 1)) else (bif (decide (x1 > 1099511627776)) then (some (some 1)) else (bif (decide (x2 < 1)) then (some (some 1)) else (bif (decide (x2 > 1125899906842624)) then (some (some 1)) else (some none)))))
def S_108 (N : Nat) : Sum := fnSum 1 0 1 [zg15] [.one (.d (.err 129))] (fun (x1, x2) => f_108 N x1 x2)
theorem s_108 (N : Nat) : SumOk Tryz.prog laidL 108 (S_108 N) := fn_x h0 fz Tryz.func108 (lookOk_nil)
def f_114 (_ : Nat) (x1 x2 : Int) : Option (TAs [.one (.d (.int .i64)), .one (.d (.err 129))]) :=
 (bif (!((decide ((IntKind.i64.wrap (x1 - x2)) > x1)) == (decide (x2 < 0)))) then (some (0, (some 2))) else (some ((IntKind.i64.wrap (x1 - x2)), none)))
def S_114 (N : Nat) : Sum := fnSum 2 0 2 [.one (.d (.int .i64)), .one (.d (.int .i64))] [.one (.d (.int .i64)), .one (.d (.err 129))] (fun (x1, x2) => f_114 N x1 x2)
theorem s_114 (N : Nat) : SumOk Tryz.prog laidL 114 (S_114 N) := fn_x h0 fz Tryz.func114 (lookOk_nil)
def f_115 (_ : Nat) (x1 : Bool) : Option (TAs [.one (.d (.int .i64))]) :=
 (bif x1 then (some (-9223372036854775808)) else (some 9223372036854775807))
def S_115 (N : Nat) : Sum := fnSum 1 0 1 [.one (.d (.bool))] [.one (.d (.int .i64))] (fun x1 => f_115 N x1)
theorem s_115 (N : Nat) : SumOk Tryz.prog laidL 115 (S_115 N) := fn_x h0 fz Tryz.func115 (lookOk_nil)
def f_142 (N : Nat) (x1 x2 : Int) : Option (TAs [.one (.d (.bool))]) :=
 ((f_107 N x2).bind fun r3 => (bif (Option.isNone r3) then (bif (decide (x2 = 0)) then none else (some ((Int.tmod x1 x2) == 0))) else (some false)))
def S_142 (N : Nat) : Sum := fnSum 2 0 1 [.one (.d (.int .i64)), .one (.d (.int .i64))] [.one (.d (.bool))] (fun (x1, x2) => f_142 N x1 x2)
theorem s_142 (N : Nat) : SumOk Tryz.prog laidL 142 (S_142 N) := fn_x h0 (fk (s_107 N) fz) Tryz.func142 (lookOk_nil)
def f_145 (_ : Nat) (x1 : Bool) (x2 x3 : Int) : Option (TAs [zg17]) :=
 (bif x1 then (some (true, (if x2 > x3 then x2 else x3))) else (some (true, x3)))
def S_145 (N : Nat) : Sum := fnSum 2 0 1 [zg17, .one (.d (.int .i64))] [zg17] (fun ((x1, x2), x3) => f_145 N x1 x2 x3)
theorem s_145 (N : Nat) : SumOk Tryz.prog laidL 145 (S_145 N) := fn_x h0 fz Tryz.func145 (lookOk_nil)
def f_149 (_ : Nat) (_x1 x2 x3 x4 _x5 : Int) (x6 : List Int) (x7 : Int) : Option (TAs [.one (.d (.int .i64)), .one (.d (.int .i64))]) :=
 (bif (decide (0 ≤ x7 ∧ x7 < (List.length x6 : Int))) then (some ((IntKind.i64.wrap ((IntKind.i64.wrap ((IntKind.i64.wrap ((IntKind.i64.wrap ((IntKind.i64.wrap ((IntKind.i64.wrap ((IntKind.i64.wrap ((List.getD x6 (Int.toNat x7) 0) + 1)) * 86400)) + x4)) + x7)) + 1)) - 1)) - x2)), (IntKind.i64.wrap ((IntKind.i64.wrap ((IntKind.i64.wrap ((IntKind.i64.wrap ((IntKind.i64.wrap ((IntKind.i64.wrap ((List.getD x6 (Int.toNat x7) 0) + 1)) * 86400)) + x4)) + x7)) + 1)) + x3)))) else none)
def S_149 (N : Nat) : Sum := fnSum 3 0 2 [zg11, zg10, .one (.d (.int .i64))] [.one (.d (.int .i64)), .one (.d (.int .i64))] (fun ((x1, x2, x3), (x4, x5, x6), x7) => f_149 N x1 x2 x3 x4 x5 x6 x7)
theorem s_149 (N : Nat) : SumOk Tryz.prog laidL 149 (S_149 N) := fn_x h0 fz Tryz.func149 (lookOk_nil)
def f_164 (_ : Nat) (x1 x2 : Int) : Option (TAs [.one (.d (.int .i64)), .one (.d (.err 129))]) :=
 (bif (!((decide ((IntKind.i64.wrap (x1 + x2)) < x1)) == (decide (x2 < 0)))) then (some (0, (some 2))) else (some ((IntKind.i64.wrap (x1 + x2)), none)))
def S_164 (N : Nat) : Sum := fnSum 2 0 2 [.one (.d (.int .i64)), .one (.d (.int .i64))] [.one (.d (.int .i64)), .one (.d (.err 129))] (fun (x1, x2) => f_164 N x1 x2)
theorem s_164 (N : Nat) : SumOk Tryz.prog laidL 164 (S_164 N) := fn_x h0 fz Tryz.func164 (lookOk_nil)
def f_167 (_ : Nat) (x1 : ByteArray) : Option (TAs [.one (.d (.bool))]) :=
 (bif (!((ByteArray.toList x1) == (ByteArray.toList (⟨#[]⟩ : ByteArray)))) then (bif (decide ((ByteArray.size x1 : Int) ≤ 12)) then ((trimF x1 (⟨#[65, 66, 67, 68, 69, 70, 71, 72, 73, 74, 75, 76, 77, 78, 79, 80, 81, 82, 83, 84, 85, 86, 87, 88, 89, 90, 97, 98, 99, 100, 101, 102, 103, 104, 105, 106, 107, 108, 109, 110, 111, 112, 113, 114, 115, 116, 117, 118, 119, 120, 121, 122, 48, 49, 50, 51, 52, 53, 54, 55, 56, 57, 47, 95, 43, 45]⟩)).bind fun r2 => (some ((ByteArray.toList r2) == (ByteArray.toList (⟨#[]⟩ : ByteArray))))) else (some false)) else (some false))
def S_167 (N : Nat) : Sum := fnSum 1 0 1 [.one (.d (.str))] [.one (.d (.bool))] (fun x1 => f_167 N x1)
theorem s_167 (N : Nat) : SumOk Tryz.prog laidL 167 (S_167 N) := fn_x h0 (fk trimS_ok fz) Tryz.func167 (lookOk_nil)
def f_168 (_ : Nat) (x1 : Int) : Option (TAs [.one (.d (.bool))]) :=
 (bif (decide (x1 ≥ (-86399))) then (some (decide (x1 ≤ 86399))) else (some false))
def S_168 (N : Nat) : Sum := fnSum 1 0 1 [.one (.d (.int .i64))] [.one (.d (.bool))] (fun x1 => f_168 N x1)
theorem s_168 (N : Nat) : SumOk Tryz.prog laidL 168 (S_168 N) := fn_x h0 fz Tryz.func168 (lookOk_nil)
def f_185 (N : Nat) (x1 x2 : Int) : Option (TAs [.one (.d (.int .i64)), .one (.d (.err 129))]) :=
 ((f_107 N x2).bind fun r3 => (bif (!(Option.isNone r3)) then (some (0, r3)) else ((f_94 N x1 x2).bind fun r4 => (some (r4.1, r4.2.2)))))
def S_185 (N : Nat) : Sum := fnSum 2 0 2 [.one (.d (.int .i64)), .one (.d (.int .i64))] [.one (.d (.int .i64)), .one (.d (.err 129))] (fun (x1, x2) => f_185 N x1 x2)
theorem s_185 (N : Nat) : SumOk Tryz.prog laidL 185 (S_185 N) := fn_x h0 (fk (s_107 N) (fk (s_94 N) fz)) Tryz.func185 (lookOk_nil)
def f_186 (_ : Nat) (x1 x2 : Int) : Option (TAs [.one (.d (.int .i64)), .one (.d (.err 129))]) :=
 (bif (x1 == 0) then (some (0, none)) else (bif (x2 == 0) then (some (0, none)) else (bif (x1 == (-1)) then (bif (x2 == (-9223372036854775808)) then (some (0, (some 2))) else (bif (x2 == (-1)) then (bif (x1 == (-9223372036854775808)) then (some (0, (some 2))) else (bif (decide (x2 = 0)) then none else (bif ((IntKind.i64.wrap (Int.tdiv (IntKind.i64.wrap (x1 * x2)) x2)) != x1) then (some (0, (some 2))) else (some ((IntKind.i64.wrap (x1 * x2)), none))))) else (bif (decide (x2 = 0)) then none else (bif ((IntKind.i64.wrap (Int.tdiv (IntKind.i64.wrap (x1 * x2)) x2)) != x1) then (some (0, (some 2))) else (some ((IntKind.i64.wrap (x1 * x2)), none)))))) else (bif (x2 == (-1)) then (bif (x1 == (-9223372036854775808)) then (some (0, (some 2))) else (bif (decide (x2 = 0)) then none else (bif ((IntKind.i64.wrap (Int.tdiv (IntKind.i64.wrap (x1 * x2)) x2)) != x1) then (some (0, (some 2))) else (some ((IntKind.i64.wrap (x1 * x2)), none))))) else (bif (decide (x2 = 0)) then none else (bif ((IntKind.i64.wrap (Int.tdiv (IntKind.i64.wrap (x1 * x2)) x2)) != x1) then (some (0, (some 2))) else (some ((IntKind.i64.wrap (x1 * x2)), none))))))))
def S_186 (N : Nat) : Sum := fnSum 2 0 2 [.one (.d (.int .i64)), .one (.d (.int .i64))] [.one (.d (.int .i64)), .one (.d (.err 129))] (fun (x1, x2) => f_186 N x1 x2)
theorem s_186 (N : Nat) : SumOk Tryz.prog laidL 186 (S_186 N) := fn_x h0 fz Tryz.func186 (lookOk_nil)
def X_187 (_ : Nat) : List (Nat × Sum) := []
theorem x_187 (N : Nat) : FnsOk Tryz.prog laidL (X_187 N) := fz
def sh_187_0 : List ShA := [.one (.ptr 144 0), .one (.d (.sl [.int .i64])), .one (.d (.int .i64)), .one (.d (.int .i64)), zg10]
abbrev T_187_0 := ((TAs [.one (.d (.err 129))]) ⊕ (TAs []))
def o_187_0 : OutK 0 T_187_0 := (outTwo (outOne 0 .ret [2] [] [.one (.d (.err 129))]) (outOne 0 (.exit 0) [] [] []))
def b_187_0 (_ : Nat) (ih : TAs sh_187_0 → Option T_187_0) : TAs sh_187_0 → Option T_187_0 := fun (_, y4, y5, y6, (y7, y8, y9)) =>
 (bif (decide (y6 < y5)) then (bif (decide (0 ≤ y6 ∧ y6 < (List.length y4 : Int))) then (bif (decide ((List.getD y4 (Int.toNat y6) 0) < (-50000))) then (some (.inl (some 1))) else (bif (decide ((List.getD y4 (Int.toNat y6) 0) ≥ y8)) then (some (.inl (some 1))) else (bif (decide (y6 > 0)) then (bif (decide (0 ≤ (IntKind.i64.wrap (y6 - 1)) ∧ (IntKind.i64.wrap (y6 - 1)) < (List.length y9 : Int))) then (bif (decide ((List.getD y9 (Int.toNat (IntKind.i64.wrap (y6 - 1))) 0) ≥ (List.getD y4 (Int.toNat y6) 0))) then (some (.inl (some 1))) else (ih ((), y4, y5, (IntKind.i64.wrap (y6 + 1)), (y7, y8, y9)))) else none) else (ih ((), y4, y5, (IntKind.i64.wrap (y6 + 1)), (y7, y8, y9)))))) else none) else (some (.inr ())))
def l_187_0 (N : Nat) : TAs sh_187_0 → Option T_187_0 := iter (b_187_0 N) N
def L_187_0 (N : Nat) : LSum := loopSum [1, 31, 32, 33] [144] sh_187_0 o_187_0 (l_187_0 N)
theorem L_ok_187_0 (N : Nat) : SegOk Tryz.prog laidL 0 Tryz.f187.ntmps (loopAt 0 0 (bodyOf Tryz.f187)) (L_187_0 N) :=
 lp_x h0 (x_187 N) (lookOk_nil)
def f_187 (N : Nat) (x1 x2 : Int) (x3 : List Int) : Option (TAs [.one (.d (.err 129))]) :=
 (bif (decide (x1 < 0)) then (some (some 1)) else (bif (decide (x1 > 100)) then (some (some 1)) else (bif (decide (x2 < (-50000))) then (some (some 1)) else (bif (decide (x2 > 50000)) then (some (some 1)) else (bif (decide ((List.length x3 : Int) > 32)) then (some (some 1)) else ((l_187_0 N ((), x3, (List.length x3 : Int), 0, (x1, x2, x3))).bind fun q => (match q with | .inl q10 => (some q10) | .inr _ => (some none))))))))
def S_187 (N : Nat) : Sum := fnSum 1 0 1 [zg10] [.one (.d (.err 129))] (fun (x1, x2, x3) => f_187 N x1 x2 x3)
theorem s_187 (N : Nat) : SumOk Tryz.prog laidL 187 (S_187 N) := fn_x h0 (x_187 N) Tryz.func187 ((lookOk_cons (L_ok_187_0 N) lookOk_nil))
def f_190 (_ : Nat) (_x1 x2 x3 : Int) : Option (TAs [.one (.d (.int .i64))]) :=
 (some (IntKind.i64.wrap ((IntKind.i64.wrap ((IntKind.i64.wrap (x2 + 1)) + x3)) * 1000000000)))
def S_190 (N : Nat) : Sum := fnSum 1 0 1 [zg11] [.one (.d (.int .i64))] (fun (x1, x2, x3) => f_190 N x1 x2 x3)
theorem s_190 (N : Nat) : SumOk Tryz.prog laidL 190 (S_190 N) := fn_x h0 fz Tryz.func190 (lookOk_nil)
def f_191 (_ : Nat) (x1 x2 : Int) : Option (TAs [.one (.d (.int .i64)), .one (.d (.int .i64)), .one (.d (.err 129))]) :=
 ((mdF 2000000000 x1 x2).bind fun r3 => (bif (!(Option.isNone r3.2)) then (some (0, 0, r3.2)) else ((wmulF x1 r3.1).bind fun r4 => ((wdivF ((r4.1, r4.2), x2)).bind fun r5 => (bif (!(Option.isNone r5.2.2)) then (some (0, 0, r5.2.2)) else ((wintF (r5.1.1, r5.1.2)).bind fun r6 => (some (r6.1, r5.2.1, r6.2))))))))
def S_191 (N : Nat) : Sum := fnSum 2 0 3 [.one (.d (.int .i64)), .one (.d (.int .i64))] [.one (.d (.int .i64)), .one (.d (.int .i64)), .one (.d (.err 129))] (fun (x1, x2) => f_191 N x1 x2)
theorem s_191 (N : Nat) : SumOk Tryz.prog laidL 191 (S_191 N) := fn_x h0 (fk mdS_ok (fk wmulS_ok (fk wdivS_ok (fk wintS_ok fz)))) Tryz.func191 (lookOk_nil)
def f_203 (N : Nat) (x1 x2 : Int) (x3 : List Int) (x4 : Int) : Option (TAs [.one (.d (.err 129))]) :=
 ((f_187 N x1 x2 x3).bind fun r5 => (bif (!(Option.isNone r5)) then (some (some 1)) else (bif (decide (x4 < (-50000))) then (some (some 2)) else (bif (decide (x4 ≥ x2)) then (some (some 10)) else (some none)))))
def S_203 (N : Nat) : Sum := fnSum 2 0 1 [zg10, .one (.d (.int .i64))] [.one (.d (.err 129))] (fun ((x1, x2, x3), x4) => f_203 N x1 x2 x3 x4)
theorem s_203 (N : Nat) : SumOk Tryz.prog laidL 203 (S_203 N) := fn_x h0 (fk (s_187 N) fz) Tryz.func203 (lookOk_nil)
def f_220 (_ : Nat) (x1 : Int) : Option (TAs [.one (.d (.bool))]) :=
 (some (x1 != x1))
def S_220 (N : Nat) : Sum := fnSum 1 0 1 [.one (.d (.int .i64))] [.one (.d (.bool))] (fun x1 => f_220 N x1)
theorem s_220 (N : Nat) : SumOk Tryz.prog laidL 220 (S_220 N) := fn_x h0 fz Tryz.func220 (lookOk_nil)
def f_226 (N : Nat) (x1 x2 : Int) : Option (TAs [.one (.d (.bool))]) :=
 ((f_220 N x1).bind fun r3 => (bif r3 then ((f_220 N x2).bind fun r4 => (bif (!r4) then (some true) else (some (decide (x1 < x2))))) else (some (decide (x1 < x2)))))
def S_226 (N : Nat) : Sum := fnSum 2 0 1 [.one (.d (.int .i64)), .one (.d (.int .i64))] [.one (.d (.bool))] (fun (x1, x2) => f_226 N x1 x2)
theorem s_226 (N : Nat) : SumOk Tryz.prog laidL 226 (S_226 N) := fn_x h0 (fk (s_220 N) fz) Tryz.func226 (lookOk_nil)
def f_227 (_ : Nat) (x1 : Int) : Option (TAs [.one (.d (.bool))]) :=
 (some (x1 != x1))
def S_227 (N : Nat) : Sum := fnSum 1 0 1 [.one (.d (.int .i64))] [.one (.d (.bool))] (fun x1 => f_227 N x1)
theorem s_227 (N : Nat) : SumOk Tryz.prog laidL 227 (S_227 N) := fn_x h0 fz Tryz.func227 (lookOk_nil)
def f_232 (_ : Nat) (x1 : List Int) (x2 : Bool) : Option (TAs [.one (.d (.int .i64)), zg13]) :=
 ((rdF 8 x1 x2).bind fun r3 => (some ((IntKind.i64.wrap r3.1), (r3.2.1, r3.2.2))))
def S_232 (N : Nat) : Sum := fnSum 1 1 1 [.one (.ptr 0 0), zg13] [.one (.d (.int .i64)), zg13] (fun (_, (x1, x2)) => f_232 N x1 x2)
theorem s_232 (N : Nat) : SumOk Tryz.prog laidL 232 (S_232 N) := fn_x h0 (fk rdS_ok fz) Tryz.func232 (lookOk_nil)
def Xc_234 : Ctx := ⟨tyT, lookF [], eqT, fun _ => false⟩
theorem xc_234 : CtxOk Go.Proofs.Tryz.prog laidL Xc_234 := ⟨tyOk, eqOk, fun _ _ => fnsOk_nil.get, by kernel_rfl⟩
def cl_234 : Sum := fnSum 1 0 1 [.one (.d (.sl [.int .u8]))] [.one (.slt [.int .u8] 5 1)] (cloneF [.int .u8] 1)
theorem cl_234_ok : SumOk Go.Proofs.Tryz.prog laidL 234 cl_234 :=
 clone_ok (t := 305) (bt := 4) (e := 5) xc_234 Go.Proofs.Tryz.func234 (by kernel_rfl) rfl rfl rfl (by kernel_rfl) (fun b xs h => by
  cases b with
  | false => kernel_rfl
  | true => obtain rfl := h rfl; kernel_rfl)
def f_236 (_ : Nat) (x1 x2 : Int) : Option (TAs [.one (.d (.int .u64))]) :=
 (bif (decide ((ibits .and .u64 (IntKind.u64.wrap x2) 63) < 0)) then none else (bif (decide ((IntKind.u64.wrap (64 - (ibits .and .u64 (IntKind.u64.wrap x2) 63))) < 0)) then none else (some (ibits .or .u64 (IntKind.u64.wrap (x1 * 2 ^ (min (Int.toNat (ibits .and .u64 (IntKind.u64.wrap x2) 63)) IntKind.u64.bits))) (x1 / 2 ^ (min (Int.toNat (IntKind.u64.wrap (64 - (ibits .and .u64 (IntKind.u64.wrap x2) 63)))) IntKind.u64.bits))))))
def S_236 (N : Nat) : Sum := fnSum 2 0 1 [.one (.d (.int .u64)), .one (.d (.int .i64))] [.one (.d (.int .u64))] (fun (x1, x2) => f_236 N x1 x2)
theorem s_236 (N : Nat) : SumOk Tryz.prog laidL 236 (S_236 N) := fn_x h0 fz Tryz.func236 (lookOk_nil)
def f_52 (N : Nat) (x1 x2 : Int) : Option (TAs [.one (.d (.int .i64))]) :=
 ((f_114 N x1 x2).bind fun r3 => (bif (!(Option.isNone r3.2)) then ((f_115 N (decide (x2 > 0))).bind fun r4 => (some r4)) else (some r3.1)))
def S_52 (N : Nat) : Sum := fnSum 2 0 1 [.one (.d (.int .i64)), .one (.d (.int .i64))] [.one (.d (.int .i64))] (fun (x1, x2) => f_52 N x1 x2)
theorem s_52 (N : Nat) : SumOk Tryz.prog laidL 52 (S_52 N) := fn_x h0 (fk (s_114 N) (fk (s_115 N) fz)) Tryz.func52 (lookOk_nil)
def f_72 (N : Nat) (x1 : Bool) (x2 x3 : Int) : Option (TAs [.one (.d (.bool))]) :=
 (bif (!x1) then (some (x2 == 0)) else ((f_142 N x2 x3).bind fun r4 => (some r4)))
def S_72 (N : Nat) : Sum := fnSum 2 0 1 [zg17, .one (.d (.int .i64))] [.one (.d (.bool))] (fun ((x1, x2), x3) => f_72 N x1 x2 x3)
theorem s_72 (N : Nat) : SumOk Tryz.prog laidL 72 (S_72 N) := fn_x h0 (fk (s_142 N) fz) Tryz.func72 (lookOk_nil)
def f_76 (N : Nat) (x1 : Bool) (x2 x3 : Int) : Option (TAs [.one (.d (.int .i64)), .one (.d (.int .i64)), zg17]) :=
 ((f_145 N x1 x2 x3).bind fun r4 => ((f_52 N r4.2 x3).bind fun r5 => (some (r4.2, r5, (r4.1, r4.2)))))
def S_76 (N : Nat) : Sum := fnSum 2 0 3 [zg17, .one (.d (.int .i64))] [.one (.d (.int .i64)), .one (.d (.int .i64)), zg17] (fun ((x1, x2), x3) => f_76 N x1 x2 x3)
theorem s_76 (N : Nat) : SumOk Tryz.prog laidL 76 (S_76 N) := fn_x h0 (fk (s_145 N) (fk (s_52 N) fz)) Tryz.func76 (lookOk_nil)
def f_101 (N : Nat) (x1 : Int) : Option (TAs [.one (.d (.int .i64))]) :=
 (bif (decide (x1 < 0)) then ((f_52 N 0 x1).bind fun r2 => (some r2)) else (some x1))
def S_101 (N : Nat) : Sum := fnSum 1 0 1 [.one (.d (.int .i64))] [.one (.d (.int .i64))] (fun x1 => f_101 N x1)
theorem s_101 (N : Nat) : SumOk Tryz.prog laidL 101 (S_101 N) := fn_x h0 (fk (s_52 N) fz) Tryz.func101 (lookOk_nil)
def X_109 (N : Nat) : List (Nat × Sum) := [(167, (S_167 N)), (168, (S_168 N))]
theorem x_109 (N : Nat) : FnsOk Tryz.prog laidL (X_109 N) := fk (s_167 N) (fk (s_168 N) fz)
def sh_109_0 : List ShA := [.one (.ptr 144 0), .one (.d (.sl [.int .i64, .int .i64, .str])), .one (.d (.int .i64)), .one (.d (.int .i64)), zg7]
abbrev T_109_0 := ((TAs [.one (.d (.err 129))]) ⊕ (TAs []))
def o_109_0 : OutK 0 T_109_0 := (outTwo (outOne 0 .ret [2] [] [.one (.d (.err 129))]) (outOne 0 (.exit 0) [] [] []))
def b_109_0 (N : Nat) (ih : TAs sh_109_0 → Option T_109_0) : TAs sh_109_0 → Option T_109_0 := fun (_, y6, y7, y8, (y9, y10, y11)) =>
 (bif (decide (y8 < y7)) then (bif (decide (0 ≤ y8 ∧ y8 < (List.length y6 : Int))) then ((f_167 N ((List.getD y6 (Int.toNat y8) (0, 0, ByteArray.empty)).2.2)).bind fun r12 => (bif (!r12) then (some (.inl (some 1))) else ((f_168 N ((List.getD y6 (Int.toNat y8) (0, 0, ByteArray.empty)).2.1)).bind fun r13 => (bif (!r13) then (some (.inl (some 1))) else (bif (decide ((List.getD y6 (Int.toNat y8) (0, 0, ByteArray.empty)).1 < (-1099511627776))) then (some (.inl (some 1))) else (bif (decide ((List.getD y6 (Int.toNat y8) (0, 0, ByteArray.empty)).1 > 1099511627776)) then (some (.inl (some 1))) else (bif (decide (y8 > 0)) then (bif (decide (0 ≤ (IntKind.i64.wrap (y8 - 1)) ∧ (IntKind.i64.wrap (y8 - 1)) < (List.length y11 : Int))) then (bif (decide ((List.getD y11 (Int.toNat (IntKind.i64.wrap (y8 - 1))) (0, 0, ByteArray.empty)).1 ≥ (List.getD y6 (Int.toNat y8) (0, 0, ByteArray.empty)).1)) then (some (.inl (some 1))) else (ih ((), y6, y7, (IntKind.i64.wrap (y8 + 1)), (y9, y10, y11)))) else none) else (ih ((), y6, y7, (IntKind.i64.wrap (y8 + 1)), (y9, y10, y11)))))))))) else none) else (some (.inr ())))
def l_109_0 (N : Nat) : TAs sh_109_0 → Option T_109_0 := iter (b_109_0 N) N
def L_109_0 (N : Nat) : LSum := loopSum [1, 23, 24, 25] [144] sh_109_0 o_109_0 (l_109_0 N)
theorem L_ok_109_0 (N : Nat) : SegOk Tryz.prog laidL 0 Tryz.f109.ntmps (loopAt 0 0 (bodyOf Tryz.f109)) (L_109_0 N) :=
 lp_x h0 (x_109 N) (lookOk_nil)
def f_109 (N : Nat) (x1 : ByteArray) (x2 : Int) (x3 : List (Int × Int × ByteArray)) : Option (TAs [.one (.d (.err 129))]) :=
 ((f_167 N x1).bind fun r4 => (bif (!r4) then (some (some 1)) else ((f_168 N x2).bind fun r5 => (bif (!r5) then (some (some 1)) else (bif (decide ((List.length x3 : Int) > 32)) then (some (some 1)) else ((l_109_0 N ((), x3, (List.length x3 : Int), 0, (x1, x2, x3))).bind fun q => (match q with | .inl q14 => (some q14) | .inr _ => (some none))))))))
def S_109 (N : Nat) : Sum := fnSum 1 0 1 [zg7] [.one (.d (.err 129))] (fun (x1, x2, x3) => f_109 N x1 x2 x3)
theorem s_109 (N : Nat) : SumOk Tryz.prog laidL 109 (S_109 N) := fn_x h0 (x_109 N) Tryz.func109 ((lookOk_cons (L_ok_109_0 N) lookOk_nil))
def f_136 (N : Nat) (x1 x2 : Int) : Option (TAs [.one (.d (.int .i64))]) :=
 ((f_164 N x1 x2).bind fun r3 => (bif (!(Option.isNone r3.2)) then ((f_115 N (decide (x2 < 0))).bind fun r4 => (some r4)) else (some r3.1)))
def S_136 (N : Nat) : Sum := fnSum 2 0 1 [.one (.d (.int .i64)), .one (.d (.int .i64))] [.one (.d (.int .i64))] (fun (x1, x2) => f_136 N x1 x2)
theorem s_136 (N : Nat) : SumOk Tryz.prog laidL 136 (S_136 N) := fn_x h0 (fk (s_164 N) (fk (s_115 N) fz)) Tryz.func136 (lookOk_nil)
def f_141 (N : Nat) (x1 : Int) : Option (TAs [.one (.d (.bool))]) :=
 ((f_101 N x1).bind fun r2 => (some (decide (r2 < 4611686018427387904))))
def S_141 (N : Nat) : Sum := fnSum 1 0 1 [.one (.d (.int .i64))] [.one (.d (.bool))] (fun x1 => f_141 N x1)
theorem s_141 (N : Nat) : SumOk Tryz.prog laidL 141 (S_141 N) := fn_x h0 (fk (s_101 N) fz) Tryz.func141 (lookOk_nil)
def f_144 (N : Nat) (x1 x2 : Int) : Option (TAs [.one (.d (.int .i64)), .one (.d (.err 129))]) :=
 ((f_185 N x1 x2).bind fun r3 => (bif (!(Option.isNone r3.2)) then (some (0, r3.2)) else ((f_186 N r3.1 x2).bind fun r4 => (some (r4.1, r4.2)))))
def S_144 (N : Nat) : Sum := fnSum 2 0 2 [.one (.d (.int .i64)), .one (.d (.int .i64))] [.one (.d (.int .i64)), .one (.d (.err 129))] (fun (x1, x2) => f_144 N x1 x2)
theorem s_144 (N : Nat) : SumOk Tryz.prog laidL 144 (S_144 N) := fn_x h0 (fk (s_185 N) (fk (s_186 N) fz)) Tryz.func144 (lookOk_nil)
def X_147 (N : Nat) : List (Nat × Sum) := [(106, (S_106 N)), (187, (S_187 N)), (149, (S_149 N))]
theorem x_147 (N : Nat) : FnsOk Tryz.prog laidL (X_147 N) := fk (s_106 N) (fk (s_187 N) (fk (s_149 N) fz))
def sh_147_0 : List ShA := [.one (.ptr 160 0), .one (.ptr 176 0), .one (.d (.int .i64)), .one (.d (.int .i64)), .one (.d (.int .i64)), zg11, zg10]
abbrev T_147_0 := ((TAs [.one (.d (.err 129))]) ⊕ (TAs []))
def o_147_0 : OutK 0 T_147_0 := (outTwo (outOne 0 .ret [4] [] [.one (.d (.err 129))]) (outOne 0 (.exit 0) [] [] []))
def b_147_0 (N : Nat) (ih : TAs sh_147_0 → Option T_147_0) : TAs sh_147_0 → Option T_147_0 := fun (_, _, y9, y10, y11, (y12, y13, y14), (y15, y16, y17)) =>
 (bif (decide (y11 < y10)) then ((f_149 N y12 y13 y14 y15 y16 y17 y11).bind fun r18 => (bif (y12 != 0) then (bif (decide (r18.1 < y9)) then (some (.inl (some 9))) else (ih ((), (), r18.2, y10, (IntKind.i64.wrap (y11 + 1)), (y12, y13, y14), (y15, y16, y17)))) else (ih ((), (), r18.2, y10, (IntKind.i64.wrap (y11 + 1)), (y12, y13, y14), (y15, y16, y17))))) else (some (.inr ())))
def l_147_0 (N : Nat) : TAs sh_147_0 → Option T_147_0 := iter (b_147_0 N) N
def L_147_0 (N : Nat) : LSum := loopSum [2, 3, 5, 20, 21] [160, 176] sh_147_0 o_147_0 (l_147_0 N)
theorem L_ok_147_0 (N : Nat) : SegOk Tryz.prog laidL 0 Tryz.f147.ntmps (loopAt 0 0 (bodyOf Tryz.f147)) (L_147_0 N) :=
 lp_x h0 (x_147 N) (lookOk_nil)
def f_147 (N : Nat) (x1 x2 x3 x4 x5 : Int) (x6 : List Int) : Option (TAs [.one (.d (.err 129))]) :=
 ((f_106 N x1 x2 x3).bind fun r7 => (bif (!(Option.isNone r7)) then (some (some 1)) else ((f_187 N x4 x5 x6).bind fun r8 => (bif (!(Option.isNone r8)) then (some (some 1)) else ((l_147_0 N ((), (), (-9223372036854775808), (List.length x6 : Int), 0, (x1, x2, x3), (x4, x5, x6))).bind fun q => (match q with | .inl q19 => (some q19) | .inr _ => (some none)))))))
def S_147 (N : Nat) : Sum := fnSum 2 0 1 [zg11, zg10] [.one (.d (.err 129))] (fun ((x1, x2, x3), (x4, x5, x6)) => f_147 N x1 x2 x3 x4 x5 x6)
theorem s_147 (N : Nat) : SumOk Tryz.prog laidL 147 (S_147 N) := fn_x h0 (x_147 N) Tryz.func147 ((lookOk_cons (L_ok_147_0 N) lookOk_nil))
def f_150 (N : Nat) (x1 x2 x3 x4 : Int) : Option (TAs [.one (.d (.int .i64)), .one (.d (.err 129))]) :=
 ((f_190 N x1 x2 x3).bind fun r5 => ((f_106 N x1 x2 x3).bind fun r6 => (bif (!(Option.isNone r6)) then (some (0, (some 1))) else (bif (x1 == 0) then (some (0, (some 1))) else (bif (decide (x4 < 0)) then (some (0, (some 1))) else (bif (decide (x4 > r5)) then (some (0, (some 1))) else (bif (x1 == 1) then ((mdF (IntKind.i64.wrap (r5 - x4)) 1000000000 r5).bind fun r7 => (some ((IntKind.i64.wrap (1000000000 - r7.1)), r7.2))) else (bif (decide (x4 ≥ (IntKind.i64.wrap (Int.tdiv r5 2)))) then ((f_191 N (IntKind.i64.wrap (r5 - x4)) r5).bind fun r8 => (some ((IntKind.i64.wrap (1000000000 - r8.1)), r8.2.2))) else ((f_191 N x4 r5).bind fun r9 => (bif (decide (r9.2.1 > 0)) then (some ((IntKind.i64.wrap (r9.1 + 1)), r9.2.2)) else (some (r9.1, r9.2.2))))))))))))
def S_150 (N : Nat) : Sum := fnSum 2 0 2 [zg11, .one (.d (.int .i64))] [.one (.d (.int .i64)), .one (.d (.err 129))] (fun ((x1, x2, x3), x4) => f_150 N x1 x2 x3 x4)
theorem s_150 (N : Nat) : SumOk Tryz.prog laidL 150 (S_150 N) := fn_x h0 (fk (s_190 N) (fk (s_106 N) (fk mdS_ok (fk (s_191 N) fz)))) Tryz.func150 (lookOk_nil)
def X_217 (N : Nat) : List (Nat × Sum) := [(226, (S_226 N)), (227, (S_227 N))]
theorem x_217 (N : Nat) : FnsOk Tryz.prog laidL (X_217 N) := fk (s_226 N) (fk (s_227 N) fz)
def sh_217_0 : List ShA := [.one (.d (.sl [.int .i64])), .one (.d (.int .i64)), .one (.d (.int .i64)), .one (.d (.int .i64)), .one (.d (.int .i64))]
abbrev T_217_0 := TAs [.one (.d (.sl [.int .i64])), .one (.d (.int .i64)), .one (.d (.int .i64)), .one (.d (.int .i64))]
def o_217_0 : OutK 0 T_217_0 := (outOne 0 (.exit 0) [0, 1, 6, 7] [] [.one (.d (.sl [.int .i64])), .one (.d (.int .i64)), .one (.d (.int .i64)), .one (.d (.int .i64))])
def b_217_0 (N : Nat) (ih : TAs sh_217_0 → Option T_217_0) : TAs sh_217_0 → Option T_217_0 := fun (y3, y4, y5, y6, y7) =>
 (bif (decide (y6 < y7)) then (bif (decide (0 ≤ (IntKind.i64.wrap ((IntKind.u64.wrap (IntKind.i64.wrap (y6 + y7))) / 2 ^ (min (Int.toNat 1) IntKind.u64.bits))) ∧ (IntKind.i64.wrap ((IntKind.u64.wrap (IntKind.i64.wrap (y6 + y7))) / 2 ^ (min (Int.toNat 1) IntKind.u64.bits))) < (List.length y3 : Int))) then ((f_226 N (List.getD y3 (Int.toNat (IntKind.i64.wrap ((IntKind.u64.wrap (IntKind.i64.wrap (y6 + y7))) / 2 ^ (min (Int.toNat 1) IntKind.u64.bits)))) 0) y4).bind fun r8 => (bif r8 then (ih (y3, y4, y5, (IntKind.i64.wrap ((IntKind.i64.wrap ((IntKind.u64.wrap (IntKind.i64.wrap (y6 + y7))) / 2 ^ (min (Int.toNat 1) IntKind.u64.bits))) + 1)), y7)) else (ih (y3, y4, y5, y6, (IntKind.i64.wrap ((IntKind.u64.wrap (IntKind.i64.wrap (y6 + y7))) / 2 ^ (min (Int.toNat 1) IntKind.u64.bits))))))) else none) else (some ((y3, y4, y5, y6))))
def l_217_0 (N : Nat) : TAs sh_217_0 → Option T_217_0 := iter (b_217_0 N) N
def L_217_0 (N : Nat) : LSum := loopSum [0, 1, 6, 7, 8] [] sh_217_0 o_217_0 (l_217_0 N)
theorem L_ok_217_0 (N : Nat) : SegOk Tryz.prog laidL 0 Tryz.f217.ntmps (loopAt 0 0 (bodyOf Tryz.f217)) (L_217_0 N) :=
 lp_x h0 (x_217 N) (lookOk_nil)
def f_217 (N : Nat) (x1 : List Int) (x2 : Int) : Option (TAs [.one (.d (.int .i64)), .one (.d (.bool))]) :=
 ((l_217_0 N (x1, x2, (List.length x1 : Int), 0, (List.length x1 : Int))).bind fun q9 => (bif (decide (q9.2.2.2 < q9.2.2.1)) then (bif (decide (0 ≤ q9.2.2.2 ∧ q9.2.2.2 < (List.length q9.1 : Int))) then (bif ((List.getD q9.1 (Int.toNat q9.2.2.2) 0) == q9.2.1) then (some (q9.2.2.2, true)) else (bif (decide (0 ≤ q9.2.2.2 ∧ q9.2.2.2 < (List.length q9.1 : Int))) then ((f_227 N (List.getD q9.1 (Int.toNat q9.2.2.2) 0)).bind fun r10 => (bif r10 then ((f_227 N q9.2.1).bind fun r11 => (some (q9.2.2.2, r11))) else (some (q9.2.2.2, false)))) else none)) else none) else (some (q9.2.2.2, false))))
def S_217 (N : Nat) : Sum := fnSum 2 0 2 [.one (.d (.sl [.int .i64])), .one (.d (.int .i64))] [.one (.d (.int .i64)), .one (.d (.bool))] (fun (x1, x2) => f_217 N x1 x2)
theorem s_217 (N : Nat) : SumOk Tryz.prog laidL 217 (S_217 N) := fn_x h0 (x_217 N) Tryz.func217 ((lookOk_cons (L_ok_217_0 N) lookOk_nil))
def X_225 (_ : Nat) : List (Nat × Sum) := [(234, cl_234)]
theorem x_225 (N : Nat) : FnsOk Tryz.prog laidL (X_225 N) := fk cl_234_ok fz
def sh_225_0 : List ShA := [.one (.d (.int .u64)), .one (.slt [.int .u8] 5 1), .one (.d (.int .i64)), .one (.d (.int .i64))]
abbrev T_225_0 := TAs [.one (.slt [.int .u8] 5 1)]
def o_225_0 : OutK 0 T_225_0 := (outOne 0 (.exit 0) [7] [] [.one (.slt [.int .u8] 5 1)])
def b_225_0 (_ : Nat) (ih : TAs sh_225_0 → Option T_225_0) : TAs sh_225_0 → Option T_225_0 := fun (y5, y6, y7, y8) =>
 (bif (decide (y8 < y7)) then (bif (decide ((IntKind.i64.wrap (8 * y8)) < 0)) then none else (bif (decide ((List.length y6 + List.length ([(IntKind.u8.wrap (y5 / 2 ^ (min (Int.toNat (IntKind.i64.wrap (8 * y8))) IntKind.u64.bits)))] : List Int)) * 1 ≤ 140737488355328)) then (ih (y5, (y6 ++ ([(IntKind.u8.wrap (y5 / 2 ^ (min (Int.toNat (IntKind.i64.wrap (8 * y8))) IntKind.u64.bits)))] : List Int)), y7, (IntKind.i64.wrap (y8 + 1)))) else none)) else (some (y6)))
def l_225_0 (N : Nat) : TAs sh_225_0 → Option T_225_0 := iter (b_225_0 N) N
def L_225_0 (N : Nat) : LSum := loopSum [1, 7, 11, 12] [] sh_225_0 o_225_0 (l_225_0 N)
theorem L_ok_225_0 (N : Nat) : SegOk Tryz.prog laidL 0 Tryz.f225.ntmps (loopAt 0 0 (bodyOf Tryz.f225)) (L_225_0 N) :=
 lp_x h0 (x_225 N) (lookOk_nil)
def f_225 (N : Nat) (x1 : List Int) (x2 x3 : Int) : Option (TAs [.one (.slt [.int .u8] 5 1)]) :=
 ((cloneF [.int .u8] 1 x1).bind fun r4 => ((l_225_0 N (x2, r4, x3, 0)).bind fun q9 => (some q9)))
def S_225 (N : Nat) : Sum := fnSum 3 0 1 [.one (.d (.sl [.int .u8])), .one (.d (.int .u64)), .one (.d (.int .i64))] [.one (.slt [.int .u8] 5 1)] (fun (x1, x2, x3) => f_225 N x1 x2 x3)
theorem s_225 (N : Nat) : SumOk Tryz.prog laidL 225 (S_225 N) := fn_x h0 (x_225 N) Tryz.func225 ((lookOk_cons (L_ok_225_0 N) lookOk_nil))
def f_231 (_ : Nat) (x1 : List Int) : Option (TAs [.one (.ptr 0 0), zg14]) :=
 ((cloneF [.int .u8] 1 x1).bind fun r2 => (some ((), (r2, false))))
def S_231 (N : Nat) : Sum := fnSum 1 0 1 [.one (.d (.sl [.int .u8]))] [.one (.ptr 0 0), zg14] (fun x1 => f_231 N x1)
theorem s_231 (N : Nat) : SumOk Tryz.prog laidL 231 (S_231 N) := fn_x h0 (fk cl_234_ok fz) Tryz.func231 (lookOk_nil)
def f_233 (N : Nat) (x1 x2 : Int) : Option (TAs [.one (.d (.int .u64))]) :=
 ((f_236 N x1 x2).bind fun r3 => (some r3))
def S_233 (N : Nat) : Sum := fnSum 2 0 1 [.one (.d (.int .u64)), .one (.d (.int .i64))] [.one (.d (.int .u64))] (fun (x1, x2) => f_233 N x1 x2)
theorem s_233 (N : Nat) : SumOk Tryz.prog laidL 233 (S_233 N) := fn_x h0 (fk (s_236 N) fz) Tryz.func233 (lookOk_nil)
def X_49 (N : Nat) : List (Nat × Sum) := [(106, (S_106 N)), (107, (S_107 N)), (108, (S_108 N)), (109, (S_109 N))]
theorem x_49 (N : Nat) : FnsOk Tryz.prog laidL (X_49 N) := fk (s_106 N) (fk (s_107 N) (fk (s_108 N) (fk (s_109 N) fz)))
def sh_49_0 : List ShA := [.agg [.d (.err 129), .d (.err 129), .d (.err 129), .d (.err 129)], .one (.d (.int .i64))]
abbrev T_49_0 := ((TAs [.one (.d (.err 129))]) ⊕ (TAs []))
def o_49_0 : OutK 0 T_49_0 := (outTwo (outOne 0 .ret [2] [] [.one (.d (.err 129))]) (outOne 0 (.exit 0) [] [] []))
def b_49_0 (_ : Nat) (ih : TAs sh_49_0 → Option T_49_0) : TAs sh_49_0 → Option T_49_0 := fun ((y15, y16, y17, y18), y19) =>
 (bif (decide (y19 < 4)) then (bif (decide (y19 = (0 : Int))) then (bif (!(Option.isNone y15)) then (some (.inl (some 1))) else (ih ((y15, y16, y17, y18), (IntKind.i64.wrap (y19 + 1))))) else (bif (decide (y19 = (1 : Int))) then (bif (!(Option.isNone y16)) then (some (.inl (some 1))) else (ih ((y15, y16, y17, y18), (IntKind.i64.wrap (y19 + 1))))) else (bif (decide (y19 = (2 : Int))) then (bif (!(Option.isNone y17)) then (some (.inl (some 1))) else (ih ((y15, y16, y17, y18), (IntKind.i64.wrap (y19 + 1))))) else (bif (decide (y19 = (3 : Int))) then (bif (!(Option.isNone y18)) then (some (.inl (some 1))) else (ih ((y15, y16, y17, y18), (IntKind.i64.wrap (y19 + 1))))) else none)))) else (some (.inr ())))
def l_49_0 (N : Nat) : TAs sh_49_0 → Option T_49_0 := iter (b_49_0 N) N
def L_49_0 (N : Nat) : LSum := loopSum [17, 18] [] sh_49_0 o_49_0 (l_49_0 N)
theorem L_ok_49_0 (N : Nat) : SegOk Tryz.prog laidL 0 Tryz.f49.ntmps (loopAt 0 0 (bodyOf Tryz.f49)) (L_49_0 N) :=
 lp_x h0 (x_49 N) (lookOk_nil)
def f_49 (N : Nat) (x1 x2 x3 x4 x5 x6 : Int) (_x7 : Bool) (x8 : ByteArray) (x9 : Int) (x10 : List (Int × Int × ByteArray)) : Option (TAs [.one (.d (.err 129))]) :=
 ((f_106 N x1 x2 x3).bind fun r11 => ((f_107 N x4).bind fun r12 => ((f_108 N x5 x6).bind fun r13 => ((f_109 N x8 x9 x10).bind fun r14 => ((l_49_0 N ((r11, r12, r13, r14), 0)).bind fun q => (match q with | .inl q20 => (some q20) | .inr _ => (some none)))))))
def S_49 (N : Nat) : Sum := fnSum 1 0 1 [zg3] [.one (.d (.err 129))] (fun (x1, x2, x3, x4, x5, x6, x7, x8, x9, x10) => f_49 N x1 x2 x3 x4 x5 x6 x7 x8 x9 x10)
theorem s_49 (N : Nat) : SumOk Tryz.prog laidL 49 (S_49 N) := fn_x h0 (x_49 N) Tryz.func49 ((lookOk_cons (L_ok_49_0 N) lookOk_nil))
def f_71 (N : Nat) (x1 : Bool) (x2 x3 : Int) : Option (TAs [.one (.d (.err 129))]) :=
 ((f_141 N x2).bind fun r4 => (bif (!r4) then (some (some 1)) else (bif (!x1) then (bif (x2 != 0) then (some (some 1)) else (bif (decide (x3 < 0)) then (some (some 1)) else (bif (decide (x3 > 2305843009213693952)) then (some (some 1)) else (some none)))) else (bif (decide (x3 < 0)) then (some (some 1)) else (bif (decide (x3 > 2305843009213693952)) then (some (some 1)) else (some none))))))
def S_71 (N : Nat) : Sum := fnSum 1 0 1 [zg12] [.one (.d (.err 129))] (fun (x1, x2, x3) => f_71 N x1 x2 x3)
theorem s_71 (N : Nat) : SumOk Tryz.prog laidL 71 (S_71 N) := fn_x h0 (fk (s_141 N) fz) Tryz.func71 (lookOk_nil)
def f_77 (N : Nat) (_x1 : ByteArray) (_x2 : List Int) (x3 _x4 _x5 x6 x7 _x8 : Int) (_x9 : Bool) (_x10 : ByteArray) (_x11 : Int) (_x12 : List (Int × Int × ByteArray)) (_x13 : Bool) (_x14 _x15 : Int) (_x16 : Bool) (_x17 _x18 x19 x20 : Int) : Option (TAs [.one (.d (.int .i64))]) :=
 ((f_136 N x19 (IntKind.i64.wrap ((IntKind.i64.wrap (x7 + x6)) - 1))).bind fun r21 => (bif (x3 == 0) then ((f_136 N r21 1000000000).bind fun r22 => ((f_136 N r22 x20).bind fun r23 => (some r23))) else ((f_136 N r21 x20).bind fun r24 => (some r24))))
def S_77 (N : Nat) : Sum := fnSum 3 0 1 [zg1, .one (.d (.int .i64)), .one (.d (.int .i64))] [.one (.d (.int .i64))] (fun ((x1, x2, x3, x4, x5, x6, x7, x8, x9, x10, x11, x12, x13, x14, x15, x16, x17, x18), x19, x20) => f_77 N x1 x2 x3 x4 x5 x6 x7 x8 x9 x10 x11 x12 x13 x14 x15 x16 x17 x18 x19 x20)
theorem s_77 (N : Nat) : SumOk Tryz.prog laidL 77 (S_77 N) := fn_x h0 (fk (s_136 N) fz) Tryz.func77 (lookOk_nil)
def f_146 (N : Nat) (x1 : Bool) (x2 x3 x4 : Int) : Option (TAs [.one (.d (.err 129))]) :=
 ((f_141 N x4).bind fun r5 => (bif (!r5) then (some (some 1)) else ((f_71 N x1 x2 x3).bind fun r6 => (some r6))))
def S_146 (N : Nat) : Sum := fnSum 2 0 1 [zg12, .one (.d (.int .i64))] [.one (.d (.err 129))] (fun ((x1, x2, x3), x4) => f_146 N x1 x2 x3 x4)
theorem s_146 (N : Nat) : SumOk Tryz.prog laidL 146 (S_146 N) := fn_x h0 (fk (s_141 N) (fk (s_71 N) fz)) Tryz.func146 (lookOk_nil)
def f_204 (N : Nat) (x1 _x2 : Int) (x3 : List Int) (x4 : Int) : Option (TAs [.one (.d (.int .i64))]) :=
 ((f_217 N x3 x4).bind fun r5 => (some (IntKind.i64.wrap (x1 + r5.1))))
def S_204 (N : Nat) : Sum := fnSum 2 0 1 [zg10, .one (.d (.int .i64))] [.one (.d (.int .i64))] (fun ((x1, x2, x3), x4) => f_204 N x1 x2 x3 x4)
theorem s_204 (N : Nat) : SumOk Tryz.prog laidL 204 (S_204 N) := fn_x h0 (fk (s_217 N) fz) Tryz.func204 (lookOk_nil)
def f_216 (N : Nat) (x1 : List Int) (x2 : Int) : Option (TAs [.one (.slt [.int .u8] 5 1)]) :=
 ((f_225 N x1 (IntKind.u64.wrap x2) 8).bind fun r3 => (some r3))
def S_216 (N : Nat) : Sum := fnSum 2 0 1 [.one (.d (.sl [.int .u8])), .one (.d (.int .i64))] [.one (.slt [.int .u8] 5 1)] (fun (x1, x2) => f_216 N x1 x2)
theorem s_216 (N : Nat) : SumOk Tryz.prog laidL 216 (S_216 N) := fn_x h0 (fk (s_225 N) fz) Tryz.func216 (lookOk_nil)
def f_222 (N : Nat) (x1 : List Int) : Option (TAs [.one (.d (.int .u64))]) :=
 ((f_231 N x1).bind fun r2 => ((f_232 N r2.2.1 r2.2.2).bind fun r3 => (some (IntKind.u64.wrap r3.1))))
def S_222 (N : Nat) : Sum := fnSum 1 0 1 [.one (.d (.sl [.int .u8]))] [.one (.d (.int .u64))] (fun x1 => f_222 N x1)
theorem s_222 (N : Nat) : SumOk Tryz.prog laidL 222 (S_222 N) := fn_x h0 (fk (s_231 N) (fk (s_232 N) fz)) Tryz.func222 (lookOk_nil)
def X_224 (N : Nat) : List (Nat × Sum) := [(233, (S_233 N))]
theorem x_224 (N : Nat) : FnsOk Tryz.prog laidL (X_224 N) := fk (s_233 N) fz
def sh_224_0 : List ShA := [.one (.ptr 0 0), .one (.d (.int .i64)), .one (.d (.int .i64)), zg8]
abbrev T_224_0 := TAs [zg8]
def o_224_0 : OutK 1 T_224_0 := (outOne 1 (.exit 0) [] [0] [zg8])
def b_224_0 (N : Nat) (ih : TAs sh_224_0 → Option T_224_0) : TAs sh_224_0 → Option T_224_0 := fun (_, y6, y7, (y8, y9, y10, y11)) =>
 (bif (decide (y7 < y6)) then ((f_233 N y9 13).bind fun r12 => ((f_233 N (IntKind.u64.wrap (y8 + y9)) 32).bind fun r13 => ((f_233 N y11 16).bind fun r14 => ((f_233 N (ibits .xor .u64 r14 (IntKind.u64.wrap (y10 + y11))) 21).bind fun r15 => ((f_233 N (ibits .xor .u64 r12 (IntKind.u64.wrap (y8 + y9))) 17).bind fun r16 => ((f_233 N (IntKind.u64.wrap ((IntKind.u64.wrap (y10 + y11)) + (ibits .xor .u64 r12 (IntKind.u64.wrap (y8 + y9))))) 32).bind fun r17 => (ih ((), y6, (IntKind.i64.wrap (y7 + 1)), ((IntKind.u64.wrap (r13 + (ibits .xor .u64 r14 (IntKind.u64.wrap (y10 + y11))))), (ibits .xor .u64 r16 (IntKind.u64.wrap ((IntKind.u64.wrap (y10 + y11)) + (ibits .xor .u64 r12 (IntKind.u64.wrap (y8 + y9)))))), r17, (ibits .xor .u64 r15 (IntKind.u64.wrap (r13 + (ibits .xor .u64 r14 (IntKind.u64.wrap (y10 + y11))))))))))))))) else (some ((y8, y9, y10, y11))))
def l_224_0 (N : Nat) : TAs sh_224_0 → Option T_224_0 := iter (b_224_0 N) N
def L_224_0 (N : Nat) : LSum := loopSum [0, 4, 5] [0] sh_224_0 o_224_0 (l_224_0 N)
theorem L_ok_224_0 (N : Nat) : SegOk Tryz.prog laidL 1 Tryz.f224.ntmps (loopAt 0 0 (bodyOf Tryz.f224)) (L_224_0 N) :=
 lp_x h0 (x_224 N) (lookOk_nil)
def f_224 (N : Nat) (x1 x2 x3 x4 x5 : Int) : Option (TAs [zg8]) :=
 ((l_224_0 N ((), x1, 0, (x2, x3, x4, x5))).bind fun q18 => (some (q18.1, q18.2.1, q18.2.2.1, q18.2.2.2)))
def S_224 (N : Nat) : Sum := fnSum 2 1 0 [.one (.ptr 0 0), .one (.d (.int .i64)), zg8] [zg8] (fun (_, x1, (x2, x3, x4, x5)) => f_224 N x1 x2 x3 x4 x5)
theorem s_224 (N : Nat) : SumOk Tryz.prog laidL 224 (S_224 N) := fn_x h0 (x_224 N) Tryz.func224 ((lookOk_cons (L_ok_224_0 N) lookOk_nil))
def f_22 (N : Nat) (x1 : ByteArray) (_x2 : List Int) (x3 x4 x5 x6 x7 x8 : Int) (x9 : Bool) (x10 : ByteArray) (x11 : Int) (x12 : List (Int × Int × ByteArray)) (x13 : Bool) (x14 x15 : Int) (x16 : Bool) (x17 x18 : Int) : Option (TAs [.one (.d (.err 129))]) :=
 (bif ((ByteArray.toList x1) == (ByteArray.toList (⟨#[]⟩ : ByteArray))) then (some (some 1)) else (bif (decide ((ByteArray.size x1 : Int) > 12)) then (some (some 1)) else ((trimF x1 (⟨#[97, 98, 99, 100, 101, 102, 103, 104, 105, 106, 107, 108, 109, 110, 111, 112, 113, 114, 115, 116, 117, 118, 119, 120, 121, 122, 48, 49, 50, 51, 52, 53, 54, 55, 56, 57]⟩)).bind fun r19 => (bif (!((ByteArray.toList r19) == (ByteArray.toList (⟨#[]⟩ : ByteArray)))) then (some (some 1)) else ((f_49 N x3 x4 x5 x6 x7 x8 x9 x10 x11 x12).bind fun r20 => (bif (!(Option.isNone r20)) then (some (some 1)) else ((f_71 N x13 x14 x15).bind fun r21 => (bif (!(Option.isNone r21)) then (some (some 1)) else ((f_72 N x16 x17 x6).bind fun r22 => (bif (!r22) then (some (some 1)) else (bif (decide (x18 < 0)) then (some (some 1)) else (bif (decide (x18 > 1099511627776)) then (some (some 1)) else (some none)))))))))))))
def S_22 (N : Nat) : Sum := fnSum 1 0 1 [zg1] [.one (.d (.err 129))] (fun (x1, x2, x3, x4, x5, x6, x7, x8, x9, x10, x11, x12, x13, x14, x15, x16, x17, x18) => f_22 N x1 x2 x3 x4 x5 x6 x7 x8 x9 x10 x11 x12 x13 x14 x15 x16 x17 x18)
theorem s_22 (N : Nat) : SumOk Tryz.prog laidL 22 (S_22 N) := fn_x h0 (fk trimS_ok (fk (s_49 N) (fk (s_71 N) (fk (s_72 N) fz)))) Tryz.func22 (lookOk_nil)
def f_78 (N : Nat) (x1 : Bool) (x2 x3 x4 : Int) : Option (TAs [.one (.d (.int .i64)), .one (.d (.err 129))]) :=
 ((f_146 N x1 x2 x3 x4).bind fun r5 => (bif (!(Option.isNone r5)) then (some (0, r5)) else (bif x1 then ((f_52 N x2 x3).bind fun r6 => ((f_141 N r6).bind fun r7 => (bif (!r7) then (some (0, (some 2))) else (some (r6, none))))) else ((f_52 N x4 x3).bind fun r8 => ((f_141 N r8).bind fun r9 => (bif (!r9) then (some (0, (some 2))) else (some (r8, none))))))))
def S_78 (N : Nat) : Sum := fnSum 2 0 2 [zg12, .one (.d (.int .i64))] [.one (.d (.int .i64)), .one (.d (.err 129))] (fun ((x1, x2, x3), x4) => f_78 N x1 x2 x3 x4)
theorem s_78 (N : Nat) : SumOk Tryz.prog laidL 78 (S_78 N) := fn_x h0 (fk (s_146 N) (fk (s_52 N) (fk (s_141 N) fz))) Tryz.func78 (lookOk_nil)
def f_189 (N : Nat) (x1 x2 : Int) (x3 : List Int) (x4 : Int) : Option (TAs [.one (.d (.int .i64)), .one (.d (.err 129))]) :=
 ((f_203 N x1 x2 x3 x4).bind fun r5 => (bif (!(Option.isNone r5)) then (some (0, r5)) else ((f_204 N x1 x2 x3 x4).bind fun r6 => (some (r6, none)))))
def S_189 (N : Nat) : Sum := fnSum 2 0 2 [zg10, .one (.d (.int .i64))] [.one (.d (.int .i64)), .one (.d (.err 129))] (fun ((x1, x2, x3), x4) => f_189 N x1 x2 x3 x4)
theorem s_189 (N : Nat) : SumOk Tryz.prog laidL 189 (S_189 N) := fn_x h0 (fk (s_203 N) (fk (s_204 N) fz)) Tryz.func189 (lookOk_nil)
def f_202 (N : Nat) (x1 x2 : Int) (x3 : List Int) (x4 : Int) : Option (TAs [.one (.d (.int .i64))]) :=
 ((f_204 N x1 x2 x3 x4).bind fun r5 => (some (IntKind.i64.wrap ((IntKind.i64.wrap (x4 * 86400)) + r5))))
def S_202 (N : Nat) : Sum := fnSum 2 0 1 [zg10, .one (.d (.int .i64))] [.one (.d (.int .i64))] (fun ((x1, x2, x3), x4) => f_202 N x1 x2 x3 x4)
theorem s_202 (N : Nat) : SumOk Tryz.prog laidL 202 (S_202 N) := fn_x h0 (fk (s_204 N) fz) Tryz.func202 (lookOk_nil)
def f_223 (N : Nat) (x1 x2 x3 x4 x5 : Int) : Option (TAs [zg8]) :=
 ((f_224 N 2 x2 x3 x4 (ibits .xor .u64 x5 x1)).bind fun r6 => (some ((ibits .xor .u64 r6.1 x1), r6.2.1, r6.2.2.1, r6.2.2.2)))
def S_223 (N : Nat) : Sum := fnSum 2 1 0 [.one (.ptr 0 0), .one (.d (.int .u64)), zg8] [zg8] (fun (_, x1, (x2, x3, x4, x5)) => f_223 N x1 x2 x3 x4 x5)
theorem s_223 (N : Nat) : SumOk Tryz.prog laidL 223 (S_223 N) := fn_x h0 (fk (s_224 N) fz) Tryz.func223 (lookOk_nil)
def X_188 (N : Nat) : List (Nat × Sum) := [(187, (S_187 N)), (94, (S_94 N)), (202, (S_202 N))]
theorem x_188 (N : Nat) : FnsOk Tryz.prog laidL (X_188 N) := fk (s_187 N) (fk (s_94 N) (fk (s_202 N) fz))
def sh_188_0 : List ShA := [.one (.ptr 160 0), .one (.ptr 192 0), .one (.d (.int .i64)), .one (.d (.int .i64)), .one (.d (.int .i64)), zg10, zg11]
abbrev T_188_0 := TAs [.one (.ptr 160 0), .one (.ptr 192 0), .one (.d (.int .i64)), .one (.d (.int .i64)), .one (.d (.int .i64)), zg10, zg11]
def o_188_0 : OutK 0 T_188_0 := (outOne 0 (.exit 0) [2, 4, 7, 8, 10] [160, 192] [.one (.ptr 160 0), .one (.ptr 192 0), .one (.d (.int .i64)), .one (.d (.int .i64)), .one (.d (.int .i64)), zg10, zg11])
def b_188_0 (N : Nat) (ih : TAs sh_188_0 → Option T_188_0) : TAs sh_188_0 → Option T_188_0 := fun (_, _, y10, y11, y12, (y13, y14, y15), (y16, y17, y18)) =>
 ((f_202 N y13 y14 y15 y12).bind fun r19 => (bif (decide (y10 < r19)) then (ih ((), (), y10, y11, (IntKind.i64.wrap (y12 - 1)), (y13, y14, y15), (y16, y17, y18))) else (some (((), (), y10, y11, y12, (y13, y14, y15), (y16, y17, y18))))))
def l_188_0 (N : Nat) : TAs sh_188_0 → Option T_188_0 := iter (b_188_0 N) N
def L_188_0 (N : Nat) : LSum := loopSum [2, 4, 7, 8, 10] [160, 192] sh_188_0 o_188_0 (l_188_0 N)
theorem L_ok_188_0 (N : Nat) : SegOk Tryz.prog laidL 0 Tryz.f188.ntmps (loopAt 0 0 (bodyOf Tryz.f188)) (L_188_0 N) :=
 lp_x h0 (x_188 N) (lookOk_nil)
def f_188 (N : Nat) (x1 x2 : Int) (x3 : List Int) (x4 : Int) : Option (TAs [zg11, .one (.d (.err 129))]) :=
 ((f_187 N x1 x2 x3).bind fun r5 => (bif (!(Option.isNone r5)) then (some ((0, 0, 0), r5)) else ((f_94 N x4 1000000000).bind fun r6 => (bif (!(Option.isNone r6.2.2)) then (some ((0, 0, 0), (some 2))) else (bif (decide (x4 ≤ (-4611686018427387904))) then (some ((0, 0, 0), (some 2))) else (bif (decide (x4 ≥ 4611686018427387904)) then (some ((0, 0, 0), (some 2))) else ((f_202 N x1 x2 x3 (-50000)).bind fun r7 => (bif (decide (r6.1 < r7)) then (some ((0, 0, 0), (some 2))) else ((f_202 N x1 x2 x3 x2).bind fun r8 => (bif (decide (r6.1 ≥ r8)) then (some ((0, 0, 0), (some 10))) else ((f_94 N r6.1 86400).bind fun r9 => (bif (!(Option.isNone r9.2.2)) then (some ((0, 0, 0), r9.2.2)) else ((l_188_0 N ((), (), r6.1, r6.2.1, r9.1, (x1, x2, x3), (0, 0, 0))).bind fun q20 => ((f_202 N q20.2.2.2.2.2.1.1 q20.2.2.2.2.2.1.2.1 q20.2.2.2.2.2.1.2.2 q20.2.2.2.2.1).bind fun r21 => (some ((q20.2.2.2.2.1, (IntKind.i64.wrap (q20.2.2.1 - r21)), q20.2.2.2.1), none))))))))))))))))
def S_188 (N : Nat) : Sum := fnSum 2 0 2 [zg10, .one (.d (.int .i64))] [zg11, .one (.d (.err 129))] (fun ((x1, x2, x3), x4) => f_188 N x1 x2 x3 x4)
theorem s_188 (N : Nat) : SumOk Tryz.prog laidL 188 (S_188 N) := fn_x h0 (x_188 N) Tryz.func188 ((lookOk_cons (L_ok_188_0 N) lookOk_nil))
def X_215 (N : Nat) : List (Nat × Sum) := [(222, (S_222 N)), (223, (S_223 N)), (224, (S_224 N))]
theorem x_215 (N : Nat) : FnsOk Tryz.prog laidL (X_215 N) := fk (s_222 N) (fk (s_223 N) (fk (s_224 N) fz))
def sh_215_0 : List ShA := [.one (.d (.sl [.int .u8])), .one (.ptr 496 0), .one (.d (.int .i64)), zg8]
abbrev T_215_0 := TAs [.one (.d (.sl [.int .u8])), .one (.ptr 496 0), .one (.d (.int .i64)), zg8]
def o_215_0 : OutK 0 T_215_0 := (outOne 0 (.exit 0) [1, 7, 8] [496] [.one (.d (.sl [.int .u8])), .one (.ptr 496 0), .one (.d (.int .i64)), zg8])
def b_215_0 (N : Nat) (ih : TAs sh_215_0 → Option T_215_0) : TAs sh_215_0 → Option T_215_0 := fun (y5, _, y6, (y7, y8, y9, y10)) =>
 (bif (decide ((List.length y5 : Int) ≥ 8)) then (bif (decide (0 ≤ (8 : Int) ∧ (8 : Int) ≤ (List.length y5 : Int))) then (bif (decide (0 ≤ (0 : Int) ∧ (0 : Int) ≤ (8 : Int))) then ((f_222 N (List.drop (Int.toNat (0 : Int)) (List.take (Int.toNat (8 : Int)) y5))).bind fun r11 => ((f_223 N r11 y7 y8 y9 y10).bind fun r12 => (bif (decide (0 ≤ (List.length y5 : Int) ∧ (List.length y5 : Int) ≤ (List.length y5 : Int))) then (bif (decide (0 ≤ (8 : Int) ∧ (8 : Int) ≤ (List.length y5 : Int))) then (ih ((List.drop (Int.toNat (8 : Int)) (List.take (Int.toNat (List.length y5 : Int)) y5)), (), y6, (r12.1, r12.2.1, r12.2.2.1, r12.2.2.2))) else none) else none))) else none) else none) else (some ((y5, (), y6, (y7, y8, y9, y10)))))
def l_215_0 (N : Nat) : TAs sh_215_0 → Option T_215_0 := iter (b_215_0 N) N
def L_215_0 (N : Nat) : LSum := loopSum [1, 7, 8] [496] sh_215_0 o_215_0 (l_215_0 N)
theorem L_ok_215_0 (N : Nat) : SegOk Tryz.prog laidL 0 Tryz.f215.ntmps (loopAt 0 0 (bodyOf Tryz.f215)) (L_215_0 N) :=
 lp_x h0 (x_215 N) (lookOk_nil)
def f_215 (N : Nat) (x1 x2 : List Int) : Option (TAs [.one (.d (.int .u64))]) :=
 ((f_222 N (List.drop 0 (List.take 8 x1))).bind fun r3 => ((f_222 N (List.drop 8 (List.take 16 x1))).bind fun r4 => ((l_215_0 N (x2, (), (List.length x2 : Int), ((ibits .xor .u64 r3 8317987319222330741), (ibits .xor .u64 r4 7237128888997146477), (ibits .xor .u64 r3 7816392313619706465), (ibits .xor .u64 r4 8387220255154660723)))).bind fun q13 => (bif (decide (List.length q13.1 ≤ 8)) then ((f_222 N (List.drop 0 (List.take 8 (List.set (List.take 0 [0, 0, 0, 0, 0, 0, 0, 0] ++ (q13.1 ++ List.drop (0 + List.length q13.1) [0, 0, 0, 0, 0, 0, 0, 0])) (Int.toNat 7) (IntKind.u8.wrap q13.2.2.1))))).bind fun r14 => ((f_223 N r14 q13.2.2.2.1 q13.2.2.2.2.1 q13.2.2.2.2.2.1 q13.2.2.2.2.2.2).bind fun r15 => ((f_224 N 4 r15.1 r15.2.1 (ibits .xor .u64 r15.2.2.1 255) r15.2.2.2).bind fun r16 => (some (ibits .xor .u64 (ibits .xor .u64 (ibits .xor .u64 r16.1 r16.2.1) r16.2.2.1) r16.2.2.2))))) else none))))
def S_215 (N : Nat) : Sum := fnSum 2 0 1 [.agg [.d (.arr .u8 16)], .one (.d (.sl [.int .u8]))] [.one (.d (.int .u64))] (fun (x1, x2) => f_215 N x1 x2)
theorem s_215 (N : Nat) : SumOk Tryz.prog laidL 215 (S_215 N) := fn_x h0 (x_215 N) Tryz.func215 ((lookOk_cons (L_ok_215_0 N) lookOk_nil))
def f_148 (N : Nat) (x1 x2 : Int) (x3 : List Int) (x4 : Int) : Option (TAs [.one (.d (.int .i64)), .one (.d (.err 129))]) :=
 ((f_188 N x1 x2 x3 x4).bind fun r5 => (bif (!(Option.isNone r5.2)) then (some (0, r5.2)) else ((f_189 N x1 x2 x3 r5.1.1).bind fun r6 => (bif (!(Option.isNone r6.2)) then (some (0, r6.2)) else (some ((IntKind.i64.wrap (x4 - (IntKind.i64.wrap (r6.1 * 1000000000)))), none))))))
def S_148 (N : Nat) : Sum := fnSum 2 0 2 [zg10, .one (.d (.int .i64))] [.one (.d (.int .i64)), .one (.d (.err 129))] (fun ((x1, x2, x3), x4) => f_148 N x1 x2 x3 x4)
theorem s_148 (N : Nat) : SumOk Tryz.prog laidL 148 (S_148 N) := fn_x h0 (fk (s_188 N) (fk (s_189 N) fz)) Tryz.func148 (lookOk_nil)
def f_201 (N : Nat) (x1 : List Int) (x2 x3 : Int) : Option (TAs [.one (.d (.int .u64))]) :=
 ((f_216 N ([] : List Int) x2).bind fun r4 => ((f_215 N x1 r4).bind fun r5 => (bif ((IntKind.u64.wrap (x3 + 1)) == 0) then (some r5) else (bif (decide ((IntKind.u64.wrap (x3 + 1)) = 0)) then none else (some (Int.tmod r5 (IntKind.u64.wrap (x3 + 1))))))))
def S_201 (N : Nat) : Sum := fnSum 3 0 1 [.agg [.d (.arr .u8 16)], .one (.d (.int .i64)), .one (.d (.int .u64))] [.one (.d (.int .u64))] (fun (x1, x2, x3) => f_201 N x1 x2 x3)
theorem s_201 (N : Nat) : SumOk Tryz.prog laidL 201 (S_201 N) := fn_x h0 (fk (s_216 N) (fk (s_215 N) fz)) Tryz.func201 (lookOk_nil)
def X_79 (N : Nat) : List (Nat × Sum) := [(147, (S_147 N)), (148, (S_148 N)), (149, (S_149 N)), (150, (S_150 N))]
theorem x_79 (N : Nat) : FnsOk Tryz.prog laidL (X_79 N) := fk (s_147 N) (fk (s_148 N) (fk (s_149 N) (fk (s_150 N) fz)))
def sh_79_0 : List ShA := [.one (.d (.int .i64)), .one (.ptr 176 0), .one (.ptr 192 0), .one (.d (.int .i64)), .one (.d (.int .i64)), .one (.d (.int .i64)), zg11, zg10]
abbrev T_79_0 := ((TAs [.one (.d (.int .i64)), .one (.d (.err 129))]) ⊕ (TAs [.one (.d (.int .i64))]))
def o_79_0 : OutK 0 T_79_0 := (outTwo (outOne 0 .ret [6, 7] [] [.one (.d (.int .i64)), .one (.d (.err 129))]) (outOne 0 (.exit 0) [9] [] [.one (.d (.int .i64))]))
def b_79_0 (N : Nat) (ih : TAs sh_79_0 → Option T_79_0) : TAs sh_79_0 → Option T_79_0 := fun (y10, _, _, y11, y12, y13, (y14, y15, y16), (y17, y18, y19)) =>
 (bif (decide (y13 < y12)) then ((f_149 N y14 y15 y16 y17 y18 y19 y13).bind fun r20 => (bif (decide (y10 < (IntKind.i64.wrap (r20.1 * 1000000000)))) then (ih (y10, (), (), y11, y12, (IntKind.i64.wrap (y13 + 1)), (y14, y15, y16), (y17, y18, y19))) else (bif (decide (y10 ≥ (IntKind.i64.wrap (r20.2 * 1000000000)))) then (ih (y10, (), (), y11, y12, (IntKind.i64.wrap (y13 + 1)), (y14, y15, y16), (y17, y18, y19))) else ((f_150 N y14 y15 y16 (IntKind.i64.wrap (y10 - (IntKind.i64.wrap (r20.1 * 1000000000))))).bind fun r21 => (bif (!(Option.isNone r21.2)) then (some (.inl (0, r21.2))) else (some (.inl ((IntKind.i64.wrap ((IntKind.i64.wrap (y10 - (IntKind.i64.wrap ((IntKind.i64.wrap (y17 + y13)) * 1000000000)))) - r21.1)), none)))))))) else (some (.inr y11)))
def l_79_0 (N : Nat) : TAs sh_79_0 → Option T_79_0 := iter (b_79_0 N) N
def L_79_0 (N : Nat) : LSum := loopSum [2, 3, 4, 9, 39, 40] [176, 192] sh_79_0 o_79_0 (l_79_0 N)
theorem L_ok_79_0 (N : Nat) : SegOk Tryz.prog laidL 0 Tryz.f79.ntmps (loopAt 0 0 (bodyOf Tryz.f79)) (L_79_0 N) :=
 lp_x h0 (x_79 N) (lookOk_nil)
def f_79 (N : Nat) (x1 x2 x3 x4 x5 : Int) (x6 : List Int) (x7 : Int) : Option (TAs [.one (.d (.int .i64)), .one (.d (.err 129))]) :=
 ((f_147 N x1 x2 x3 x4 x5 x6).bind fun r8 => (bif (!(Option.isNone r8)) then (some (0, r8)) else ((f_148 N x4 x5 x6 x7).bind fun r9 => (bif (!(Option.isNone r9.2)) then (some (r9.1, r9.2)) else (bif (x1 == 0) then (some (r9.1, r9.2)) else ((l_79_0 N (x7, (), (), r9.1, (List.length x6 : Int), 0, (x1, x2, x3), (x4, x5, x6))).bind fun q => (match q with | .inl q22 => (some (q22.1, q22.2)) | .inr q23 => (some (q23, none)))))))))
def S_79 (N : Nat) : Sum := fnSum 3 0 2 [zg11, zg10, .one (.d (.int .i64))] [.one (.d (.int .i64)), .one (.d (.err 129))] (fun ((x1, x2, x3), (x4, x5, x6), x7) => f_79 N x1 x2 x3 x4 x5 x6 x7)
theorem s_79 (N : Nat) : SumOk Tryz.prog laidL 79 (S_79 N) := fn_x h0 (x_79 N) Tryz.func79 ((lookOk_cons (L_ok_79_0 N) lookOk_nil))
def f_184 (N : Nat) (x1 x2 : Int) (x3 : List Int) (x4 : Int) : Option (TAs [.one (.d (.int .i64)), .one (.d (.err 129))]) :=
 ((f_108 N x1 x2).bind fun r5 => (bif (!(Option.isNone r5)) then (some (0, r5)) else ((f_94 N x4 x2).bind fun r6 => (bif (!(Option.isNone r6.2.2)) then (some (0, r6.2.2)) else ((f_201 N x3 r6.1 (IntKind.u64.wrap x1)).bind fun r7 => (some ((IntKind.i64.wrap r7), none)))))))
def S_184 (N : Nat) : Sum := fnSum 3 0 2 [zg15, .agg [.d (.arr .u8 16)], .one (.d (.int .i64))] [.one (.d (.int .i64)), .one (.d (.err 129))] (fun ((x1, x2), x3, x4) => f_184 N x1 x2 x3 x4)
theorem s_184 (N : Nat) : SumOk Tryz.prog laidL 184 (S_184 N) := fn_x h0 (fk (s_108 N) (fk (s_94 N) (fk (s_201 N) fz))) Tryz.func184 (lookOk_nil)
def f_25 (N : Nat) (x1 : ByteArray) (x2 : List Int) (x3 x4 x5 x6 x7 x8 : Int) (x9 : Bool) (x10 : ByteArray) (x11 : Int) (x12 : List (Int × Int × ByteArray)) (x13 : Bool) (x14 x15 : Int) (x16 : Bool) (x17 x18 x19 x20 : Int) (x21 : List Int) (x22 : Int) : Option (TAs [.one (.d (.int .i64)), .one (.d (.err 129))]) :=
 ((f_22 N x1 x2 x3 x4 x5 x6 x7 x8 x9 x10 x11 x12 x13 x14 x15 x16 x17 x18).bind fun r23 => (bif (!(Option.isNone r23)) then (some (0, r23)) else ((f_78 N x13 x14 x15 x22).bind fun r24 => (bif (!(Option.isNone r24.2)) then (some (0, r24.2)) else ((f_79 N x3 x4 x5 x19 x20 x21 r24.1).bind fun r25 => (some (r25.1, r25.2)))))))
def S_25 (N : Nat) : Sum := fnSum 3 0 2 [zg1, zg10, .one (.d (.int .i64))] [.one (.d (.int .i64)), .one (.d (.err 129))] (fun ((x1, x2, x3, x4, x5, x6, x7, x8, x9, x10, x11, x12, x13, x14, x15, x16, x17, x18), (x19, x20, x21), x22) => f_25 N x1 x2 x3 x4 x5 x6 x7 x8 x9 x10 x11 x12 x13 x14 x15 x16 x17 x18 x19 x20 x21 x22)
theorem s_25 (N : Nat) : SumOk Tryz.prog laidL 25 (S_25 N) := fn_x h0 (fk (s_22 N) (fk (s_78 N) (fk (s_79 N) fz))) Tryz.func25 (lookOk_nil)
def f_143 (N : Nat) (x1 x2 : Int) (x3 : List Int) (x4 : Int) : Option (TAs [.one (.d (.int .i64)), .one (.d (.err 129))]) :=
 ((f_184 N x1 x2 x3 x4).bind fun r5 => (bif (!(Option.isNone r5.2)) then (some (0, r5.2)) else ((f_114 N x4 r5.1).bind fun r6 => (some (r6.1, r6.2)))))
def S_143 (N : Nat) : Sum := fnSum 3 0 2 [zg15, .agg [.d (.arr .u8 16)], .one (.d (.int .i64))] [.one (.d (.int .i64)), .one (.d (.err 129))] (fun ((x1, x2), x3, x4) => f_143 N x1 x2 x3 x4)
theorem s_143 (N : Nat) : SumOk Tryz.prog laidL 143 (S_143 N) := fn_x h0 (fk (s_184 N) (fk (s_114 N) fz)) Tryz.func143 (lookOk_nil)
def f_74 (N : Nat) (_x1 : ByteArray) (x2 : List Int) (_x3 _x4 _x5 x6 x7 x8 : Int) (_x9 : Bool) (_x10 : ByteArray) (_x11 : Int) (_x12 : List (Int × Int × ByteArray)) (_x13 : Bool) (_x14 _x15 : Int) (_x16 : Bool) (_x17 _x18 x19 : Int) : Option (TAs [.one (.d (.int .i64)), .one (.d (.err 129))]) :=
 ((f_143 N x7 x8 x2 x19).bind fun r20 => (bif (!(Option.isNone r20.2)) then (some (0, r20.2)) else ((f_144 N r20.1 x6).bind fun r21 => (some (r21.1, r21.2)))))
def S_74 (N : Nat) : Sum := fnSum 2 0 2 [zg1, .one (.d (.int .i64))] [.one (.d (.int .i64)), .one (.d (.err 129))] (fun ((x1, x2, x3, x4, x5, x6, x7, x8, x9, x10, x11, x12, x13, x14, x15, x16, x17, x18), x19) => f_74 N x1 x2 x3 x4 x5 x6 x7 x8 x9 x10 x11 x12 x13 x14 x15 x16 x17 x18 x19)
theorem s_74 (N : Nat) : SumOk Tryz.prog laidL 74 (S_74 N) := fn_x h0 (fk (s_143 N) (fk (s_144 N) fz)) Tryz.func74 (lookOk_nil)
def f_24 (N : Nat) (x1 : ByteArray) (x2 : List Int) (x3 x4 x5 x6 x7 x8 : Int) (x9 : Bool) (x10 : ByteArray) (x11 : Int) (x12 : List (Int × Int × ByteArray)) (x13 : Bool) (x14 x15 : Int) (x16 : Bool) (x17 x18 x19 x20 : Int) (x21 : List Int) (x22 x23 : Int) : Option (TAs [zg9, zg0, .one (.d (.err 129))]) :=
 ((f_22 N x1 x2 x3 x4 x5 x6 x7 x8 x9 x10 x11 x12 x13 x14 x15 x16 x17 x18).bind fun r24 => (bif (!(Option.isNone r24)) then (some ((0, 0, 0, 0), (ByteArray.empty, [0, 0, 0, 0, 0, 0, 0, 0, 0, 0, 0, 0, 0, 0, 0, 0], 0, 0, 0, 0, 0, 0, false, ByteArray.empty, 0, ([] : List (Int × Int × ByteArray)), false, 0, 0, false, 0, 0), (some 1))) else (bif (decide (x23 < 0)) then (some ((0, 0, 0, 0), (ByteArray.empty, [0, 0, 0, 0, 0, 0, 0, 0, 0, 0, 0, 0, 0, 0, 0, 0], 0, 0, 0, 0, 0, 0, false, ByteArray.empty, 0, ([] : List (Int × Int × ByteArray)), false, 0, 0, false, 0, 0), (some 1))) else (bif x13 then (some ((0, 0, 0, 0), (ByteArray.empty, [0, 0, 0, 0, 0, 0, 0, 0, 0, 0, 0, 0, 0, 0, 0, 0], 0, 0, 0, 0, 0, 0, false, ByteArray.empty, 0, ([] : List (Int × Int × ByteArray)), false, 0, 0, false, 0, 0), (some 16))) else ((f_25 N x1 x2 x3 x4 x5 x6 x7 x8 x9 x10 x11 x12 x13 x14 x15 x16 x17 x18 x19 x20 x21 x22).bind fun r25 => (bif (!(Option.isNone r25.2)) then (some ((0, 0, 0, 0), (ByteArray.empty, [0, 0, 0, 0, 0, 0, 0, 0, 0, 0, 0, 0, 0, 0, 0, 0], 0, 0, 0, 0, 0, 0, false, ByteArray.empty, 0, ([] : List (Int × Int × ByteArray)), false, 0, 0, false, 0, 0), r25.2)) else ((f_74 N x1 x2 x3 x4 x5 x6 x7 x8 x9 x10 x11 x12 x13 x14 x15 x16 x17 x18 r25.1).bind fun r26 => (bif (!(Option.isNone r26.2)) then (some ((0, 0, 0, 0), (ByteArray.empty, [0, 0, 0, 0, 0, 0, 0, 0, 0, 0, 0, 0, 0, 0, 0, 0], 0, 0, 0, 0, 0, 0, false, ByteArray.empty, 0, ([] : List (Int × Int × ByteArray)), false, 0, 0, false, 0, 0), r26.2)) else ((f_75 N x1 x2 x3 x4 x5 x6 x7 x8 x9 x10 x11 x12 x13 x14 x15 x16 x17 x18).bind fun r27 => (bif (x3 != 0) then ((f_76 N x16 x17 r26.1).bind fun r28 => ((f_77 N x1 x2 x3 x4 x5 x6 x7 x8 x9 x10 x11 x12 x13 x14 x15 x16 x17 x18 x23 r28.2.1).bind fun r29 => (some ((r28.1, r29, r28.2.1, x23), (r27.1, r27.2.1, r27.2.2.1, r27.2.2.2.1, r27.2.2.2.2.1, r27.2.2.2.2.2.1, r27.2.2.2.2.2.2.1, r27.2.2.2.2.2.2.2.1, r27.2.2.2.2.2.2.2.2.1, r27.2.2.2.2.2.2.2.2.2.1, r27.2.2.2.2.2.2.2.2.2.2.1, r27.2.2.2.2.2.2.2.2.2.2.2.1, r27.2.2.2.2.2.2.2.2.2.2.2.2.1, r27.2.2.2.2.2.2.2.2.2.2.2.2.2.1, r27.2.2.2.2.2.2.2.2.2.2.2.2.2.2.1, r28.2.2.1, r28.2.2.2, r27.2.2.2.2.2.2.2.2.2.2.2.2.2.2.2.2.2), none)))) else ((f_77 N x1 x2 x3 x4 x5 x6 x7 x8 x9 x10 x11 x12 x13 x14 x15 x16 x17 x18 x23 0).bind fun r30 => (some ((r26.1, r30, 0, x23), (r27.1, r27.2.1, r27.2.2.1, r27.2.2.2.1, r27.2.2.2.2.1, r27.2.2.2.2.2.1, r27.2.2.2.2.2.2.1, r27.2.2.2.2.2.2.2.1, r27.2.2.2.2.2.2.2.2.1, r27.2.2.2.2.2.2.2.2.2.1, r27.2.2.2.2.2.2.2.2.2.2.1, r27.2.2.2.2.2.2.2.2.2.2.2.1, r27.2.2.2.2.2.2.2.2.2.2.2.2.1, r27.2.2.2.2.2.2.2.2.2.2.2.2.2.1, r27.2.2.2.2.2.2.2.2.2.2.2.2.2.2.1, r27.2.2.2.2.2.2.2.2.2.2.2.2.2.2.2.1, r27.2.2.2.2.2.2.2.2.2.2.2.2.2.2.2.2.1, r27.2.2.2.2.2.2.2.2.2.2.2.2.2.2.2.2.2), none)))))))))))))
def S_24 (N : Nat) : Sum := fnSum 4 0 3 [zg1, zg10, .one (.d (.int .i64)), .one (.d (.int .i64))] [zg9, zg0, .one (.d (.err 129))] (fun ((x1, x2, x3, x4, x5, x6, x7, x8, x9, x10, x11, x12, x13, x14, x15, x16, x17, x18), (x19, x20, x21), x22, x23) => f_24 N x1 x2 x3 x4 x5 x6 x7 x8 x9 x10 x11 x12 x13 x14 x15 x16 x17 x18 x19 x20 x21 x22 x23)
theorem s_24 (N : Nat) : SumOk Tryz.prog laidL 24 (S_24 N) := fn_x h0 (fk (s_22 N) (fk (s_25 N) (fk (s_74 N) (fk (s_75 N) (fk (s_76 N) (fk (s_77 N) fz)))))) Tryz.func24 (lookOk_nil)
end
end Go.Proofs.YthpljlpokmoeeaaGreatDoor.Mir
namespace Go.Proofs.YthpljlpokmoeeaaGreatDoor.Mir
open Go Go.RowKit
set_option maxRecDepth 100000
noncomputable section
def X_8 (_ : Nat) : List (Nat × Sum) := []
theorem x_8 (N : Nat) : FnsOk Tryz.prog laidL (X_8 N) := fz
def sh_8_0 : List ShA := [.one (.ptr 144 0), .one (.d (.int .i64)), zg7]
abbrev T_8_0 := ((TAs [.one (.d (.bool))]) ⊕ (TAs [.one (.ptr 144 0), zg7]))
def o_8_0 : OutK 0 T_8_0 := (outTwo (outOne 0 .ret [2] [] [.one (.d (.bool))]) (outOne 0 (.exit 0) [1] [144] [.one (.ptr 144 0), zg7]))
def b_8_0 (_ : Nat) (ih : TAs sh_8_0 → Option T_8_0) : TAs sh_8_0 → Option T_8_0 := fun (_, y4, (y5, y6, y7)) =>
 (bif (decide (y4 < (List.length y7 : Int))) then (bif (decide (y4 < 60)) then (bif (decide (0 ≤ y4 ∧ y4 < (List.length y7 : Int))) then (bif (decide ((ByteArray.size (List.getD y7 (Int.toNat y4) (0, 0, ByteArray.empty)).2.2 : Int) > 200)) then (some (.inl true)) else (ih ((), (IntKind.i64.wrap (y4 + 1)), (y5, y6, y7)))) else none) else (some (.inr ((), (y5, y6, y7))))) else (some (.inr ((), (y5, y6, y7)))))
def l_8_0 (N : Nat) : TAs sh_8_0 → Option T_8_0 := iter (b_8_0 N) N
def L_8_0 (N : Nat) : LSum := loopSum [1, 3] [144] sh_8_0 o_8_0 (l_8_0 N)
theorem L_ok_8_0 (N : Nat) : SegOk Tryz.prog laidL 0 Tryz.f8.ntmps (loopAt 0 0 (bodyOf Tryz.f8)) (L_8_0 N) :=
 lp_x h0 (x_8 N) (lookOk_nil)
def f_8 (N : Nat) (x1 : ByteArray) (x2 : Int) (x3 : List (Int × Int × ByteArray)) : Option (TAs [.one (.d (.bool))]) :=
 ((l_8_0 N ((), 0, (x1, x2, x3))).bind fun q => (match q with | .inl q8 => (some q8) | .inr q9 => (bif (decide ((List.length q9.2.2.2 : Int) > 60)) then (some true) else (some (decide ((ByteArray.size q9.2.1 : Int) > 200))))))
def S_8 (N : Nat) : Sum := fnSum 1 0 1 [zg7] [.one (.d (.bool))] (fun (x1, x2, x3) => f_8 N x1 x2 x3)
theorem s_8 (N : Nat) : SumOk Tryz.prog laidL 8 (S_8 N) := fn_x h0 (x_8 N) Tryz.func8 ((lookOk_cons (L_ok_8_0 N) lookOk_nil))
def f_10 (_ : Nat) (x1 x2 x3 x4 x5 x6 x7 x8 x9 x10 : Int) : Option (TAs [zg4]) :=
 (some (x1, x2, x3, x4, x5, x6, x7, x8, x9, x10))
def S_10 (N : Nat) : Sum := fnSum 1 0 1 [zg4] [zg4] (fun (x1, x2, x3, x4, x5, x6, x7, x8, x9, x10) => f_10 N x1 x2 x3 x4 x5 x6 x7 x8 x9 x10)
theorem s_10 (N : Nat) : SumOk Tryz.prog laidL 10 (S_10 N) := fn_x h0 fz Tryz.func10 (lookOk_nil)
def f_17 (_ : Nat) (x1 : Option Int) : Option (TAs [.one (.d (.int .i64))]) :=
 (bif (Option.isNone x1) then (some 0) else ((some (x1, (0 : Int)) : Option (Option Int × Int)).bind fun r2 => (bif (Option.isSome r2.1) then (some (asVal r2.2 r2.1)) else (some (-1)))))
def S_17 (N : Nat) : Sum := fnSum 1 0 1 [.one (.d (.err 129))] [.one (.d (.int .i64))] (fun x1 => f_17 N x1)
theorem s_17 (N : Nat) : SumOk Tryz.prog laidL 17 (S_17 N) := fn_x h0 (fk asS_ok fz) Tryz.func17 (lookOk_nil)
def f_43 (N : Nat) (x1 : ByteArray) (_x2 : List Int) (_x3 _x4 _x5 _x6 _x7 _x8 : Int) (_x9 : Bool) (x10 : ByteArray) (x11 : Int) (x12 : List (Int × Int × ByteArray)) (_x13 : Bool) (_x14 _x15 : Int) (_x16 : Bool) (_x17 _x18 : Int) : Option (TAs [.one (.d (.bool))]) :=
 ((f_8 N x10 x11 x12).bind fun r19 => (bif r19 then (some true) else (some (decide ((ByteArray.size x1 : Int) > 100)))))
def S_43 (N : Nat) : Sum := fnSum 1 0 1 [zg1] [.one (.d (.bool))] (fun (x1, x2, x3, x4, x5, x6, x7, x8, x9, x10, x11, x12, x13, x14, x15, x16, x17, x18) => f_43 N x1 x2 x3 x4 x5 x6 x7 x8 x9 x10 x11 x12 x13 x14 x15 x16 x17 x18)
theorem s_43 (N : Nat) : SumOk Tryz.prog laidL 43 (S_43 N) := fn_x h0 (fk (s_8 N) fz) Tryz.func43 (lookOk_nil)
def f_46 (_ : Nat) : Option (TAs [zg4]) :=
 (some (0, 0, 0, 5, 2147483648, 31, 2147483648, 31, 1048576, 1099511627776))
def S_46 (N : Nat) : Sum := fnSum 0 0 1 [] [zg4] (fun _ => f_46 N)
theorem s_46 (N : Nat) : SumOk Tryz.prog laidL 46 (S_46 N) := fn_x h0 fz Tryz.func46 (lookOk_nil)
def X_48 (_ : Nat) : List (Nat × Sum) := []
theorem x_48 (N : Nat) : FnsOk Tryz.prog laidL (X_48 N) := fz
def sh_48_0 : List ShA := [.one (.ptr 144 0), .one (.ptr 160 0), .one (.ptr 176 0), .one (.d (.int .i64)), zg7, zg6, zg6]
abbrev T_48_0 := TAs [.one (.ptr 160 0), .one (.ptr 176 0), zg6, zg6]
def o_48_0 : OutK 0 T_48_0 := (outOne 0 (.exit 0) [2, 3] [160, 176] [.one (.ptr 160 0), .one (.ptr 176 0), zg6, zg6])
def b_48_0 (_ : Nat) (ih : TAs sh_48_0 → Option T_48_0) : TAs sh_48_0 → Option T_48_0 := fun (_, _, _, y4, (y5, y6, y7), (y8, y9, y10), (y11, y12, y13)) =>
 (bif (decide (y4 < (List.length y7 : Int))) then (bif (decide (0 ≤ y4 ∧ y4 < (List.length y7 : Int))) then (bif (decide ((List.length y13 + List.length ([((List.getD y7 (Int.toNat y4) (0, 0, ByteArray.empty)).1, (List.getD y7 (Int.toNat y4) (0, 0, ByteArray.empty)).2.1, (List.getD y7 (Int.toNat y4) (0, 0, ByteArray.empty)).2.2)] : List (Int × Int × ByteArray))) * 32 ≤ 140737488355328)) then (ih ((), (), (), (IntKind.i64.wrap (y4 + 1)), (y5, y6, y7), (y8, y9, y10), (y11, y12, (y13 ++ ([((List.getD y7 (Int.toNat y4) (0, 0, ByteArray.empty)).1, (List.getD y7 (Int.toNat y4) (0, 0, ByteArray.empty)).2.1, (List.getD y7 (Int.toNat y4) (0, 0, ByteArray.empty)).2.2)] : List (Int × Int × ByteArray)))))) else none) else none) else (some (((), (), (y8, y9, y10), (y11, y12, y13)))))
def l_48_0 (N : Nat) : TAs sh_48_0 → Option T_48_0 := iter (b_48_0 N) N
def L_48_0 (N : Nat) : LSum := loopSum [1, 2, 3, 4] [144, 160, 176] sh_48_0 o_48_0 (l_48_0 N)
theorem L_ok_48_0 (N : Nat) : SegOk Tryz.prog laidL 0 Tryz.f48.ntmps (loopAt 0 0 (bodyOf Tryz.f48)) (L_48_0 N) :=
 lp_x h0 (x_48 N) (lookOk_nil)
def f_48 (N : Nat) (x1 : ByteArray) (x2 : Int) (x3 : List (Int × Int × ByteArray)) : Option (TAs [zg6]) :=
 ((l_48_0 N ((), (), (), 0, (x1, x2, x3), (ByteArray.empty, 0, ([] : List (Int × Int × ByteArray))), (x1, x2, ([] : List (Int × Int × ByteArray))))).bind fun q14 => (some (q14.2.2.2.1, q14.2.2.2.2.1, q14.2.2.2.2.2)))
def S_48 (N : Nat) : Sum := fnSum 1 0 1 [zg7] [zg6] (fun (x1, x2, x3) => f_48 N x1 x2 x3)
theorem s_48 (N : Nat) : SumOk Tryz.prog laidL 48 (S_48 N) := fn_x h0 (x_48 N) Tryz.func48 ((lookOk_cons (L_ok_48_0 N) lookOk_nil))
def f_100 (_ : Nat) (x1 x2 : Int) : Option (TAs [.one (.d (.bool))]) :=
 (bif (decide (x1 ≥ 0)) then (some (decide (x1 ≤ x2))) else (some false))
def S_100 (N : Nat) : Sum := fnSum 2 0 1 [.one (.d (.int .i64)), .one (.d (.int .i64))] [.one (.d (.bool))] (fun (x1, x2) => f_100 N x1 x2)
theorem s_100 (N : Nat) : SumOk Tryz.prog laidL 100 (S_100 N) := fn_x h0 fz Tryz.func100 (lookOk_nil)
def f_102 (_ : Nat) (x1 x2 : Int) : Option (TAs [.one (.d (.err 129))]) :=
 (bif (x1 == 0) then (some (some 1)) else (bif (decide (x2 < 0)) then (some (some 1)) else (bif (decide (x2 > 31)) then (some (some 1)) else (some none))))
def S_102 (N : Nat) : Sum := fnSum 1 0 1 [zg16] [.one (.d (.err 129))] (fun (x1, x2) => f_102 N x1 x2)
theorem s_102 (N : Nat) : SumOk Tryz.prog laidL 102 (S_102 N) := fn_x h0 fz Tryz.func102 (lookOk_nil)
def f_166 (N : Nat) (x1 x2 x3 : Int) : Option (TAs [.one (.d (.int .i64)), .one (.d (.err 129))]) :=
 ((f_102 N x1 x2).bind fun r4 => (bif (!(Option.isNone r4)) then (some (0, (some 1))) else (bif (decide (x3 < 0)) then (some (0, (some 1))) else (bif (decide (x2 < 0)) then none else ((f_164 N (x3 / 2 ^ (min (Int.toNat x2) IntKind.i64.bits)) 2).bind fun r5 => (some (r5.1, r5.2)))))))
def S_166 (N : Nat) : Sum := fnSum 2 0 2 [zg16, .one (.d (.int .i64))] [.one (.d (.int .i64)), .one (.d (.err 129))] (fun ((x1, x2), x3) => f_166 N x1 x2 x3)
theorem s_166 (N : Nat) : SumOk Tryz.prog laidL 166 (S_166 N) := fn_x h0 (fk (s_102 N) (fk (s_164 N) fz)) Tryz.func166 (lookOk_nil)
def f_197 (_ : Nat) (x1 x2 x3 : Int) : Option (TAs [.one (.d (.bool))]) :=
 (bif (decide (x1 < 0)) then (some true) else (bif (decide (x2 < 0)) then (some true) else (bif (decide (x2 > 2097152)) then (some true) else (some (decide (x3 < 0))))))
def S_197 (N : Nat) : Sum := fnSum 3 0 1 [.one (.d (.int .i64)), .one (.d (.int .i64)), .one (.d (.int .i64))] [.one (.d (.bool))] (fun (x1, x2, x3) => f_197 N x1 x2 x3)
theorem s_197 (N : Nat) : SumOk Tryz.prog laidL 197 (S_197 N) := fn_x h0 fz Tryz.func197 (lookOk_nil)
def f_11 (N : Nat) (x1 x2 x3 x4 x5 x6 : Int) (x7 : Bool) (x8 : ByteArray) (x9 : Int) (x10 : List (Int × Int × ByteArray)) : Option (TAs [zg2]) :=
 ((f_48 N x8 x9 x10).bind fun r11 => (some (x1, x2, x3, x4, x5, x6, x7, r11.1, r11.2.1, r11.2.2)))
def S_11 (N : Nat) : Sum := fnSum 1 0 1 [zg3] [zg2] (fun (x1, x2, x3, x4, x5, x6, x7, x8, x9, x10) => f_11 N x1 x2 x3 x4 x5 x6 x7 x8 x9 x10)
theorem s_11 (N : Nat) : SumOk Tryz.prog laidL 11 (S_11 N) := fn_x h0 (fk (s_48 N) fz) Tryz.func11 (lookOk_nil)
def f_42 (N : Nat) (x1 : ByteArray) (x2 : List Int) (x3 x4 x5 x6 x7 x8 : Int) (x9 : Bool) (x10 : ByteArray) (x11 : Int) (x12 : List (Int × Int × ByteArray)) (x13 : Bool) (x14 x15 : Int) (x16 : Bool) (x17 x18 : Int) : Option (TAs [zg0]) :=
 ((f_11 N x3 x4 x5 x6 x7 x8 x9 x10 x11 x12).bind fun r19 => (some (x1, x2, r19.1, r19.2.1, r19.2.2.1, r19.2.2.2.1, r19.2.2.2.2.1, r19.2.2.2.2.2.1, r19.2.2.2.2.2.2.1, r19.2.2.2.2.2.2.2.1, r19.2.2.2.2.2.2.2.2.1, r19.2.2.2.2.2.2.2.2.2, x13, x14, x15, x16, x17, x18)))
def S_42 (N : Nat) : Sum := fnSum 1 0 1 [zg1] [zg0] (fun (x1, x2, x3, x4, x5, x6, x7, x8, x9, x10, x11, x12, x13, x14, x15, x16, x17, x18) => f_42 N x1 x2 x3 x4 x5 x6 x7 x8 x9 x10 x11 x12 x13 x14 x15 x16 x17 x18)
theorem s_42 (N : Nat) : SumOk Tryz.prog laidL 42 (S_42 N) := fn_x h0 (fk (s_11 N) fz) Tryz.func42 (lookOk_nil)
def f_50 (N : Nat) (x1 x2 x3 : Int) : Option (TAs [.one (.d (.int .i64)), .one (.d (.err 129))]) :=
 ((f_102 N x1 x2).bind fun r4 => (bif (!(Option.isNone r4)) then (some (0, r4)) else ((msF x3 x1 x2).bind fun r5 => (some (r5.1, r5.2)))))
def S_50 (N : Nat) : Sum := fnSum 2 0 2 [zg16, .one (.d (.int .i64))] [.one (.d (.int .i64)), .one (.d (.err 129))] (fun ((x1, x2), x3) => f_50 N x1 x2 x3)
theorem s_50 (N : Nat) : SumOk Tryz.prog laidL 50 (S_50 N) := fn_x h0 (fk (s_102 N) (fk msS_ok fz)) Tryz.func50 (lookOk_nil)
def f_104 (N : Nat) (_x1 _x2 x3 _x4 x5 x6 _x7 _x8 _x9 _x10 x11 : Int) : Option (TAs [.one (.d (.int .i64)), .one (.d (.err 129))]) :=
 ((f_50 N x5 x6 x11).bind fun r12 => (bif (!(Option.isNone r12.2)) then (some (0, r12.2)) else ((f_164 N x3 r12.1).bind fun r13 => (bif (!(Option.isNone r13.2)) then (some (0, (some 2))) else (bif (decide (r13.1 ≥ 4611686018427387904)) then (some (0, (some 2))) else (some (r13.1, none)))))))
def S_104 (N : Nat) : Sum := fnSum 2 0 2 [zg4, .one (.d (.int .i64))] [.one (.d (.int .i64)), .one (.d (.err 129))] (fun ((x1, x2, x3, x4, x5, x6, x7, x8, x9, x10), x11) => f_104 N x1 x2 x3 x4 x5 x6 x7 x8 x9 x10 x11)
theorem s_104 (N : Nat) : SumOk Tryz.prog laidL 104 (S_104 N) := fn_x h0 (fk (s_50 N) (fk (s_164 N) fz)) Tryz.func104 (lookOk_nil)
def f_165 (N : Nat) (x1 x2 x3 : Int) : Option (TAs [.one (.d (.int .i64)), .one (.d (.err 129))]) :=
 ((f_197 N x1 x2 x3).bind fun r4 => (bif r4 then (some (0, (some 1))) else ((mdF (IntKind.i64.wrap (0 - x3)) x2 1073741824).bind fun r5 => (bif (!(Option.isNone r5.2)) then (some (9223372036854775807, none)) else ((f_52 N x1 r5.1).bind fun r6 => (some (r6, none)))))))
def S_165 (N : Nat) : Sum := fnSum 3 0 2 [.one (.d (.int .i64)), .one (.d (.int .i64)), .one (.d (.int .i64))] [.one (.d (.int .i64)), .one (.d (.err 129))] (fun (x1, x2, x3) => f_165 N x1 x2 x3)
theorem s_165 (N : Nat) : SumOk Tryz.prog laidL 165 (S_165 N) := fn_x h0 (fk (s_197 N) (fk mdS_ok (fk (s_52 N) fz))) Tryz.func165 (lookOk_nil)
def f_44 (N : Nat) (x1 x2 x3 x4 x5 x6 x7 x8 x9 x10 : Int) : Option (TAs [.one (.d (.err 129))]) :=
 ((f_100 N x1 1099511627776).bind fun r11 => (bif (!r11) then (some (some 1)) else ((f_100 N x2 1152921504606846976).bind fun r12 => (bif (!r12) then (some (some 1)) else ((f_101 N x3).bind fun r13 => (bif (decide (r13 ≥ 4611686018427387904)) then (some (some 1)) else ((f_100 N x4 2305843009213693952).bind fun r14 => (bif (!r14) then (some (some 1)) else ((f_100 N x9 2097152).bind fun r15 => (bif (!r15) then (some (some 1)) else (bif (decide (x10 < 1)) then (some (some 1)) else (bif (decide (x10 > 1125899906842624)) then (some (some 1)) else ((f_102 N x5 x6).bind fun r16 => (bif (!(Option.isNone r16)) then (some (some 1)) else ((f_102 N x7 x8).bind fun r17 => (bif (!(Option.isNone r17)) then (some (some 1)) else (some none)))))))))))))))))
def S_44 (N : Nat) : Sum := fnSum 1 0 1 [zg4] [.one (.d (.err 129))] (fun (x1, x2, x3, x4, x5, x6, x7, x8, x9, x10) => f_44 N x1 x2 x3 x4 x5 x6 x7 x8 x9 x10)
theorem s_44 (N : Nat) : SumOk Tryz.prog laidL 44 (S_44 N) := fn_x h0 (fk (s_100 N) (fk (s_101 N) (fk (s_102 N) fz))) Tryz.func44 (lookOk_nil)
def X_69 (N : Nat) : List (Nat × Sum) := [(136, (S_136 N))]
theorem x_69 (N : Nat) : FnsOk Tryz.prog laidL (X_69 N) := fk (s_136 N) fz
def sh_69_0 : List ShA := [.one (.d (.int .i64)), .one (.d (.sl [.int .i64])), .one (.d (.int .i64)), .one (.d (.int .i64))]
abbrev T_69_0 := TAs [.one (.d (.int .i64))]
def o_69_0 : OutK 0 T_69_0 := (outOne 0 (.exit 0) [3] [] [.one (.d (.int .i64))])
def b_69_0 (N : Nat) (ih : TAs sh_69_0 → Option T_69_0) : TAs sh_69_0 → Option T_69_0 := fun (y2, y3, y4, y5) =>
 (bif (decide (y5 < y4)) then (bif (decide (0 ≤ y5 ∧ y5 < (List.length y3 : Int))) then ((f_136 N y2 (List.getD y3 (Int.toNat y5) 0)).bind fun r6 => (ih (r6, y3, y4, (IntKind.i64.wrap (y5 + 1))))) else none) else (some (y2)))
def l_69_0 (N : Nat) : TAs sh_69_0 → Option T_69_0 := iter (b_69_0 N) N
def L_69_0 (N : Nat) : LSum := loopSum [3, 6, 7, 8] [] sh_69_0 o_69_0 (l_69_0 N)
theorem L_ok_69_0 (N : Nat) : SegOk Tryz.prog laidL 0 Tryz.f69.ntmps (loopAt 0 0 (bodyOf Tryz.f69)) (L_69_0 N) :=
 lp_x h0 (x_69 N) (lookOk_nil)
def f_69 (N : Nat) (x1 : List Int) : Option (TAs [.one (.d (.int .i64))]) :=
 ((l_69_0 N (0, x1, (List.length x1 : Int), 0)).bind fun q7 => (some q7))
def S_69 (N : Nat) : Sum := fnSum 1 0 1 [.one (.d (.sl [.int .i64]))] [.one (.d (.int .i64))] (fun x1 => f_69 N x1)
theorem s_69 (N : Nat) : SumOk Tryz.prog laidL 69 (S_69 N) := fn_x h0 (x_69 N) Tryz.func69 ((lookOk_cons (L_ok_69_0 N) lookOk_nil))
def f_103 (N : Nat) (x1 x2 x3 x4 x5 x6 x7 x8 x9 x10 x11 : Int) : Option (TAs [.one (.d (.int .i64)), .one (.d (.err 129))]) :=
 ((f_44 N x1 x2 x3 x4 x5 x6 x7 x8 x9 x10).bind fun r12 => (bif (!(Option.isNone r12)) then (some (0, r12)) else (bif (decide (x11 < x2)) then (some (0, (some 10))) else ((f_114 N x11 x2).bind fun r13 => (bif (!(Option.isNone r13.2)) then (some (0, (some 14))) else (bif (decide (r13.1 > x10)) then (some (0, (some 14))) else (some (r13.1, none))))))))
def S_103 (N : Nat) : Sum := fnSum 2 0 2 [zg4, .one (.d (.int .i64))] [.one (.d (.int .i64)), .one (.d (.err 129))] (fun ((x1, x2, x3, x4, x5, x6, x7, x8, x9, x10), x11) => f_103 N x1 x2 x3 x4 x5 x6 x7 x8 x9 x10 x11)
theorem s_103 (N : Nat) : SumOk Tryz.prog laidL 103 (S_103 N) := fn_x h0 (fk (s_44 N) (fk (s_114 N) fz)) Tryz.func103 (lookOk_nil)
def f_105 (N : Nat) (_x1 _x2 _x3 x4 _x5 _x6 x7 x8 x9 _x10 x11 : Int) : Option (TAs [.one (.d (.int .i64)), .one (.d (.err 129))]) :=
 ((f_50 N x7 x8 x11).bind fun r12 => (bif (!(Option.isNone r12.2)) then (some (0, r12.2)) else ((f_136 N r12.1 1).bind fun r13 => ((f_165 N x4 x9 r13).bind fun r14 => (bif (!(Option.isNone r14.2)) then (some (0, r14.2)) else ((f_166 N x7 x8 x11).bind fun r15 => (bif (!(Option.isNone r15.2)) then (some (0, r15.2)) else ((f_136 N r15.1 2).bind fun r16 => ((f_136 N r14.1 r16).bind fun r17 => (some (r17, none)))))))))))
def S_105 (N : Nat) : Sum := fnSum 2 0 2 [zg4, .one (.d (.int .i64))] [.one (.d (.int .i64)), .one (.d (.err 129))] (fun ((x1, x2, x3, x4, x5, x6, x7, x8, x9, x10), x11) => f_105 N x1 x2 x3 x4 x5 x6 x7 x8 x9 x10 x11)
theorem s_105 (N : Nat) : SumOk Tryz.prog laidL 105 (S_105 N) := fn_x h0 (fk (s_50 N) (fk (s_136 N) (fk (s_165 N) (fk (s_166 N) fz)))) Tryz.func105 (lookOk_nil)
def f_18 (N : Nat) (x1 x2 x3 x4 x5 x6 x7 : Int) : Option (TAs [.one (.d (.int .i64))]) :=
 ((f_69 N ([x1, x2, x3, x4, x5, x6, x7] : List Int)).bind fun r8 => (some r8))
def S_18 (N : Nat) : Sum := fnSum 1 0 1 [zg5] [.one (.d (.int .i64))] (fun (x1, x2, x3, x4, x5, x6, x7) => f_18 N x1 x2 x3 x4 x5 x6 x7)
theorem s_18 (N : Nat) : SumOk Tryz.prog laidL 18 (S_18 N) := fn_x h0 (fk (s_69 N) fz) Tryz.func18 (lookOk_nil)
def f_45 (N : Nat) (x1 x2 x3 x4 x5 x6 x7 x8 x9 x10 x11 : Int) : Option (TAs [.one (.d (.int .i64)), .one (.d (.int .i64)), .one (.d (.err 129))]) :=
 ((f_103 N x1 x2 x3 x4 x5 x6 x7 x8 x9 x10 x11).bind fun r12 => (bif (!(Option.isNone r12.2)) then (some (0, 0, r12.2)) else ((f_104 N x1 x2 x3 x4 x5 x6 x7 x8 x9 x10 r12.1).bind fun r13 => (bif (!(Option.isNone r13.2)) then (some (0, 0, r13.2)) else ((f_105 N x1 x2 x3 x4 x5 x6 x7 x8 x9 x10 r12.1).bind fun r14 => (bif (!(Option.isNone r14.2)) then (some (0, 0, r14.2)) else (some (r13.1, r14.1, none))))))))
def S_45 (N : Nat) : Sum := fnSum 2 0 3 [zg4, .one (.d (.int .i64))] [.one (.d (.int .i64)), .one (.d (.int .i64)), .one (.d (.err 129))] (fun ((x1, x2, x3, x4, x5, x6, x7, x8, x9, x10), x11) => f_45 N x1 x2 x3 x4 x5 x6 x7 x8 x9 x10 x11)
theorem s_45 (N : Nat) : SumOk Tryz.prog laidL 45 (S_45 N) := fn_x h0 (fk (s_103 N) (fk (s_104 N) (fk (s_105 N) fz))) Tryz.func45 (lookOk_nil)
def f_12 (N : Nat) (x1 x2 x3 x4 x5 x6 x7 x8 x9 x10 x11 x12 x13 x14 x15 x16 x17 : Int) (x18 : Bool) (x19 : ByteArray) (x20 : Int) (x21 : List (Int × Int × ByteArray)) (x22 : Int) : Option (TAs [zg5, .one (.d (.err 129))]) :=
 ((f_49 N x12 x13 x14 x15 x16 x17 x18 x19 x20 x21).bind fun r23 => (bif (!(Option.isNone r23)) then (some ((0, 0, 0, 0, 0, 0, 0), (some 1))) else (bif (decide (x22 < 0)) then (some ((0, 0, 0, 0, 0, 0, 0), (some 1))) else ((f_45 N x1 x2 x3 x4 x5 x6 x7 x8 x9 x10 x11).bind fun r24 => (bif (!(Option.isNone r24.2.2)) then (some ((0, 0, 0, 0, 0, 0, 0), r24.2.2)) else ((f_50 N x7 x8 (IntKind.i64.wrap (x11 - x2))).bind fun r25 => (bif (!(Option.isNone r25.2)) then (some ((0, 0, 0, 0, 0, 0, 0), r25.2)) else ((f_52 N (-1) r25.1).bind fun r26 => ((mdF r26 x9 1073741824).bind fun r27 => (bif (!(Option.isNone r27.2)) then (some ((0, 0, 0, 0, 0, 0, 0), r27.2)) else ((f_52 N 0 r27.1).bind fun r28 => (bif (decide (x8 < 0)) then none else (bif (x12 == 0) then (some ((x4, r28, (IntKind.i64.wrap (((IntKind.i64.wrap (x11 - x2)) / 2 ^ (min (Int.toNat x8) IntKind.i64.bits)) + 4)), x16, (IntKind.i64.wrap (x15 - 1)), 1000000000, x22), none)) else (some ((x4, r28, (IntKind.i64.wrap (((IntKind.i64.wrap (x11 - x2)) / 2 ^ (min (Int.toNat x8) IntKind.i64.bits)) + 4)), x16, (IntKind.i64.wrap (x15 - 1)), 0, x22), none)))))))))))))))
def S_12 (N : Nat) : Sum := fnSum 4 0 2 [zg4, .one (.d (.int .i64)), zg3, .one (.d (.int .i64))] [zg5, .one (.d (.err 129))] (fun ((x1, x2, x3, x4, x5, x6, x7, x8, x9, x10), x11, (x12, x13, x14, x15, x16, x17, x18, x19, x20, x21), x22) => f_12 N x1 x2 x3 x4 x5 x6 x7 x8 x9 x10 x11 x12 x13 x14 x15 x16 x17 x18 x19 x20 x21 x22)
theorem s_12 (N : Nat) : SumOk Tryz.prog laidL 12 (S_12 N) := fn_x h0 (fk (s_49 N) (fk (s_45 N) (fk (s_50 N) (fk (s_52 N) (fk mdS_ok fz))))) Tryz.func12 (lookOk_nil)
def f_65 (N : Nat) (x1 x2 x3 x4 x5 x6 x7 x8 x9 x10 x11 x12 x13 x14 x15 x16 x17 : Int) (x18 : Bool) (x19 : ByteArray) (x20 : Int) (x21 : List (Int × Int × ByteArray)) (x22 : Int) : Option (TAs [.one (.d (.bool)), zg4, zg3, .agg [.d (.int .i64)]]) :=
 ((f_12 N x2 x3 x4 x5 x6 x7 x8 x9 x10 x11 (IntKind.i64.wrap (x3 + x1)) x12 x13 x14 x15 x16 x17 x18 x19 x20 x21 0).bind fun r23 => (bif (!(Option.isNone r23.2)) then (some (true, (x2, x3, x4, x5, x6, x7, x8, x9, x10, x11), (x12, x13, x14, x15, x16, x17, x18, x19, x20, x21), x22)) else ((f_18 N r23.1.1 r23.1.2.1 r23.1.2.2.1 r23.1.2.2.2.1 r23.1.2.2.2.2.1 r23.1.2.2.2.2.2.1 r23.1.2.2.2.2.2.2).bind fun r24 => (some ((decide (r24 > x22)), (x2, x3, x4, x5, x6, x7, x8, x9, x10, x11), (x12, x13, x14, x15, x16, x17, x18, x19, x20, x21), x22)))))
def S_65 (N : Nat) : Sum := fnSum 4 3 1 [.one (.d (.int .i64)), .one (.ptr 0 0), .one (.ptr 2 0), .one (.ptr 4 0), zg4, zg3, .agg [.d (.int .i64)]] [.one (.d (.bool)), zg4, zg3, .agg [.d (.int .i64)]] (fun (x1, _, _, _, (x2, x3, x4, x5, x6, x7, x8, x9, x10, x11), (x12, x13, x14, x15, x16, x17, x18, x19, x20, x21), x22) => f_65 N x1 x2 x3 x4 x5 x6 x7 x8 x9 x10 x11 x12 x13 x14 x15 x16 x17 x18 x19 x20 x21 x22)
theorem s_65 (N : Nat) : SumOk Tryz.prog laidL 65 (S_65 N) := fn_x h0 (fk (s_12 N) (fk (s_18 N) fz)) Tryz.func65 (lookOk_nil)
def X_64c65k0 (N : Nat) : List (Nat × Sum) := [(65, (S_65 N))]
theorem x_64c65k0 (N : Nat) : FnsOk Tryz.prog laidL (X_64c65k0 N) := fk (s_65 N) fz
def sh_64c65k0_0 : List ShA := [.clo 65 [.one (.ptr 0 0), .one (.ptr 2 0), .one (.ptr 4 0)], .one (.d (.int .i64)), .one (.d (.int .i64)), zg4, zg3, .agg [.d (.int .i64)]]
abbrev T_64c65k0_0 := TAs [.one (.d (.int .i64)), zg4, zg3, .agg [.d (.int .i64)]]
def o_64c65k0_0 : OutK 3 T_64c65k0_0 := (outOne 3 (.exit 0) [5] [0, 2, 4] [.one (.d (.int .i64)), zg4, zg3, .agg [.d (.int .i64)]])
def b_64c65k0_0 (N : Nat) (ih : TAs sh_64c65k0_0 → Option T_64c65k0_0) : TAs sh_64c65k0_0 → Option T_64c65k0_0 := fun ((_, _, _), y23, y24, (y25, y26, y27, y28, y29, y30, y31, y32, y33, y34), (y35, y36, y37, y38, y39, y40, y41, y42, y43, y44), y45) =>
 (bif (decide (y23 < y24)) then ((f_65 N (IntKind.i64.wrap ((IntKind.u64.wrap (IntKind.i64.wrap (y23 + y24))) / 2 ^ (min (Int.toNat 1) IntKind.u64.bits))) y25 y26 y27 y28 y29 y30 y31 y32 y33 y34 y35 y36 y37 y38 y39 y40 y41 y42 y43 y44 y45).bind fun r46 => (bif (!r46.1) then (ih (((), (), ()), (IntKind.i64.wrap ((IntKind.i64.wrap ((IntKind.u64.wrap (IntKind.i64.wrap (y23 + y24))) / 2 ^ (min (Int.toNat 1) IntKind.u64.bits))) + 1)), y24, (r46.2.1.1, r46.2.1.2.1, r46.2.1.2.2.1, r46.2.1.2.2.2.1, r46.2.1.2.2.2.2.1, r46.2.1.2.2.2.2.2.1, r46.2.1.2.2.2.2.2.2.1, r46.2.1.2.2.2.2.2.2.2.1, r46.2.1.2.2.2.2.2.2.2.2.1, r46.2.1.2.2.2.2.2.2.2.2.2), (r46.2.2.1.1, r46.2.2.1.2.1, r46.2.2.1.2.2.1, r46.2.2.1.2.2.2.1, r46.2.2.1.2.2.2.2.1, r46.2.2.1.2.2.2.2.2.1, r46.2.2.1.2.2.2.2.2.2.1, r46.2.2.1.2.2.2.2.2.2.2.1, r46.2.2.1.2.2.2.2.2.2.2.2.1, r46.2.2.1.2.2.2.2.2.2.2.2.2), r46.2.2.2)) else (ih (((), (), ()), y23, (IntKind.i64.wrap ((IntKind.u64.wrap (IntKind.i64.wrap (y23 + y24))) / 2 ^ (min (Int.toNat 1) IntKind.u64.bits))), (r46.2.1.1, r46.2.1.2.1, r46.2.1.2.2.1, r46.2.1.2.2.2.1, r46.2.1.2.2.2.2.1, r46.2.1.2.2.2.2.2.1, r46.2.1.2.2.2.2.2.2.1, r46.2.1.2.2.2.2.2.2.2.1, r46.2.1.2.2.2.2.2.2.2.2.1, r46.2.1.2.2.2.2.2.2.2.2.2), (r46.2.2.1.1, r46.2.2.1.2.1, r46.2.2.1.2.2.1, r46.2.2.1.2.2.2.1, r46.2.2.1.2.2.2.2.1, r46.2.2.1.2.2.2.2.2.1, r46.2.2.1.2.2.2.2.2.2.1, r46.2.2.1.2.2.2.2.2.2.2.1, r46.2.2.1.2.2.2.2.2.2.2.2.1, r46.2.2.1.2.2.2.2.2.2.2.2.2), r46.2.2.2)))) else (some ((y23, (y25, y26, y27, y28, y29, y30, y31, y32, y33, y34), (y35, y36, y37, y38, y39, y40, y41, y42, y43, y44), y45))))
def l_64c65k0_0 (N : Nat) : TAs sh_64c65k0_0 → Option T_64c65k0_0 := iter (b_64c65k0_0 N) N
def L_64c65k0_0 (N : Nat) : LSum := loopSum [1, 5, 6] [0, 2, 4] sh_64c65k0_0 o_64c65k0_0 (l_64c65k0_0 N)
theorem L_ok_64c65k0_0 (N : Nat) : SegOk Tryz.prog laidL 3 Tryz.f64.ntmps (loopAt 0 0 (bodyOf Tryz.f64)) (L_64c65k0_0 N) :=
 lp_x h0 (x_64c65k0 N) (lookOk_nil)
def f_64c65k0 (N : Nat) (x1 x2 x3 x4 x5 x6 x7 x8 x9 x10 x11 x12 x13 x14 x15 x16 x17 : Int) (x18 : Bool) (x19 : ByteArray) (x20 : Int) (x21 : List (Int × Int × ByteArray)) (x22 : Int) : Option (TAs [.one (.d (.int .i64)), zg4, zg3, .agg [.d (.int .i64)]]) :=
 ((l_64c65k0_0 N (((), (), ()), 0, x1, (x2, x3, x4, x5, x6, x7, x8, x9, x10, x11), (x12, x13, x14, x15, x16, x17, x18, x19, x20, x21), x22)).bind fun q47 => (some (q47.1, (q47.2.1.1, q47.2.1.2.1, q47.2.1.2.2.1, q47.2.1.2.2.2.1, q47.2.1.2.2.2.2.1, q47.2.1.2.2.2.2.2.1, q47.2.1.2.2.2.2.2.2.1, q47.2.1.2.2.2.2.2.2.2.1, q47.2.1.2.2.2.2.2.2.2.2.1, q47.2.1.2.2.2.2.2.2.2.2.2), (q47.2.2.1.1, q47.2.2.1.2.1, q47.2.2.1.2.2.1, q47.2.2.1.2.2.2.1, q47.2.2.1.2.2.2.2.1, q47.2.2.1.2.2.2.2.2.1, q47.2.2.1.2.2.2.2.2.2.1, q47.2.2.1.2.2.2.2.2.2.2.1, q47.2.2.1.2.2.2.2.2.2.2.2.1, q47.2.2.1.2.2.2.2.2.2.2.2.2), q47.2.2.2)))
def S_64c65k0 (N : Nat) : Sum := fnSum 2 3 1 [.one (.d (.int .i64)), .clo 65 [.one (.ptr 0 0), .one (.ptr 2 0), .one (.ptr 4 0)], zg4, zg3, .agg [.d (.int .i64)]] [.one (.d (.int .i64)), zg4, zg3, .agg [.d (.int .i64)]] (fun (x1, (_, _, _), (x2, x3, x4, x5, x6, x7, x8, x9, x10, x11), (x12, x13, x14, x15, x16, x17, x18, x19, x20, x21), x22) => f_64c65k0 N x1 x2 x3 x4 x5 x6 x7 x8 x9 x10 x11 x12 x13 x14 x15 x16 x17 x18 x19 x20 x21 x22)
theorem s_64c65k0 (N : Nat) : SumOk Tryz.prog laidL 64 (S_64c65k0 N) := fn_x h0 (x_64c65k0 N) Tryz.func64 ((lookOk_cons (L_ok_64c65k0_0 N) lookOk_nil))
def f_14 (N : Nat) (x1 x2 x3 x4 x5 x6 x7 x8 x9 x10 x11 x12 x13 x14 x15 x16 : Int) (x17 : Bool) (x18 : ByteArray) (x19 : Int) (x20 : List (Int × Int × ByteArray)) (x21 : Int) : Option (TAs [.one (.d (.int .i64)), .one (.d (.err 129))]) :=
 ((f_44 N x1 x2 x3 x4 x5 x6 x7 x8 x9 x10).bind fun r22 => (bif (!(Option.isNone r22)) then (some (0, (some 1))) else ((f_49 N x11 x12 x13 x14 x15 x16 x17 x18 x19 x20).bind fun r23 => (bif (!(Option.isNone r23)) then (some (0, (some 1))) else ((f_64c65k0 N (IntKind.i64.wrap (x10 + 1)) x1 x2 x3 x4 x5 x6 x7 x8 x9 x10 x11 x12 x13 x14 x15 x16 x17 x18 x19 x20 x21).bind fun r24 => (bif (r24.1 == 0) then (some (0, (some 13))) else (some ((IntKind.i64.wrap (r24.1 - 1)), none))))))))
def S_14 (N : Nat) : Sum := fnSum 3 0 2 [zg4, zg3, .one (.d (.int .i64))] [.one (.d (.int .i64)), .one (.d (.err 129))] (fun ((x1, x2, x3, x4, x5, x6, x7, x8, x9, x10), (x11, x12, x13, x14, x15, x16, x17, x18, x19, x20), x21) => f_14 N x1 x2 x3 x4 x5 x6 x7 x8 x9 x10 x11 x12 x13 x14 x15 x16 x17 x18 x19 x20 x21)
theorem s_14 (N : Nat) : SumOk Tryz.prog laidL 14 (S_14 N) := fn_x h0 (fk (s_44 N) (fk (s_49 N) (fk (s_64c65k0 N) fz))) Tryz.func14 (lookOk_nil)
def f_19 (N : Nat) (x1 x2 x3 x4 x5 x6 x7 x8 x9 x10 x11 x12 x13 x14 x15 x16 x17 : Int) (x18 : Bool) (x19 : ByteArray) (x20 : Int) (x21 : List (Int × Int × ByteArray)) (_x22 x23 x24 x25 : Int) : Option (TAs [.one (.d (.bool))]) :=
 ((f_12 N x1 x2 x3 x4 x5 x6 x7 x8 x9 x10 x11 x12 x13 x14 x15 x16 x17 x18 x19 x20 x21 x24).bind fun r26 => (bif (Option.isNone r26.2) then ((f_18 N r26.1.1 r26.1.2.1 r26.1.2.2.1 r26.1.2.2.2.1 r26.1.2.2.2.2.1 r26.1.2.2.2.2.2.1 r26.1.2.2.2.2.2.2).bind fun r27 => (bif (r27 == x23) then ((f_69 N ([r26.1.1, r26.1.2.1, r26.1.2.2.1] : List Int)).bind fun r28 => (some (r28 == x25))) else (some false))) else (some false)))
def S_19 (N : Nat) : Sum := fnSum 4 0 1 [zg4, .one (.d (.int .i64)), zg3, zg9] [.one (.d (.bool))] (fun ((x1, x2, x3, x4, x5, x6, x7, x8, x9, x10), x11, (x12, x13, x14, x15, x16, x17, x18, x19, x20, x21), (x22, x23, x24, x25)) => f_19 N x1 x2 x3 x4 x5 x6 x7 x8 x9 x10 x11 x12 x13 x14 x15 x16 x17 x18 x19 x20 x21 x22 x23 x24 x25)
theorem s_19 (N : Nat) : SumOk Tryz.prog laidL 19 (S_19 N) := fn_x h0 (fk (s_12 N) (fk (s_18 N) (fk (s_69 N) fz))) Tryz.func19 (lookOk_nil)
def f_9 (N : Nat) : Option (TAs [.one (.d (.bool))]) :=
 ((f_46 N).bind fun r1 => ((f_47 N).bind fun r2 => ((f_12 N r1.1 r1.2.1 r1.2.2.1 r1.2.2.2.1 r1.2.2.2.2.1 r1.2.2.2.2.2.1 r1.2.2.2.2.2.2.1 r1.2.2.2.2.2.2.2.1 r1.2.2.2.2.2.2.2.2.1 r1.2.2.2.2.2.2.2.2.2 0 r2.1 r2.2.1 r2.2.2.1 r2.2.2.2.1 r2.2.2.2.2.1 r2.2.2.2.2.2.1 r2.2.2.2.2.2.2.1 r2.2.2.2.2.2.2.2.1 r2.2.2.2.2.2.2.2.2.1 r2.2.2.2.2.2.2.2.2.2 0).bind fun r3 => ((f_46 N).bind fun r4 => ((f_47 N).bind fun r5 => ((f_14 N r4.1 r4.2.1 r4.2.2.1 r4.2.2.2.1 r4.2.2.2.2.1 r4.2.2.2.2.2.1 r4.2.2.2.2.2.2.1 r4.2.2.2.2.2.2.2.1 r4.2.2.2.2.2.2.2.2.1 r4.2.2.2.2.2.2.2.2.2 r5.1 r5.2.1 r5.2.2.1 r5.2.2.2.1 r5.2.2.2.2.1 r5.2.2.2.2.2.1 r5.2.2.2.2.2.2.1 r5.2.2.2.2.2.2.2.1 r5.2.2.2.2.2.2.2.2.1 r5.2.2.2.2.2.2.2.2.2 1000000020).bind fun r6 => ((f_46 N).bind fun r7 => ((f_47 N).bind fun r8 => ((f_14 N r7.1 r7.2.1 r7.2.2.1 r7.2.2.2.1 r7.2.2.2.2.1 r7.2.2.2.2.2.1 r7.2.2.2.2.2.2.1 r7.2.2.2.2.2.2.2.1 r7.2.2.2.2.2.2.2.2.1 r7.2.2.2.2.2.2.2.2.2 r8.1 r8.2.1 r8.2.2.1 r8.2.2.2.1 r8.2.2.2.2.1 r8.2.2.2.2.2.1 r8.2.2.2.2.2.2.1 r8.2.2.2.2.2.2.2.1 r8.2.2.2.2.2.2.2.2.1 r8.2.2.2.2.2.2.2.2.2 3).bind fun r9 => (bif (Option.isNone r3.2) then (bif (Option.isNone r6.2) then (bif ((r3.1.1 == 5) && ((r3.1.2.1 == 1) && ((r3.1.2.2.1 == 4) && ((r3.1.2.2.2.1 == 0) && ((r3.1.2.2.2.2.1 == 0) && ((r3.1.2.2.2.2.2.1 == 1000000000) && (r3.1.2.2.2.2.2.2 == 0))))))) then ((f_18 N r3.1.1 r3.1.2.1 r3.1.2.2.1 r3.1.2.2.2.1 r3.1.2.2.2.2.1 r3.1.2.2.2.2.2.1 r3.1.2.2.2.2.2.2).bind fun r10 => (bif (r10 == 1000000010) then (bif (decide (r6.1 > 1000)) then (bif (decide (r6.1 < 20000)) then ((f_17 N r9.2).bind fun r11 => (bif (r11 == 13) then ((f_46 N).bind fun r12 => ((f_47 N).bind fun r13 => ((f_19 N r12.1 r12.2.1 r12.2.2.1 r12.2.2.2.1 r12.2.2.2.2.1 r12.2.2.2.2.2.1 r12.2.2.2.2.2.2.1 r12.2.2.2.2.2.2.2.1 r12.2.2.2.2.2.2.2.2.1 r12.2.2.2.2.2.2.2.2.2 0 r13.1 r13.2.1 r13.2.2.1 r13.2.2.2.1 r13.2.2.2.2.1 r13.2.2.2.2.2.1 r13.2.2.2.2.2.2.1 r13.2.2.2.2.2.2.2.1 r13.2.2.2.2.2.2.2.2.1 r13.2.2.2.2.2.2.2.2.2 0 1000000010 0 10).bind fun r14 => (some r14)))) else (some false))) else (some false)) else (some false)) else (some false))) else (some false)) else (some false)) else (some false)))))))))))
def S_9 (N : Nat) : Sum := fnSum 0 0 1 [] [.one (.d (.bool))] (fun _ => f_9 N)
theorem s_9 (N : Nat) : SumOk Tryz.prog laidL 9 (S_9 N) := fn_x h0 (fk (s_46 N) (fk (s_47 N) (fk (s_12 N) (fk (s_14 N) (fk (s_18 N) (fk (s_17 N) (fk (s_19 N) fz))))))) Tryz.func9 (lookOk_nil)
def f_7 (N : Nat) (x1 x2 x3 x4 x5 x6 x7 x8 x9 x10 : Int) (x11 : ByteArray) (x12 : List Int) (x13 x14 x15 x16 x17 x18 : Int) (x19 : Bool) (x20 : ByteArray) (x21 : Int) (x22 : List (Int × Int × ByteArray)) (x23 : Bool) (x24 x25 : Int) (x26 : Bool) (x27 x28 : Int) (x29 : List Int) : Option (TAs [.one (.d (.bool))]) :=
 ((f_10 N x1 x2 x3 x4 x5 x6 x7 x8 x9 x10).bind fun r30 => ((f_42 N x11 x12 x13 x14 x15 x16 x17 x18 x19 x20 x21 x22 x23 x24 x25 x26 x27 x28).bind fun r31 => ((f_43 N x11 x12 x13 x14 x15 x16 x17 x18 x19 x20 x21 x22 x23 x24 x25 x26 x27 x28).bind fun r32 => (bif r32 then ((f_9 N).bind fun r33 => (some r33)) else ((f_44 N r30.1 r30.2.1 r30.2.2.1 r30.2.2.2.1 r30.2.2.2.2.1 r30.2.2.2.2.2.1 r30.2.2.2.2.2.2.1 r30.2.2.2.2.2.2.2.1 r30.2.2.2.2.2.2.2.2.1 r30.2.2.2.2.2.2.2.2.2).bind fun r34 => (bif (!(Option.isNone r34)) then ((f_9 N).bind fun r35 => (some r35)) else ((f_22 N r31.1 r31.2.1 r31.2.2.1 r31.2.2.2.1 r31.2.2.2.2.1 r31.2.2.2.2.2.1 r31.2.2.2.2.2.2.1 r31.2.2.2.2.2.2.2.1 r31.2.2.2.2.2.2.2.2.1 r31.2.2.2.2.2.2.2.2.2.1 r31.2.2.2.2.2.2.2.2.2.2.1 r31.2.2.2.2.2.2.2.2.2.2.2.1 r31.2.2.2.2.2.2.2.2.2.2.2.2.1 r31.2.2.2.2.2.2.2.2.2.2.2.2.2.1 r31.2.2.2.2.2.2.2.2.2.2.2.2.2.2.1 r31.2.2.2.2.2.2.2.2.2.2.2.2.2.2.2.1 r31.2.2.2.2.2.2.2.2.2.2.2.2.2.2.2.2.1 r31.2.2.2.2.2.2.2.2.2.2.2.2.2.2.2.2.2).bind fun r36 => (bif (!(Option.isNone r36)) then ((f_9 N).bind fun r37 => (some r37)) else ((f_45 N r30.1 r30.2.1 r30.2.2.1 r30.2.2.2.1 r30.2.2.2.2.1 r30.2.2.2.2.2.1 r30.2.2.2.2.2.2.1 r30.2.2.2.2.2.2.2.1 r30.2.2.2.2.2.2.2.2.1 r30.2.2.2.2.2.2.2.2.2 (List.getD x29 (Int.toNat 0) 0)).bind fun r38 => (bif (Option.isNone r38.2.2) then ((f_24 N r31.1 r31.2.1 r31.2.2.1 r31.2.2.2.1 r31.2.2.2.2.1 r31.2.2.2.2.2.1 r31.2.2.2.2.2.2.1 r31.2.2.2.2.2.2.2.1 r31.2.2.2.2.2.2.2.2.1 r31.2.2.2.2.2.2.2.2.2.1 r31.2.2.2.2.2.2.2.2.2.2.1 r31.2.2.2.2.2.2.2.2.2.2.2.1 r31.2.2.2.2.2.2.2.2.2.2.2.2.1 r31.2.2.2.2.2.2.2.2.2.2.2.2.2.1 r31.2.2.2.2.2.2.2.2.2.2.2.2.2.2.1 r31.2.2.2.2.2.2.2.2.2.2.2.2.2.2.2.1 r31.2.2.2.2.2.2.2.2.2.2.2.2.2.2.2.2.1 r31.2.2.2.2.2.2.2.2.2.2.2.2.2.2.2.2.2 0 50000 ([] : List Int) r38.1 r38.2.1).bind fun r39 => (bif (Option.isNone r39.2.2) then ((f_19 N r30.1 r30.2.1 r30.2.2.1 r30.2.2.2.1 r30.2.2.2.2.1 r30.2.2.2.2.2.1 r30.2.2.2.2.2.2.1 r30.2.2.2.2.2.2.2.1 r30.2.2.2.2.2.2.2.2.1 r30.2.2.2.2.2.2.2.2.2 (List.getD x29 (Int.toNat 0) 0) r31.2.2.1 r31.2.2.2.1 r31.2.2.2.2.1 r31.2.2.2.2.2.1 r31.2.2.2.2.2.2.1 r31.2.2.2.2.2.2.2.1 r31.2.2.2.2.2.2.2.2.1 r31.2.2.2.2.2.2.2.2.2.1 r31.2.2.2.2.2.2.2.2.2.2.1 r31.2.2.2.2.2.2.2.2.2.2.2.1 r39.1.1 r39.1.2.1 r39.1.2.2.1 r39.1.2.2.2).bind fun r40 => (bif (!r40) then (some false) else (bif (r39.1.2.2.2 != r38.2.1) then (some false) else ((f_14 N r30.1 r30.2.1 r30.2.2.1 r30.2.2.2.1 r30.2.2.2.2.1 r30.2.2.2.2.2.1 r30.2.2.2.2.2.2.1 r30.2.2.2.2.2.2.2.1 r30.2.2.2.2.2.2.2.2.1 r30.2.2.2.2.2.2.2.2.2 r31.2.2.1 r31.2.2.2.1 r31.2.2.2.2.1 r31.2.2.2.2.2.1 r31.2.2.2.2.2.2.1 r31.2.2.2.2.2.2.2.1 r31.2.2.2.2.2.2.2.2.1 r31.2.2.2.2.2.2.2.2.2.1 r31.2.2.2.2.2.2.2.2.2.2.1 r31.2.2.2.2.2.2.2.2.2.2.2.1 (List.getD x29 (Int.toNat 1) 0)).bind fun r41 => (bif (!(Option.isNone r41.2)) then ((f_17 N r41.2).bind fun r42 => (bif (r42 == 13) then ((f_9 N).bind fun r43 => (some r43)) else (some false))) else ((f_12 N r30.1 r30.2.1 r30.2.2.1 r30.2.2.2.1 r30.2.2.2.2.1 r30.2.2.2.2.2.1 r30.2.2.2.2.2.2.1 r30.2.2.2.2.2.2.2.1 r30.2.2.2.2.2.2.2.2.1 r30.2.2.2.2.2.2.2.2.2 (IntKind.i64.wrap (r30.2.1 + r41.1)) r31.2.2.1 r31.2.2.2.1 r31.2.2.2.2.1 r31.2.2.2.2.2.1 r31.2.2.2.2.2.2.1 r31.2.2.2.2.2.2.2.1 r31.2.2.2.2.2.2.2.2.1 r31.2.2.2.2.2.2.2.2.2.1 r31.2.2.2.2.2.2.2.2.2.2.1 r31.2.2.2.2.2.2.2.2.2.2.2.1 0).bind fun r44 => (bif (!(Option.isNone r44.2)) then (some false) else ((f_18 N r44.1.1 r44.1.2.1 r44.1.2.2.1 r44.1.2.2.2.1 r44.1.2.2.2.2.1 r44.1.2.2.2.2.2.1 r44.1.2.2.2.2.2.2).bind fun r45 => (bif (decide (r45 > (List.getD x29 (Int.toNat 1) 0))) then (some false) else (bif (decide (r41.1 < 0)) then (some false) else (bif (decide (r41.1 > r30.2.2.2.2.2.2.2.2.2)) then (some false) else ((f_12 N r30.1 r30.2.1 r30.2.2.1 r30.2.2.2.1 r30.2.2.2.2.1 r30.2.2.2.2.2.1 r30.2.2.2.2.2.2.1 r30.2.2.2.2.2.2.2.1 r30.2.2.2.2.2.2.2.2.1 r30.2.2.2.2.2.2.2.2.2 (IntKind.i64.wrap ((IntKind.i64.wrap (r30.2.1 + r41.1)) + 1)) r31.2.2.1 r31.2.2.2.1 r31.2.2.2.2.1 r31.2.2.2.2.2.1 r31.2.2.2.2.2.2.1 r31.2.2.2.2.2.2.2.1 r31.2.2.2.2.2.2.2.2.1 r31.2.2.2.2.2.2.2.2.2.1 r31.2.2.2.2.2.2.2.2.2.2.1 r31.2.2.2.2.2.2.2.2.2.2.2.1 0).bind fun r46 => (bif (!(Option.isNone r46.2)) then ((f_9 N).bind fun r47 => (some r47)) else ((f_18 N r46.1.1 r46.1.2.1 r46.1.2.2.1 r46.1.2.2.2.1 r46.1.2.2.2.2.1 r46.1.2.2.2.2.2.1 r46.1.2.2.2.2.2.2).bind fun r48 => (bif (decide (r48 > (List.getD x29 (Int.toNat 1) 0))) then ((f_9 N).bind fun r49 => (some r49)) else (some false)))))))))))))))) else ((f_14 N r30.1 r30.2.1 r30.2.2.1 r30.2.2.2.1 r30.2.2.2.2.1 r30.2.2.2.2.2.1 r30.2.2.2.2.2.2.1 r30.2.2.2.2.2.2.2.1 r30.2.2.2.2.2.2.2.2.1 r30.2.2.2.2.2.2.2.2.2 r31.2.2.1 r31.2.2.2.1 r31.2.2.2.2.1 r31.2.2.2.2.2.1 r31.2.2.2.2.2.2.1 r31.2.2.2.2.2.2.2.1 r31.2.2.2.2.2.2.2.2.1 r31.2.2.2.2.2.2.2.2.2.1 r31.2.2.2.2.2.2.2.2.2.2.1 r31.2.2.2.2.2.2.2.2.2.2.2.1 (List.getD x29 (Int.toNat 1) 0)).bind fun r50 => (bif (!(Option.isNone r50.2)) then ((f_17 N r50.2).bind fun r51 => (bif (r51 == 13) then ((f_9 N).bind fun r52 => (some r52)) else (some false))) else ((f_12 N r30.1 r30.2.1 r30.2.2.1 r30.2.2.2.1 r30.2.2.2.2.1 r30.2.2.2.2.2.1 r30.2.2.2.2.2.2.1 r30.2.2.2.2.2.2.2.1 r30.2.2.2.2.2.2.2.2.1 r30.2.2.2.2.2.2.2.2.2 (IntKind.i64.wrap (r30.2.1 + r50.1)) r31.2.2.1 r31.2.2.2.1 r31.2.2.2.2.1 r31.2.2.2.2.2.1 r31.2.2.2.2.2.2.1 r31.2.2.2.2.2.2.2.1 r31.2.2.2.2.2.2.2.2.1 r31.2.2.2.2.2.2.2.2.2.1 r31.2.2.2.2.2.2.2.2.2.2.1 r31.2.2.2.2.2.2.2.2.2.2.2.1 0).bind fun r53 => (bif (!(Option.isNone r53.2)) then (some false) else ((f_18 N r53.1.1 r53.1.2.1 r53.1.2.2.1 r53.1.2.2.2.1 r53.1.2.2.2.2.1 r53.1.2.2.2.2.2.1 r53.1.2.2.2.2.2.2).bind fun r54 => (bif (decide (r54 > (List.getD x29 (Int.toNat 1) 0))) then (some false) else (bif (decide (r50.1 < 0)) then (some false) else (bif (decide (r50.1 > r30.2.2.2.2.2.2.2.2.2)) then (some false) else ((f_12 N r30.1 r30.2.1 r30.2.2.1 r30.2.2.2.1 r30.2.2.2.2.1 r30.2.2.2.2.2.1 r30.2.2.2.2.2.2.1 r30.2.2.2.2.2.2.2.1 r30.2.2.2.2.2.2.2.2.1 r30.2.2.2.2.2.2.2.2.2 (IntKind.i64.wrap ((IntKind.i64.wrap (r30.2.1 + r50.1)) + 1)) r31.2.2.1 r31.2.2.2.1 r31.2.2.2.2.1 r31.2.2.2.2.2.1 r31.2.2.2.2.2.2.1 r31.2.2.2.2.2.2.2.1 r31.2.2.2.2.2.2.2.2.1 r31.2.2.2.2.2.2.2.2.2.1 r31.2.2.2.2.2.2.2.2.2.2.1 r31.2.2.2.2.2.2.2.2.2.2.2.1 0).bind fun r55 => (bif (!(Option.isNone r55.2)) then ((f_9 N).bind fun r56 => (some r56)) else ((f_18 N r55.1.1 r55.1.2.1 r55.1.2.2.1 r55.1.2.2.2.1 r55.1.2.2.2.2.1 r55.1.2.2.2.2.2.1 r55.1.2.2.2.2.2.2).bind fun r57 => (bif (decide (r57 > (List.getD x29 (Int.toNat 1) 0))) then ((f_9 N).bind fun r58 => (some r58)) else (some false))))))))))))))) else ((f_14 N r30.1 r30.2.1 r30.2.2.1 r30.2.2.2.1 r30.2.2.2.2.1 r30.2.2.2.2.2.1 r30.2.2.2.2.2.2.1 r30.2.2.2.2.2.2.2.1 r30.2.2.2.2.2.2.2.2.1 r30.2.2.2.2.2.2.2.2.2 r31.2.2.1 r31.2.2.2.1 r31.2.2.2.2.1 r31.2.2.2.2.2.1 r31.2.2.2.2.2.2.1 r31.2.2.2.2.2.2.2.1 r31.2.2.2.2.2.2.2.2.1 r31.2.2.2.2.2.2.2.2.2.1 r31.2.2.2.2.2.2.2.2.2.2.1 r31.2.2.2.2.2.2.2.2.2.2.2.1 (List.getD x29 (Int.toNat 1) 0)).bind fun r59 => (bif (!(Option.isNone r59.2)) then ((f_17 N r59.2).bind fun r60 => (bif (r60 == 13) then ((f_9 N).bind fun r61 => (some r61)) else (some false))) else ((f_12 N r30.1 r30.2.1 r30.2.2.1 r30.2.2.2.1 r30.2.2.2.2.1 r30.2.2.2.2.2.1 r30.2.2.2.2.2.2.1 r30.2.2.2.2.2.2.2.1 r30.2.2.2.2.2.2.2.2.1 r30.2.2.2.2.2.2.2.2.2 (IntKind.i64.wrap (r30.2.1 + r59.1)) r31.2.2.1 r31.2.2.2.1 r31.2.2.2.2.1 r31.2.2.2.2.2.1 r31.2.2.2.2.2.2.1 r31.2.2.2.2.2.2.2.1 r31.2.2.2.2.2.2.2.2.1 r31.2.2.2.2.2.2.2.2.2.1 r31.2.2.2.2.2.2.2.2.2.2.1 r31.2.2.2.2.2.2.2.2.2.2.2.1 0).bind fun r62 => (bif (!(Option.isNone r62.2)) then (some false) else ((f_18 N r62.1.1 r62.1.2.1 r62.1.2.2.1 r62.1.2.2.2.1 r62.1.2.2.2.2.1 r62.1.2.2.2.2.2.1 r62.1.2.2.2.2.2.2).bind fun r63 => (bif (decide (r63 > (List.getD x29 (Int.toNat 1) 0))) then (some false) else (bif (decide (r59.1 < 0)) then (some false) else (bif (decide (r59.1 > r30.2.2.2.2.2.2.2.2.2)) then (some false) else ((f_12 N r30.1 r30.2.1 r30.2.2.1 r30.2.2.2.1 r30.2.2.2.2.1 r30.2.2.2.2.2.1 r30.2.2.2.2.2.2.1 r30.2.2.2.2.2.2.2.1 r30.2.2.2.2.2.2.2.2.1 r30.2.2.2.2.2.2.2.2.2 (IntKind.i64.wrap ((IntKind.i64.wrap (r30.2.1 + r59.1)) + 1)) r31.2.2.1 r31.2.2.2.1 r31.2.2.2.2.1 r31.2.2.2.2.2.1 r31.2.2.2.2.2.2.1 r31.2.2.2.2.2.2.2.1 r31.2.2.2.2.2.2.2.2.1 r31.2.2.2.2.2.2.2.2.2.1 r31.2.2.2.2.2.2.2.2.2.2.1 r31.2.2.2.2.2.2.2.2.2.2.2.1 0).bind fun r64 => (bif (!(Option.isNone r64.2)) then ((f_9 N).bind fun r65 => (some r65)) else ((f_18 N r64.1.1 r64.1.2.1 r64.1.2.2.1 r64.1.2.2.2.1 r64.1.2.2.2.2.1 r64.1.2.2.2.2.2.1 r64.1.2.2.2.2.2.2).bind fun r66 => (bif (decide (r66 > (List.getD x29 (Int.toNat 1) 0))) then ((f_9 N).bind fun r67 => (some r67)) else (some false)))))))))))))))))))))))
def S_7 (N : Nat) : Sum := fnSum 3 0 1 [zg4, zg1, .agg [.d (.arr .i64 2)]] [.one (.d (.bool))] (fun ((x1, x2, x3, x4, x5, x6, x7, x8, x9, x10), (x11, x12, x13, x14, x15, x16, x17, x18, x19, x20, x21, x22, x23, x24, x25, x26, x27, x28), x29) => f_7 N x1 x2 x3 x4 x5 x6 x7 x8 x9 x10 x11 x12 x13 x14 x15 x16 x17 x18 x19 x20 x21 x22 x23 x24 x25 x26 x27 x28 x29)
theorem s_7 (N : Nat) : SumOk Tryz.prog laidL 7 (S_7 N) := fn_x h0 (fk (s_10 N) (fk (s_42 N) (fk (s_43 N) (fk (s_9 N) (fk (s_44 N) (fk (s_22 N) (fk (s_45 N) (fk (s_24 N) (fk (s_19 N) (fk (s_14 N) (fk (s_17 N) (fk (s_12 N) (fk (s_18 N) fz))))))))))))) Tryz.func7 (lookOk_nil)
end
end Go.Proofs.YthpljlpokmoeeaaGreatDoor.Mir
namespace Go.Proofs.YthpljlpokmoeeaaGreatDoor.Mir
open Go Go.RowKit
set_option maxRecDepth 100000
def fineI (c : Int) : Bool := (decide (c ≥ 97) && decide (c ≤ 122)) || ((decide (c ≥ 65) && decide (c ≤ 90)) || ((decide (c ≥ 48) && decide (c ≤ 57)) || ((c == 47) || ((c == 95) || ((c == 43) || (c == 45))))))
def fineL : List UInt8 := [65, 66, 67, 68, 69, 70, 71, 72, 73, 74, 75, 76, 77, 78, 79, 80, 81, 82, 83, 84, 85, 86, 87, 88, 89, 90, 97, 98, 99, 100, 101, 102, 103, 104, 105, 106, 107, 108, 109, 110, 111, 112, 113, 114, 115, 116, 117, 118, 119, 120, 121, 122, 48, 49, 50, 51, 52, 53, 54, 55, 56, 57, 47, 95, 43, 45]
theorem fine_nat : ∀ n : Fin 256, fineL.contains (UInt8.ofNat n.val) = fineI (n.val : Int) := by decide +kernel
theorem fine_byte (b : UInt8) : fineL.contains b = fineI (b.toNat : Int) := by
 have := fine_nat ⟨b.toNat, b.toNat_lt⟩
 simpa using this
def allFine (l : List UInt8) : Bool := l.all fun b => fineI (b.toNat : Int)
def nameB (s : ByteArray) : Bool := decide (1 ≤ s.size) && (decide (s.size ≤ 12) && allFine s.data.toList)
theorem size_list (s : ByteArray) : s.size = s.data.toList.length := by rw [Array.length_toList]; rfl
theorem beq_nil (l : List UInt8) : (l == []) = l.isEmpty := by cases l <;> rfl
theorem drop_all : ∀ l : List UInt8, ((l.dropWhile (fineL.contains ·)) == []) = allFine l
 | [] => rfl
 | b :: l => by
  have h := drop_all l
  simp only [List.dropWhile, allFine, List.all_cons] at h ⊢
  rw [fine_byte b]
  cases fineI (b.toNat : Int) with
  | true => simpa using h
  | false => simp
theorem named_at (N : Nat) (s : ByteArray) : f_167 N s = some (nameB s) := by
 have ht : trimF s (⟨#[65, 66, 67, 68, 69, 70, 71, 72, 73, 74, 75, 76, 77, 78, 79, 80, 81, 82, 83, 84, 85, 86, 87, 88, 89, 90, 97, 98, 99, 100, 101, 102, 103, 104, 105, 106, 107, 108, 109, 110, 111, 112, 113, 114, 115, 116, 117, 118, 119, 120, 121, 122, 48, 49, 50, 51, 52, 53, 54, 55, 56, 57, 47, 95, 43, 45]⟩) = some ⟨(Lib.trimLeftS s.data.toList fineL).toArray⟩ := rfl
 unfold f_167 nameB
 rw [ht]
 simp only [Lib.toList_data, Option.bind_some]
 show (bif !(s.data.toList == []) then (bif decide ((s.size : Int) ≤ 12) then some ((Lib.trimLeftS s.data.toList fineL) == []) else some false) else some false) = _
 rw [show (Lib.trimLeftS s.data.toList fineL == []) = allFine s.data.toList from drop_all _, beq_nil, size_list]
 generalize s.data.toList = l
 cases l with
 | nil => rfl
 | cons b l =>
  by_cases h : (b :: l).length ≤ 12
  ·rw [decide_eq_true (show (((b :: l).length : Nat) : Int) ≤ 12 by omega), decide_eq_true h, decide_eq_true (show 1 ≤ (b :: l).length by simp)]; rfl
  ·rw [decide_eq_false (show ¬ (((b :: l).length : Nat) : Int) ≤ 12 by omega), decide_eq_false h, decide_eq_true (show 1 ≤ (b :: l).length by simp)]; rfl
def offB (n : Int) : Bool := decide (-86399 ≤ n) && decide (n ≤ 86399)
theorem added_at (N : Nat) (n : Int) : f_168 N n = some (offB n) := by
 unfold f_168 offB
 show (bif decide (-86399 ≤ n) then _ else _) = _
 cases decide (-86399 ≤ n) <;> rfl
abbrev Rul := Int × Int × ByteArray
def gR (L : List Rul) (i : Nat) : Rul := L.getD i (0, 0, ByteArray.empty)
def okAt (L : List Rul) (i : Nat) : Bool := nameB (gR L i).2.2 && (offB (gR L i).2.1 && (!decide ((gR L i).1 < -1099511627776) && (!decide ((gR L i).1 > 1099511627776) && !(decide ((i : Int) > 0) && decide ((gR L (i - 1)).1 ≥ (gR L i).1)))))
def allFrom (L : List Rul) : Nat → Nat → Bool
 | _, 0 => true
 | i, k + 1 => okAt L i && allFrom L (i + 1) k
def mayZ (n : ByteArray) (f : Int) (L : List Rul) : Bool := nameB n && (offB f && (decide ((L.length : Int) ≤ 32) && allFrom L 0 L.length))
theorem check_loop (N : Nat) {n : ByteArray} {f : Int} {L : List Rul} (hL : L.length ≤ 1000000) : ∀ (k M i : Nat), i + k = L.length → k < M → iter (b_109_0 N) M ((), L, (L.length : Int), (i : Int), (n, f, L)) = bif allFrom L i k then some (.inr ()) else some (.inl (some 1)) := by
 intro k
 induction k with
 | zero =>
  intro M i hi hM
  obtain ⟨M, rfl⟩ : ∃ m, M = m + 1 := ⟨M - 1, by omega⟩
  show b_109_0 N (iter (b_109_0 N) M) _ = _
  unfold b_109_0
  simp only
  rw [decide_eq_false (show ¬ (i : Int) < (L.length : Int) by omega)]; rfl
 | succ k ih =>
  intro M i hi hM
  obtain ⟨M, rfl⟩ : ∃ m, M = m + 1 := ⟨M - 1, by omega⟩
  have ih' := ih M (i + 1) (by omega) (by omega)
  show b_109_0 N (iter (b_109_0 N) M) _ = _
  generalize iter (b_109_0 N) M = I at ih' ⊢
  unfold b_109_0
  simp only
  rw [decide_eq_true (show (i : Int) < (L.length : Int) by omega), decide_eq_true (show 0 ≤ (i : Int) ∧ (i : Int) < (L.length : Int) by omega), named_at, added_at, wi64 (n := (i : Int) + 1) (by omega) (by omega), show (i : Int) + 1 = ((i + 1 : Nat) : Int) by omega, ih']
  simp only [cond_true, Option.bind_some, Int.toNat_natCast]
  show _ = bif (okAt L i && allFrom L (i + 1) k) then _ else _
  unfold okAt
  show (bif !nameB (gR L i).2.2 then _ else (bif !offB (gR L i).2.1 then _ else (bif decide ((gR L i).1 < -1099511627776) then _ else (bif decide ((gR L i).1 > 1099511627776) then _ else _)))) = _
  generalize nameB (gR L i).2.2 = t1
  generalize offB (gR L i).2.1 = t2
  generalize decide ((gR L i).1 < -1099511627776) = t3
  generalize decide ((gR L i).1 > 1099511627776) = t4
  by_cases h0 : (i : Int) > 0
  ·rw [decide_eq_true h0, wi64 (n := (i : Int) - 1) (by omega) (by omega), decide_eq_true (show 0 ≤ (i : Int) - 1 ∧ (i : Int) - 1 < (L.length : Int) by omega), show ((i : Int) - 1).toNat = i - 1 by omega]
   show (bif !t1 then _ else (bif !t2 then _ else (bif t3 then _ else (bif t4 then _ else (bif decide ((gR L (i - 1)).1 ≥ (gR L i).1) then _ else _))))) = _
   generalize decide ((gR L (i - 1)).1 ≥ (gR L i).1) = t5
   cases t1 <;> cases t2 <;> cases t3 <;> cases t4 <;> cases t5 <;> rfl
  ·rw [decide_eq_false h0]
   cases t1 <;> cases t2 <;> cases t3 <;> cases t4 <;> rfl
theorem check_at {N : Nat} {n : ByteArray} {f : Int} {L : List Rul} (hL : L.length ≤ 1000000) (hN : L.length < N) : f_109 N n f L = some (bif mayZ n f L then none else some 1) := by
 have h := check_loop N (n := n) (f := f) hL L.length N 0 (by omega) hN
 have h' : l_109_0 N ((), L, (L.length : Int), 0, (n, f, L)) = bif allFrom L 0 L.length then some (.inr ()) else some (.inl (some 1)) := h
 unfold f_109 mayZ
 rw [named_at, added_at, h', show decide ((L.length : Int) > 32) = !decide ((L.length : Int) ≤ 32) by
  by_cases h : (L.length : Int) ≤ 32
  ·rw [decide_eq_true h, decide_eq_false (by omega)]; rfl
  ·rw [decide_eq_false h, decide_eq_true (by omega)]; rfl]
 cases nameB n <;> cases offB f <;> cases decide ((L.length : Int) ≤ 32) <;> cases allFrom L 0 L.length <;> rfl
end Go.Proofs.YthpljlpokmoeeaaGreatDoor.Mir
namespace Go.Proofs.YthpljlpokmoeeaaGreatDoor.Mir
open Go Go.RowKit
set_option maxRecDepth 100000
def tk (n : Nat) (s : List Int × Bool) : Int × (List Int × Bool) := if s.2 = true ∨ s.1.length < n then (0, ([], true)) else (ofLe (s.1.take n), (s.1.drop n, false))
theorem tk_lt {n : Nat} {s : List Int × Bool} (h : By s.1) : 0 ≤ (tk n s).1 ∧ (tk n s).1 < 256 ^ n := by
 unfold tk; split
 ·exact ⟨Int.le_refl _, Int.pow_pos (by decide)⟩
 ·rename_i hn
  have := ofLe_lt (h.take n)
  rw [List.length_take, Nat.min_eq_left (by omega)] at this
  exact this
theorem p256 : ∀ m : Fin 9, (256 : Int) ^ m.val ≤ 18446744073709551616 := by decide +kernel
theorem numV_at {zs : List Int} (h : By zs) (hl : zs.length ≤ 8) : numV zs = ofLe zs := by
 have key : ∀ k, k ≤ zs.length → (upTo (backAt zs zs.length) k).foldl numStep 0 = ofLe (zs.drop (zs.length - k)) := by
  intro k
  induction k with
  | zero => intro _; simp [upTo, ofLe]
  | succ k ih =>
   intro hk
   rw [upTo_succ, List.foldl_append, ih (by omega)]
   have hi : zs.length - (k + 1) < zs.length := by omega
   have e : zs.drop (zs.length - (k + 1)) = zs[zs.length - (k + 1)] :: zs.drop (zs.length - k) := by
    rw [List.drop_eq_getElem_cons hi, show zs.length - (k + 1) + 1 = zs.length - k by omega]
   have hb := ofLe_lt (h.drop (zs.length - (k + 1)))
   rw [e] at hb ⊢
   rw [List.length_cons, List.length_drop, show zs.length - (zs.length - k) + 1 = k + 1 by omega] at hb
   have hp : (256 : Int) ^ (k + 1) ≤ 18446744073709551616 := by
    exact p256 ⟨k + 1, by omega⟩
   have hc := h zs[zs.length - (k + 1)] (List.getElem_mem hi)
   have hv := (ofLe_lt (h.drop (zs.length - k))).1
   simp only [ofLe] at hb ⊢
   show bits .or .u64 (IntKind.u64.wrap (ofLe (zs.drop (zs.length - k)) * 256)) (IntKind.u64.wrap (zs[zs.length - 1 - k]?.getD 0)) = _
   have eg : zs[zs.length - 1 - k]?.getD 0 = zs[zs.length - (k + 1)] := by
    rw [show zs.length - 1 - k = zs.length - (k + 1) by omega, List.getElem?_eq_getElem hi]; rfl
   rw [eg, wu64 (by omega) (by omega), wu64 (by omega) (by omega), or256 _ _ hv hc.1 hc.2 (by omega)]
   omega
 have := key zs.length (Nat.le_refl _)
 rw [Nat.sub_self, List.drop_zero] at this
 exact this
theorem rdF_at {xs : List Int} {bd : Bool} {n : Nat} (h : By xs) (h1 : 1 ≤ n) (h8 : n ≤ 8) : rdF n xs bd = some ((tk n (xs, bd)).1, (tk n (xs, bd)).2.1, (tk n (xs, bd)).2.2) := by
 unfold rdF tk
 rw [decide_eq_true (by omega)]
 simp only [cond_true, Int.toNat_natCast]
 by_cases hb : bd = true ∨ xs.length < n
 ·rw [if_pos hb]
  have : (bd || decide ((xs.length : Int) < (n : Int))) = true := by
   rcases hb with rfl | hb
   ·rfl
   ·rw [decide_eq_true (by omega)]; simp
  rw [this]; rfl
 ·rw [if_neg hb]
  have : (bd || decide ((xs.length : Int) < (n : Int))) = false := by
   have h2 := not_or.1 hb
   rw [decide_eq_false (by omega)]
   simpa using h2.1
  rw [this, cond_false, numV_at (h.take n) (by rw [List.length_take]; omega)]
theorem i64_at (N : Nat) {xs : List Int} {bd : Bool} (h : By xs) : f_232 N xs bd = some (IntKind.i64.wrap (tk 8 (xs, bd)).1, (tk 8 (xs, bd)).2) := by
 unfold f_232
 rw [show (8 : Int) = ((8 : Nat) : Int) from rfl, rdF_at h (by decide) (by decide)]
 rfl
theorem num_loop (N : Nat) {v : Int} {n : Nat} (_ : 0 ≤ v) (h8 : n ≤ 8) : ∀ (k M i : Nat) (b : List Int), i + k = n → k < M → b.length + k ≤ 1000008 →
  iter (b_225_0 N) M (v, b, (n : Int), (i : Int)) = some (b ++ le k (v / 256 ^ i)) := by
 intro k
 induction k with
 | zero =>
  intro M i b hi hM _
  obtain ⟨M, rfl⟩ : ∃ m, M = m + 1 := ⟨M - 1, by omega⟩
  show (bif decide ((i : Int) < (n : Int)) then _ else some b) = _
  rw [decide_eq_false (by omega)]
  simp [le]
 | succ k ih =>
  intro M i b hi hM hb
  obtain ⟨M, rfl⟩ : ∃ m, M = m + 1 := ⟨M - 1, by omega⟩
  have ei : v / 2 ^ (min (Int.toNat (IntKind.i64.wrap (8 * (i : Int)))) IntKind.u64.bits) = v / 256 ^ i := by
   rw [wi64 (by omega) (by omega), show (8 * (i : Int)).toNat = 8 * i by omega, show IntKind.u64.bits = 64 from rfl, Nat.min_eq_left (by omega), Int.pow_mul]
   rfl
  show (bif decide ((i : Int) < (n : Int)) then (bif decide (IntKind.i64.wrap (8 * (i : Int)) < 0) then none else (bif decide ((b.length + ([(IntKind.u8.wrap (v / 2 ^ (min (Int.toNat (IntKind.i64.wrap (8 * (i : Int)))) IntKind.u64.bits)))] : List Int).length) * 1 ≤ 140737488355328) then iter (b_225_0 N) M (v, b ++ [(IntKind.u8.wrap (v / 2 ^ (min (Int.toNat (IntKind.i64.wrap (8 * (i : Int)))) IntKind.u64.bits)))], (n : Int), IntKind.i64.wrap ((i : Int) + 1)) else none)) else some b) = _
  have hlen : ∀ z : Int, (b.length + ([z] : List Int).length) * 1 ≤ 140737488355328 := fun z => by simp only [List.length_singleton]; omega
  have hneg : ¬ IntKind.i64.wrap (8 * (i : Int)) < 0 := by rw [wi64 (by omega) (by omega)]; omega
  rw [ei, decide_eq_true (show (i : Int) < (n : Int) by omega), decide_eq_false hneg, decide_eq_true (hlen _)]
  simp only [cond_true, cond_false]
  rw [wi64 (n := (i : Int) + 1) (by omega) (by omega), IntKind.wrap_u8]
  have := ih M (i + 1) (b ++ [v / 256 ^ i % 256]) (by omega) (by omega) (by rw [List.length_append, List.length_singleton]; omega)
  rw [show ((i + 1 : Nat) : Int) = (i : Int) + 1 by omega] at this
  rw [this, List.append_assoc]
  have e2 : v / 256 ^ (i + 1) = v / 256 ^ i / 256 := by rw [Int.pow_succ, Int.ediv_ediv_of_nonneg (Int.pow_nonneg (by decide))]
  rw [e2]; rfl
theorem clone_at {b : List Int} (hb : b.length ≤ 1000000) : cloneF [.int .u8] 1 b = some b := by
 unfold cloneF
 rw [decide_eq_true (show (0 + List.length (α := Int) b) * 1 ≤ 140737488355328 by omega)]; rfl
theorem num_at {N : Nat} {b : List Int} {v : Int} {n : Nat} (hN : 10 ≤ N) (hb : b.length ≤ 1000000) (h0 : 0 ≤ v) (h8 : n ≤ 8) : f_225 N b v n = some (b ++ le n v) := by
 unfold f_225
 rw [clone_at hb]
 have := num_loop N (v := v) h0 h8 n N 0 b (by omega) (by omega) (by omega)
 simp only [Int.pow_zero, Int.ediv_one] at this
 simp only [Option.bind_some]
 have h' : l_225_0 N (v, b, (n : Int), 0) = some (b ++ le n v) := this
 rw [h']; rfl
theorem pi64_at {N : Nat} {b : List Int} {v : Int} (hN : 10 ≤ N) (hb : b.length ≤ 1000000) : f_216 N b v = some (b ++ le 8 (IntKind.u64.wrap v)) := by
 unfold f_216
 rw [show (8 : Int) = ((8 : Nat) : Int) from rfl, num_at hN hb (wu64_lt v).1 (by decide)]; rfl
end Go.Proofs.YthpljlpokmoeeaaGreatDoor.Mir
namespace Go.Proofs.YthpljlpokmoeeaaGreatDoor.Mir
open Go Go.RowKit
set_option maxRecDepth 100000
def c1 (v : Nat) : Nat := if v % 2 = 1 then (v / 2) ^^^ 3988292384 else v / 2
end Go.Proofs.YthpljlpokmoeeaaGreatDoor.Mir
namespace Go.Proofs.YthpljlpokmoeeaaGreatDoor.Mir
open Go Go.RowKit
set_option maxRecDepth 100000
def errN : Option Int → Int
 | none => 0
 | some e => e
end Go.Proofs.YthpljlpokmoeeaaGreatDoor.Mir
namespace Go.Proofs.YthpljlpokmoeeaaGreatDoor.Mir
open Go Go.RowKit
set_option maxRecDepth 100000
theorem new_at (N : Nat) {b : List Int} (hb : b.length ≤ 1000000) : f_231 N b = some ((), (b, false)) := by
 unfold f_231
 rw [clone_at hb]; rfl
end Go.Proofs.YthpljlpokmoeeaaGreatDoor.Mir
namespace Go.Proofs.YthpljlpokmoeeaaGreatDoor.Mir
open Go Go.RowKit
set_option maxRecDepth 100000
end Go.Proofs.YthpljlpokmoeeaaGreatDoor.Mir
namespace Go.Proofs.YthpljlpokmoeeaaGreatDoor.Mir
open Go Go.RowKit
set_option maxRecDepth 100000
end Go.Proofs.YthpljlpokmoeeaaGreatDoor.Mir
namespace Go.Proofs.YthpljlpokmoeeaaGreatDoor.Mir
open Go Go.RowKit
set_option maxRecDepth 100000
end Go.Proofs.YthpljlpokmoeeaaGreatDoor.Mir
namespace Go.Proofs.YthpljlpokmoeeaaGreatDoor.Mir
open Go Go.RowKit
set_option maxRecDepth 100000
def smayB (k b a : Int) : Bool := bif decide (b < 0) then false else (bif decide (b > 43200) then false else (bif decide (a < 0) then false else (bif decide (a > 43200) then false else (bif k == 0 then (IntKind.i64.wrap (b + a)) == 0 else (bif k == 1 then decide ((IntKind.i64.wrap (b + a)) > 0) else (bif k == 2 then decide ((IntKind.i64.wrap (b + a)) ≥ 3600) else false))))))
theorem schk_at (N : Nat) (k b a : Int) : f_106 N k b a = some (bif smayB k b a then none else some 1) := by
 unfold f_106 smayB
 generalize decide (b < 0) = d1
 generalize decide (b > 43200) = d2
 generalize decide (a < 0) = d3
 generalize decide (a > 43200) = d4
 generalize (k == 0) = d5
 generalize (k == 1) = d6
 generalize (k == 2) = d7
 generalize (IntKind.i64.wrap (b + a) == 0) = d8
 generalize decide (IntKind.i64.wrap (b + a) > 0) = d9
 generalize decide (IntKind.i64.wrap (b + a) ≥ 3600) = d0
 cases d1 <;> cases d2 <;> cases d3 <;> cases d4 <;> cases d5 <;> cases d6 <;> cases d7 <;> cases d8 <;> cases d9 <;> cases d0 <;> rfl
def qmayB (q : Int) : Bool := !decide (q < 1) && !decide (q > 68719476736)
theorem qchk_at (N : Nat) (q : Int) : f_107 N q = some (bif qmayB q then none else some 1) := by
 unfold f_107 qmayB
 cases decide (q < 1) <;> cases decide (q > 68719476736) <;> rfl
def umayB (w c : Int) : Bool := !decide (w < 0) && (!decide (w > 1099511627776) && (!decide (c < 1) && !decide (c > 1125899906842624)))
theorem uchk_at (N : Nat) (w c : Int) : f_108 N w c = some (bif umayB w c then none else some 1) := by
 unfold f_108 umayB
 cases decide (w < 0) <;> cases decide (w > 1099511627776) <;> cases decide (c < 1) <;> cases decide (c > 1125899906842624) <;> rfl
def mayP (k b a q w c : Int) (n : ByteArray) (f : Int) (L : List Rul) : Bool := smayB k b a && (qmayB q && (umayB w c && mayZ n f L))
theorem pchk_loop (M : Nat) (N : Nat) (e1 e2 e3 e4 : Bool) : iter (b_49_0 N) (M + 5) (((bif e1 then none else some 1), (bif e2 then none else some 1), (bif e3 then none else some 1), (bif e4 then none else some 1)), 0) = bif e1 && (e2 && (e3 && e4)) then some (.inr ()) else some (.inl (some 1)) := by
 rw [show iter (b_49_0 N) (M + 5) = b_49_0 N (b_49_0 N (b_49_0 N (b_49_0 N (b_49_0 N (iter (b_49_0 N) M))))) from rfl]
 generalize iter (b_49_0 N) M = T
 unfold b_49_0
 have w1 : IntKind.i64.wrap ((0 : Int) + 1) = 1 := by rw [wi64 (by omega) (by omega)]; rfl
 have w2 : IntKind.i64.wrap ((1 : Int) + 1) = 2 := by rw [wi64 (by omega) (by omega)]; rfl
 have w3 : IntKind.i64.wrap ((2 : Int) + 1) = 3 := by rw [wi64 (by omega) (by omega)]; rfl
 have w4 : IntKind.i64.wrap ((3 : Int) + 1) = 4 := by rw [wi64 (by omega) (by omega)]; rfl
 simp only [w1, w2, w3, w4]
 cases e1 <;> cases e2 <;> cases e3 <;> cases e4 <;> rfl
theorem pchk_at {N : Nat} (hN : 3000 ≤ N) (k b a q w c : Int) (j : Bool) {n : ByteArray} {f : Int} {L : List Rul} (hL : L.length ≤ 1000) : f_49 N k b a q w c j n f L = some (bif mayP k b a q w c n f L then none else some 1) := by
 unfold f_49 l_49_0 mayP
 rw [schk_at, qchk_at, uchk_at, check_at (by omega) (by omega)]
 simp only [Option.bind_some]
 obtain ⟨M, rfl⟩ : ∃ m, N = m + 5 := ⟨N - 5, by omega⟩
 rw [pchk_loop M]
 cases smayB k b a && (qmayB q && (umayB w c && mayZ n f L)) <;> rfl
end Go.Proofs.YthpljlpokmoeeaaGreatDoor.Mir
namespace Go.Proofs.YthpljlpokmoeeaaGreatDoor.Mir
open Go Go.RowKit
set_option maxRecDepth 100000
abbrev PolT := Int × Int × Int × Int × Int × Int × Bool × ByteArray × Int × List Rul
def mayPT (p : PolT) : Bool := mayP p.1 p.2.1 p.2.2.1 p.2.2.2.1 p.2.2.2.2.1 p.2.2.2.2.2.1 p.2.2.2.2.2.2.2.1 p.2.2.2.2.2.2.2.2.1 p.2.2.2.2.2.2.2.2.2
theorem tk_ok {n : Nat} {xs : List Int} (h : n ≤ xs.length) : tk n (xs, false) = (ofLe (xs.take n), (xs.drop n, false)) := by
 unfold tk
 rw [if_neg (by simp; omega)]
end Go.Proofs.YthpljlpokmoeeaaGreatDoor.Mir
namespace Go.Proofs.YthpljlpokmoeeaaGreatDoor.Mir
open Go Go.RowKit
set_option maxRecDepth 100000
end Go.Proofs.YthpljlpokmoeeaaGreatDoor.Mir
namespace Go.Proofs.YthpljlpokmoeeaaGreatDoor.Mir
open Go Go.RowKit
set_option maxRecDepth 100000
def fineT (c : Int) : Bool := (decide (c ≥ 97) && decide (c ≤ 122)) || (decide (c ≥ 48) && decide (c ≤ 57))
def fineTL : List UInt8 := [97, 98, 99, 100, 101, 102, 103, 104, 105, 106, 107, 108, 109, 110, 111, 112, 113, 114, 115, 116, 117, 118, 119, 120, 121, 122, 48, 49, 50, 51, 52, 53, 54, 55, 56, 57]
theorem fineT_nat : ∀ n : Fin 256, fineTL.contains (UInt8.ofNat n.val) = fineT (n.val : Int) := by decide +kernel
theorem fineT_byte (b : UInt8) : fineTL.contains b = fineT (b.toNat : Int) := by
 have := fineT_nat ⟨b.toNat, b.toNat_lt⟩
 simpa using this
def allFineT (l : List UInt8) : Bool := l.all fun b => fineT (b.toNat : Int)
def nameT (s : ByteArray) : Bool := decide (1 ≤ s.size) && (decide (s.size ≤ 12) && allFineT s.data.toList)
theorem dropT_all : ∀ l : List UInt8, ((l.dropWhile (fineTL.contains ·)) == []) = allFineT l
 | [] => rfl
 | b :: l => by
  have h := dropT_all l
  simp only [List.dropWhile, allFineT, List.all_cons] at h ⊢
  rw [fineT_byte b]
  cases fineT (b.toNat : Int) with
  | true => simpa using h
  | false => simp
def R64 (n : Int) : Prop := -9223372036854775808 ≤ n ∧ n < 9223372036854775808
def timeB (at_ : Int) : Bool := decide (-4611686018427387904 < at_) && decide (at_ < 4611686018427387904)
theorem paut_at (N : Nat) {a : Int} (h : R64 a) : f_141 N a = some (timeB a) := by
 obtain ⟨h1, h2⟩ := h
 unfold f_141 f_101 f_52 f_114 f_115 timeB
 by_cases h0 : a < 0
 ·rw [decide_eq_true h0]
  by_cases hm : a = -9223372036854775808
  ·subst hm
   rfl
  ·rw [wi64 (n := 0 - a) (by omega) (by omega), decide_eq_true (show 0 - a > 0 by omega)]
   simp only [cond_true, beq_self_eq_true, Bool.not_true, cond_false, Option.bind_some, Option.isNone_none]
   congr 1
   rw [decide_eq_true (show a < 4611686018427387904 by omega), Bool.and_true]
   exact decide_eq_decide.2 (show ((0 : Int) - a < (4611686018427387904 : Int)) ↔ ((-4611686018427387904 : Int) < a) by omega)
 ·rw [decide_eq_false h0]
  simp only [cond_false, Option.bind_some]
  congr 1
  rw [decide_eq_true (show -4611686018427387904 < a by omega), Bool.true_and]
def pauseB (on : Bool) (a lost : Int) : Bool := timeB a && ((on || a == 0) && (!decide (lost < 0) && !decide (lost > 2305843009213693952)))
theorem pauchk_at (N : Nat) (on : Bool) {a : Int} (lost : Int) (h : R64 a) : f_71 N on a lost = some (bif pauseB on a lost then none else some 1) := by
 unfold f_71 pauseB
 rw [paut_at N h]
 simp only [Option.bind_some, bne]
 generalize timeB a = t1
 generalize (a == 0) = t2
 generalize decide (lost < 0) = t3
 generalize decide (lost > 2305843009213693952) = t4
 cases t1 <;> cases on <;> cases t2 <;> cases t3 <;> cases t4 <;> rfl
def floorB (set : Bool) (low q : Int) : Bool := bif set then Int.tmod low q == 0 else low == 0
theorem qmayB_rng {q : Int} (h : qmayB q = true) : 1 ≤ q ∧ q ≤ 68719476736 := by
 simp only [qmayB, Bool.and_eq_true, Bool.not_eq_true', decide_eq_false_iff_not] at h
 omega
theorem floored_at (N : Nat) (set : Bool) (low : Int) {q : Int} (h : qmayB q = true) : f_72 N set low q = some (floorB set low q) := by
 have hq := qmayB_rng h
 unfold f_72 floorB
 cases set with
 | false => rfl
 | true =>
  unfold f_142
  rw [qchk_at, h]
  simp only [Bool.not_true, cond_false, cond_true, Option.bind_some, Option.isNone_none]
  rw [decide_eq_false (show ¬ q = 0 by omega)]; rfl
def epB (e : Int) : Bool := !decide (e < 0) && !decide (e > 1099511627776)
def mayT (n : ByteArray) (k b a q w c : Int) (zn : ByteArray) (zf : Int) (zL : List Rul) (on : Bool) (at_ lost : Int) (set : Bool) (low ep : Int) : Bool :=
 nameT n && (mayP k b a q w c zn zf zL && (pauseB on at_ lost && (floorB set low q && epB ep)))
theorem beq_empty (s : ByteArray) : (s.toList == (⟨#[]⟩ : ByteArray).toList) = decide (s.size < 1) := by
 rw [Lib.toList_data, Lib.toList_data, size_list]
 show (s.data.toList == []) = _
 rw [beq_nil]
 cases s.data.toList <;> simp
theorem mayP_q {k b a q w c : Int} {zn : ByteArray} {zf : Int} {zL : List Rul} (h : mayP k b a q w c zn zf zL = true) : qmayB q = true := by
 simp only [mayP, Bool.and_eq_true] at h; exact h.2.1
theorem tchk_at {N : Nat} (hN : 3000 ≤ N) (n : ByteArray) (key : List Int) (k b a q w c : Int) (j : Bool) (zn : ByteArray) (zf : Int) {zL : List Rul} (on : Bool) {at_ : Int} (lost : Int) (set : Bool) (low ep : Int) (hL : zL.length ≤ 1000) (ha : R64 at_) :
  f_22 N n key k b a q w c j zn zf zL on at_ lost set low ep = some (bif mayT n k b a q w c zn zf zL on at_ lost set low ep then none else some 1) := by
 have ht : trimF n (⟨#[97, 98, 99, 100, 101, 102, 103, 104, 105, 106, 107, 108, 109, 110, 111, 112, 113, 114, 115, 116, 117, 118, 119, 120, 121, 122, 48, 49, 50, 51, 52, 53, 54, 55, 56, 57]⟩) = some ⟨(Lib.trimLeftS n.data.toList fineTL).toArray⟩ := rfl
 have hd : ((⟨(Lib.trimLeftS n.data.toList fineTL).toArray⟩ : ByteArray).toList == (⟨#[]⟩ : ByteArray).toList) = allFineT n.data.toList := by
  rw [Lib.toList_data, Lib.toList_data]
  exact dropT_all _
 unfold f_22 mayT nameT
 rw [beq_empty, ht]
 by_cases h1 : n.size < 1
 ·rw [decide_eq_true h1, decide_eq_false (show ¬ 1 ≤ n.size by omega)]; rfl
 ·by_cases h12 : n.size ≤ 12
  ·rw [decide_eq_false h1, decide_eq_true (show 1 ≤ n.size by omega), decide_eq_true h12, decide_eq_false (show ¬ (n.size : Int) > 12 by omega)]
   simp only [cond_false, Option.bind_some, hd, Bool.true_and]
   cases allFineT n.data.toList with
   | false => rfl
   | true =>
    simp only [Bool.not_true, cond_false, Bool.true_and]
    rw [pchk_at hN k b a q w c j hL]
    simp only [Option.bind_some]
    cases hm : mayP k b a q w c zn zf zL with
    | false => rfl
    | true =>
     simp only [cond_true, Option.isNone_none, Bool.not_true, cond_false, Bool.true_and]
     rw [pauchk_at N on lost ha, floored_at N set low (mayP_q hm)]
     unfold epB
     generalize pauseB on at_ lost = t1
     generalize floorB set low q = t2
     generalize decide (ep < 0) = t3
     generalize decide (ep > 1099511627776) = t4
     cases t1 <;> cases t2 <;> cases t3 <;> cases t4 <;> rfl
  ·rw [decide_eq_false h1, decide_eq_false h12, decide_eq_true (show (n.size : Int) > 12 by omega)]
   simp
end Go.Proofs.YthpljlpokmoeeaaGreatDoor.Mir
namespace Go.Proofs.YthpljlpokmoeeaaGreatDoor.Mir
open Go Go.RowKit
set_option maxRecDepth 100000
def rB (s : Int) : Bool := decide (-9223372036854775808 ≤ s ∧ s < 9223372036854775808)
def fit64 (s : Int) : Int × Option Int := bif rB s then (s, none) else (0, some 2)
def satI (s : Int) : Int := if s < -9223372036854775808 then -9223372036854775808 else if s > 9223372036854775807 then 9223372036854775807 else s
theorem rB_t {s : Int} (h : R64 s) : rB s = true := decide_eq_true h
theorem rB_f {s : Int} (h : ¬ R64 s) : rB s = false := decide_eq_false h
theorem rB_iff {s : Int} : rB s = true ↔ R64 s := by unfold rB R64; simp
theorem satI_in {s : Int} (h : R64 s) : satI s = s := by
 obtain ⟨h1, h2⟩ := h
 unfold satI; rw [if_neg (by omega), if_neg (by omega)]
theorem satI_rng (s : Int) : R64 (satI s) := by
 unfold satI R64
 split
 ·omega
 ·split <;> omega
theorem nadd_at (N : Nat) {a b : Int} (ha : R64 a) (hb : R64 b) : f_164 N a b = some (fit64 (a + b)) := by
 obtain ⟨a1, a2⟩ := ha
 obtain ⟨b1, b2⟩ := hb
 unfold f_164 fit64 rB
 by_cases h : -9223372036854775808 ≤ a + b ∧ a + b < 9223372036854775808
 ·rw [wi64 h.1 h.2, decide_eq_true h, show decide (a + b < a) = decide (b < 0) from decide_eq_decide.2 (by omega)]
  simp
 ·rw [decide_eq_false h]
  rcases (show a + b ≥ 9223372036854775808 ∨ a + b < -9223372036854775808 by omega) with h1 | h1
  ·have e : IntKind.i64.wrap (a + b) = a + b - 18446744073709551616 := by rw [IntKind.wrap_i64]; omega
   rw [e, decide_eq_true (show a + b - 18446744073709551616 < a by omega), decide_eq_false (show ¬ b < 0 by omega)]; rfl
  ·have e : IntKind.i64.wrap (a + b) = a + b + 18446744073709551616 := by rw [IntKind.wrap_i64]; omega
   rw [e, decide_eq_false (show ¬ a + b + 18446744073709551616 < a by omega), decide_eq_true (show b < 0 by omega)]; rfl
theorem nsub_at (N : Nat) {a b : Int} (ha : R64 a) (hb : R64 b) : f_114 N a b = some (fit64 (a - b)) := by
 obtain ⟨a1, a2⟩ := ha
 obtain ⟨b1, b2⟩ := hb
 unfold f_114 fit64 rB
 by_cases h : -9223372036854775808 ≤ a - b ∧ a - b < 9223372036854775808
 ·rw [wi64 h.1 h.2, decide_eq_true h, show decide (a - b > a) = decide (b < 0) from decide_eq_decide.2 (by omega)]
  simp
 ·rw [decide_eq_false h]
  rcases (show a - b ≥ 9223372036854775808 ∨ a - b < -9223372036854775808 by omega) with h1 | h1
  ·have e : IntKind.i64.wrap (a - b) = a - b - 18446744073709551616 := by rw [IntKind.wrap_i64]; omega
   rw [e, decide_eq_false (show ¬ a - b - 18446744073709551616 > a by omega), decide_eq_true (show b < 0 by omega)]; rfl
  ·have e : IntKind.i64.wrap (a - b) = a - b + 18446744073709551616 := by rw [IntKind.wrap_i64]; omega
   rw [e, decide_eq_true (show a - b + 18446744073709551616 > a by omega), decide_eq_false (show ¬ b < 0 by omega)]; rfl
theorem nedge_at (N : Nat) (b : Bool) : f_115 N b = some (bif b then -9223372036854775808 else 9223372036854775807) := by cases b <;> rfl
theorem naddsat_at (N : Nat) {a b : Int} (ha : R64 a) (hb : R64 b) : f_136 N a b = some (satI (a + b)) := by
 unfold f_136
 rw [nadd_at N ha hb, nedge_at]
 obtain ⟨a1, a2⟩ := ha
 obtain ⟨b1, b2⟩ := hb
 simp only [Option.bind_some]
 by_cases h : R64 (a + b)
 ·unfold fit64; rw [rB_t h, satI_in h]; rfl
 ·unfold fit64; rw [rB_f h]
  simp only [cond_false, Option.isNone_some, Bool.not_false, cond_true]
  unfold R64 at h
  unfold satI
  by_cases h0 : b < 0
  ·rw [decide_eq_true h0, if_pos (by omega)]; rfl
  ·rw [decide_eq_false h0, if_neg (by omega), if_pos (by omega)]; rfl
theorem nsubsat_at (N : Nat) {a b : Int} (ha : R64 a) (hb : R64 b) : f_52 N a b = some (satI (a - b)) := by
 unfold f_52
 rw [nsub_at N ha hb, nedge_at]
 obtain ⟨a1, a2⟩ := ha
 obtain ⟨b1, b2⟩ := hb
 simp only [Option.bind_some]
 by_cases h : R64 (a - b)
 ·unfold fit64; rw [rB_t h, satI_in h]; rfl
 ·unfold fit64; rw [rB_f h]
  simp only [cond_false, Option.isNone_some, Bool.not_false, cond_true]
  unfold R64 at h
  unfold satI
  by_cases h0 : b > 0
  ·rw [decide_eq_true h0, if_pos (by omega)]; rfl
  ·rw [decide_eq_false h0, if_neg (by omega), if_pos (by omega)]; rfl
theorem tmod_rng {a b : Int} (hb : 0 < b) : -b < Int.tmod a b ∧ Int.tmod a b < b ∧ (0 ≤ a → 0 ≤ Int.tmod a b) ∧ (a ≤ 0 → Int.tmod a b ≤ 0) := by
 rcases Int.lt_or_le a 0 with h | h
 ·have a1 := Int.tmod_nonneg b (show 0 ≤ -a by omega)
  have a2 := Int.tmod_lt_of_pos (-a) hb
  rw [Int.neg_tmod] at a1 a2
  exact ⟨by omega, by omega, fun h' => by omega, fun _ => by omega⟩
 ·have a1 := Int.tmod_nonneg b h
  have a2 := Int.tmod_lt_of_pos a hb
  refine ⟨by omega, by omega, fun _ => a1, fun h' => ?_⟩
  obtain rfl : a = 0 := by omega
  simp
theorem floor_t {a b : Int} (hb : 0 < b) : a / b = (if Int.tmod a b < 0 then Int.tdiv a b - 1 else Int.tdiv a b) ∧ a % b = (if Int.tmod a b < 0 then Int.tmod a b + b else Int.tmod a b) := by
 have e := Int.mul_tdiv_add_tmod a b
 obtain ⟨l1, l2, _⟩ := tmod_rng (a := a) hb
 split
 ·exact (Int.ediv_emod_unique hb).2 ⟨by rw [Int.mul_sub, Int.mul_one]; omega, by omega, by omega⟩
 ·exact (Int.ediv_emod_unique hb).2 ⟨by omega, by omega, by omega⟩
theorem fdiv_rng {a b : Int} (hb : 1 ≤ b) : (0 ≤ a → 0 ≤ a / b ∧ a / b ≤ a) ∧ (a < 0 → a ≤ a / b ∧ a / b < 0) := by
 have e := Int.mul_ediv_add_emod a b
 have e1 := Int.emod_nonneg a (show b ≠ 0 by omega)
 have e2 := Int.emod_lt_of_pos a (show 0 < b by omega)
 refine ⟨fun h => ⟨Int.ediv_nonneg h (by omega), Int.ediv_le_self b h⟩, fun h => ⟨?_, Int.ediv_neg_of_neg_of_pos h (by omega)⟩⟩
 refine Int.le_ediv_of_mul_le (by omega) ?_
 have := Int.mul_le_mul_of_nonpos_left (show a ≤ 0 by omega) hb
 omega
theorem ndiv_at (N : Nat) {a b : Int} (ha : R64 a) (hb : 1 ≤ b) (hb2 : b < 9223372036854775808) : f_94 N a b = some (a / b, a % b, none) := by
 obtain ⟨a1, a2⟩ := ha
 obtain ⟨f1, f2⟩ := floor_t (a := a) (b := b) (by omega)
 obtain ⟨g1, g2⟩ := fdiv_rng (a := a) hb
 obtain ⟨l1, l2, l3, l4⟩ := tmod_rng (a := a) (b := b) (by omega)
 unfold f_94
 rw [decide_eq_false (show ¬ b < 1 by omega), decide_eq_false (show ¬ b = 0 by omega)]
 simp only [cond_false]
 by_cases h : Int.tmod a b < 0
 ·rw [if_pos h] at f1 f2
  have h0 : a < 0 := by
   rcases Int.lt_or_le a 0 with h0 | h0
   ·exact h0
   ·have := l3 h0; omega
  have g := g2 h0
  rw [decide_eq_true h, wi64 (n := Int.tdiv a b) (by omega) (by omega), wi64 (n := Int.tdiv a b - 1) (by omega) (by omega), wi64 (n := Int.tmod a b + b) (by omega) (by omega), f1, f2]; rfl
 ·rw [if_neg h] at f1 f2
  rw [decide_eq_false h, wi64 (n := Int.tdiv a b) (by omega) (by omega), f1, f2]; rfl
theorem nmul_at (N : Nat) {a b : Int} (ha : R64 a) (hb : R64 b) (hb0 : 0 < b) : f_186 N a b = some (fit64 (a * b)) := by
 obtain ⟨a1, a2⟩ := ha
 obtain ⟨b1, b2⟩ := hb
 unfold f_186
 by_cases h0 : a = 0
 ·subst h0
  rw [Int.zero_mul]; rfl
 rw [show (a == 0) = false by simpa using h0, show (b == 0) = false by simp; omega, show (b == (-1)) = false by simp; omega, show (b == (-9223372036854775808)) = false by simp; omega]
 have hb1 : decide (b = 0) = false := decide_eq_false (by omega)
 unfold fit64
 by_cases h : R64 (a * b)
 ·rw [rB_t h]
  obtain ⟨h1, h2⟩ := h
  have e : Int.tdiv (a * b) b = a := Int.mul_tdiv_cancel a (by omega)
  simp only [wi64 h1 h2, hb1, e, wi64 a1 a2, cond_false, cond_true, bne_self_eq_false]
  cases (a == -1) <;> rfl
 ·rw [rB_f h]
  have hne : (IntKind.i64.wrap (Int.tdiv (IntKind.i64.wrap (a * b)) b) != a) = true := by
   rw [bne_iff_ne]
   intro hc
   have e := Int.mul_tdiv_add_tmod (IntKind.i64.wrap (a * b)) b
   obtain ⟨l1, l2, _⟩ := tmod_rng (a := IntKind.i64.wrap (a * b)) (b := b) hb0
   have hw : -9223372036854775808 ≤ IntKind.i64.wrap (a * b) ∧ IntKind.i64.wrap (a * b) < 9223372036854775808 := by rw [IntKind.wrap_i64]; omega
   obtain ⟨g1, g2⟩ := fdiv_rng (a := IntKind.i64.wrap (a * b)) (b := b) (by omega)
   obtain ⟨f1, _⟩ := floor_t (a := IntKind.i64.wrap (a * b)) (b := b) hb0
   have ht : R64 (Int.tdiv (IntKind.i64.wrap (a * b)) b) := by
    unfold R64
    rcases Int.lt_or_le (IntKind.i64.wrap (a * b)) 0 with q | q
    ·have := g2 q; split at f1 <;> omega
    ·have := g1 q; split at f1 <;> omega
   rw [wi64 ht.1 ht.2] at hc
   rw [hc, Int.mul_comm] at e
   have hm : ∃ k, IntKind.i64.wrap (a * b) = a * b + 18446744073709551616 * k := by
    rw [IntKind.wrap_i64]
    exact ⟨-((a * b + 9223372036854775808) / 18446744073709551616), by omega⟩
   obtain ⟨k, hk⟩ := hm
   unfold R64 at h
   generalize a * b = p at *
   generalize Int.tmod (IntKind.i64.wrap p) b = r at *
   generalize IntKind.i64.wrap p = v at *
   omega
  simp only [hb1, hne, cond_false, cond_true]
  cases (a == -1) <;> rfl
end Go.Proofs.YthpljlpokmoeeaaGreatDoor.Mir
namespace Go.Proofs.YthpljlpokmoeeaaGreatDoor.Mir
open Go Go.RowKit
set_option maxRecDepth 100000
theorem qplace_at (N : Nat) {t q : Int} (ht : R64 t) : f_185 N t q = some (if qmayB q = true then (t / q, none) else (0, some 1)) := by
 unfold f_185
 rw [qchk_at]
 simp only [Option.bind_some]
 cases h : qmayB q with
 | false => rfl
 | true =>
  have hq := qmayB_rng h
  simp only [cond_true, Option.isNone_none, Bool.not_true, cond_false, if_true]
  rw [ndiv_at N ht hq.1 (by omega)]; rfl
theorem fdiv_r64 {t q : Int} (ht : R64 t) (hq : 1 ≤ q) : R64 (t / q) := by
 obtain ⟨g1, g2⟩ := fdiv_rng (a := t) hq
 obtain ⟨t1, t2⟩ := ht
 unfold R64
 rcases Int.lt_or_le t 0 with h | h
 ·have := g2 h; omega
 ·have := g1 h; omega
theorem qdown_at (N : Nat) {t q : Int} (ht : R64 t) : f_144 N t q = some (if qmayB q = true then fit64 (t / q * q) else (0, some 1)) := by
 unfold f_144
 rw [qplace_at N ht]
 simp only [Option.bind_some]
 cases h : qmayB q with
 | false => rfl
 | true =>
  have hq := qmayB_rng h
  simp only [if_true, Option.isNone_none, Bool.not_true, cond_false]
  rw [nmul_at N (fdiv_r64 ht hq.1) ⟨by omega, by omega⟩ (by omega)]; rfl
def raiseD (set : Bool) (at_ t : Int) : Int := bif set then max t at_ else t
theorem max_if (x y : Int) : (if y > x then y else x) = max x y := by
 rw [Int.max_def]
 split <;> split <;> omega
theorem fraise_at (N : Nat) (set : Bool) (at_ t : Int) : f_145 N set at_ t = some (true, raiseD set at_ t) := by
 unfold f_145 raiseD
 cases set with
 | false => rfl
 | true =>
  simp only [cond_true]
  rw [max_if]
theorem raiseD_rng {set : Bool} {at_ t : Int} (ha : R64 at_) (ht : R64 t) : R64 (raiseD set at_ t) := by
 unfold raiseD
 cases set with
 | false => exact ht
 | true =>
  show R64 (max t at_)
  rw [Int.max_def]; split <;> assumption
theorem raiseD_ge (set : Bool) (at_ t : Int) : t ≤ raiseD set at_ t := by
 unfold raiseD
 cases set with
 | false => exact Int.le_refl _
 | true => exact Int.le_max_left _ _
theorem ftake_at (N : Nat) (set : Bool) {at_ t : Int} (ha : R64 at_) (ht : R64 t) : f_76 N set at_ t = some (raiseD set at_ t, satI (raiseD set at_ t - t), (true, raiseD set at_ t)) := by
 unfold f_76
 rw [fraise_at]
 simp only [Option.bind_some]
 rw [nsubsat_at N (raiseD_rng ha ht) ht]; rfl
theorem timeB_rng {t : Int} (h : timeB t = true) : -4611686018427387904 < t ∧ t < 4611686018427387904 := by simpa [timeB] using h
theorem pauseB_rng {on : Bool} {a lost : Int} (h : pauseB on a lost = true) : (-4611686018427387904 < a ∧ a < 4611686018427387904) ∧ 0 ≤ lost ∧ lost ≤ 2305843009213693952 := by
 simp only [pauseB, Bool.and_eq_true, Bool.not_eq_true', decide_eq_false_iff_not] at h
 exact ⟨timeB_rng h.1, by omega, by omega⟩
theorem paumay_at (N : Nat) (on : Bool) {a : Int} (lost : Int) {t : Int} (ha : R64 a) (ht : R64 t) : f_146 N on a lost t = some (bif timeB t && pauseB on a lost then none else some 1) := by
 unfold f_146
 rw [paut_at N ht, pauchk_at N on lost ha]
 simp only [Option.bind_some]
 cases timeB t <;> rfl
def viewD (on : Bool) (a lost t : Int) : Int × Option Int :=
 if (timeB t && pauseB on a lost) = false then (0, some 1) else
 if timeB ((bif on then a else t) - lost) = true then ((bif on then a else t) - lost, none) else (0, some 2)
theorem pauview_at (N : Nat) (on : Bool) {a lost t : Int} (ha : R64 a) (ht : R64 t) (hl : R64 lost) : f_78 N on a lost t = some (viewD on a lost t) := by
 unfold f_78 viewD
 rw [paumay_at N on lost ha ht]
 simp only [Option.bind_some]
 cases hm : timeB t && pauseB on a lost with
 | false => rfl
 | true =>
  rw [Bool.and_eq_true] at hm
  obtain ⟨⟨a1, a2⟩, l1, l2⟩ := pauseB_rng hm.2
  obtain ⟨t1, t2⟩ := timeB_rng hm.1
  simp only [cond_true, Option.isNone_none, Bool.not_true, cond_false]
  rw [if_neg (show ¬ true = false by decide)]
  cases on with
  | false =>
   simp only [cond_false]
   rw [nsubsat_at N ht hl, satI_in (s := t - lost) ⟨by omega, by omega⟩]
   simp only [Option.bind_some]
   rw [paut_at N ⟨by omega, by omega⟩]
   simp only [Option.bind_some]
   cases timeB (t - lost) <;> rfl
  | true =>
   simp only [cond_true]
   rw [nsubsat_at N ha hl, satI_in (s := a - lost) ⟨by omega, by omega⟩]
   simp only [Option.bind_some]
   rw [paut_at N ⟨by omega, by omega⟩]
   simp only [Option.bind_some]
   cases timeB (a - lost) <;> rfl
end Go.Proofs.YthpljlpokmoeeaaGreatDoor.Mir
namespace Go.Proofs.YthpljlpokmoeeaaGreatDoor.Mir
open Go Go.RowKit
set_option maxRecDepth 100000
abbrev PageT := Int × Int × Int × Int × Int × Int × Int × Int × Int × Int
def facB (m s : Int) : Bool := decide (m > 0) && (decide (s ≥ 0) && decide (s ≤ 31))
theorem facB_ok {m s : Int} (h : facB m s = true) : 0 < m ∧ 0 ≤ s ∧ s ≤ 31 := by
 simp only [facB, Bool.and_eq_true, decide_eq_true_eq] at h; omega
def scaleD (m s n : Int) : Int × Option Int := bif facB m s then msP n m s else (0, some 1)
theorem pow2_pos (k : Nat) : (0 : Int) < 2 ^ k := by rw [natPow]; have := Nat.two_pow_pos k; omega
theorem scaleD_eq {m s n : Int} (h : facB m s = true) : scaleD m s n = fitP (n * m / 2 ^ s.toNat) := by
 have := facB_ok h
 unfold scaleD msP
 rw [h, cond_true, if_neg (by omega)]
theorem fitP_none {x : Int} (h : (fitP x).2 = none) : (fitP x).1 = x ∧ R64 x := by
 unfold fitP at h ⊢
 cases hb : i64B x with
 | true => exact ⟨rfl, i64B_iff.1 hb⟩
 | false => rw [hb] at h; cases h
theorem fitP_ok {x : Int} (h : R64 x) : fitP x = (x, none) := by
 unfold fitP
 rw [i64B_iff.2 h]; rfl
theorem scaleD_none {m s n : Int} (h : (scaleD m s n).2 = none) : facB m s = true ∧ (scaleD m s n).1 = n * m / 2 ^ s.toNat ∧ R64 (scaleD m s n).1 := by
 cases hf : facB m s with
 | false => unfold scaleD at h; rw [hf] at h; cases h
 | true =>
  rw [scaleD_eq hf] at h ⊢
  obtain ⟨h1, h2⟩ := fitP_none h
  exact ⟨rfl, h1, by rw [h1]; exact h2⟩
theorem scaleD_nn {m s n : Int} (h0 : 0 ≤ n) (h : (scaleD m s n).2 = none) : 0 ≤ (scaleD m s n).1 := by
 obtain ⟨h1, h2, _⟩ := scaleD_none h
 have := facB_ok h1
 rw [h2]
 exact Int.ediv_nonneg (Int.mul_nonneg h0 (by omega)) (Int.le_of_lt (pow2_pos _))
def pageB (p : PageT) : Bool := (decide (0 ≤ p.1) && decide (p.1 ≤ 1099511627776)) && ((decide (0 ≤ p.2.1) && decide (p.2.1 ≤ 1152921504606846976)) && ((decide (-4611686018427387904 < p.2.2.1) && decide (p.2.2.1 < 4611686018427387904)) && ((decide (0 ≤ p.2.2.2.1) && decide (p.2.2.2.1 ≤ 2305843009213693952)) && ((decide (0 ≤ p.2.2.2.2.2.2.2.2.1) && decide (p.2.2.2.2.2.2.2.2.1 ≤ 2097152)) && ((decide (1 ≤ p.2.2.2.2.2.2.2.2.2) && decide (p.2.2.2.2.2.2.2.2.2 ≤ 1125899906842624)) && (facB p.2.2.2.2.1 p.2.2.2.2.2.1 && facB p.2.2.2.2.2.2.1 p.2.2.2.2.2.2.2.1))))))
structure PageOk (p : PageT) : Prop where
 base : 0 ≤ p.2.1 ∧ p.2.1 ≤ 1152921504606846976
 tai : -4611686018427387904 < p.2.2.1 ∧ p.2.2.1 < 4611686018427387904
 err : 0 ≤ p.2.2.2.1 ∧ p.2.2.2.1 ≤ 2305843009213693952
 parts : 0 ≤ p.2.2.2.2.2.2.2.2.1 ∧ p.2.2.2.2.2.2.2.2.1 ≤ 2097152
 cap : 1 ≤ p.2.2.2.2.2.2.2.2.2 ∧ p.2.2.2.2.2.2.2.2.2 ≤ 1125899906842624
 go : facB p.2.2.2.2.1 p.2.2.2.2.2.1 = true
 pl : facB p.2.2.2.2.2.2.1 p.2.2.2.2.2.2.2.1 = true
theorem pageB_ok {p : PageT} (h : pageB p = true) : PageOk p := by
 simp only [pageB, Bool.and_eq_true, decide_eq_true_eq] at h
 obtain ⟨_, h1, h2, h3, h4, h5, h6, h7⟩ := h
 exact ⟨h1, h2, h3, h4, h5, h6, h7⟩
def upD (rho g : Int) : Int := -(-g * rho / 1073741824)
theorem upD_rng {rho g : Int} (r0 : 0 ≤ rho) (r1 : rho ≤ 2097152) (g0 : 0 ≤ g) (g1 : g < 9223372036854775808) : 0 ≤ upD rho g ∧ upD rho g ≤ 18014398509481984 := by
 have h1 : 0 ≤ g * rho := Int.mul_nonneg g0 r0
 have h2 : g * rho ≤ g * 2097152 := Int.mul_le_mul_of_nonneg_left r1 g0
 unfold upD
 rw [Int.neg_mul]
 omega
theorem satI_nn {a : Int} (h : 0 ≤ a) : 0 ≤ satI a := by
 unfold satI
 repeat' split
 all_goals omega
def atD (p : PageT) (n : Int) : Int × Option Int :=
 match (scaleD p.2.2.2.2.1 p.2.2.2.2.2.1 n).2 with
 | some e => (0, some e)
 | none => if 4611686018427387904 ≤ p.2.2.1 + (scaleD p.2.2.2.2.1 p.2.2.2.2.2.1 n).1 then (0, some 2) else (p.2.2.1 + (scaleD p.2.2.2.2.1 p.2.2.2.2.2.1 n).1, none)
def plainD (p : PageT) (n : Int) : Int × Option Int := scaleD p.2.2.2.2.2.2.1 p.2.2.2.2.2.2.2.1 n
def ageD (p : PageT) (n : Int) : Int := upD p.2.2.2.2.2.2.2.2.1 (satI ((plainD p n).1 + 1))
def fitD (p : PageT) (n : Int) : Int := n / 2 ^ (p.2.2.2.2.2.2.2.1).toNat
def offD (p : PageT) (n : Int) : Int := satI (satI (p.2.2.2.1 + ageD p n) + (fitD p n + 4))
def aheadD (p : PageT) (n : Int) : Int × Int × Option Int :=
 match (atD p n).2 with
 | some e => (0, 0, some e)
 | none => match (plainD p n).2 with
  | some e => (0, 0, some e)
  | none => ((atD p n).1, offD p n, none)
def timeD (p : PageT) (c : Int) : Int × Int × Option Int :=
 if pageB p = true then (if c < p.2.1 then (0, 0, some 10) else if c - p.2.1 > p.2.2.2.2.2.2.2.2.2 then (0, 0, some 14) else aheadD p (c - p.2.1)) else (0, 0, some 1)
theorem timeD_none {p : PageT} {c : Int} (h : (timeD p c).2.2 = none) : pageB p = true ∧ p.2.1 ≤ c ∧ c - p.2.1 ≤ p.2.2.2.2.2.2.2.2.2 ∧ (atD p (c - p.2.1)).2 = none ∧ (plainD p (c - p.2.1)).2 = none ∧ timeD p c = ((atD p (c - p.2.1)).1, offD p (c - p.2.1), none) := by
 unfold timeD at h ⊢
 by_cases h1 : pageB p = true
 ·rw [if_pos h1] at h ⊢
  by_cases h2 : c < p.2.1
  ·rw [if_pos h2] at h; cases h
  ·rw [if_neg h2] at h ⊢
   by_cases h3 : c - p.2.1 > p.2.2.2.2.2.2.2.2.2
   ·rw [if_pos h3] at h; cases h
   ·rw [if_neg h3] at h ⊢
    unfold aheadD at h ⊢
    generalize atD p (c - p.2.1) = A at h ⊢
    obtain ⟨a, e⟩ := A
    cases e with
    | some e => cases h
    | none =>
     simp only at h ⊢
     generalize hP : plainD p (c - p.2.1) = P at h ⊢
     obtain ⟨b, e⟩ := P
     cases e with
     | some e => cases h
     | none => exact ⟨h1, by omega, by omega, trivial, rfl, rfl⟩
 ·rw [if_neg h1] at h; cases h
abbrev PartsT := Int × Int × Int × Int × Int × Int × Int
def parts0 : PartsT := (0, 0, 0, 0, 0, 0, 0)
def partsV (p : PageT) (how : PolT) (n raised : Int) : PartsT := (p.2.2.2.1, ageD p n, fitD p n + 4, how.2.2.2.2.1, how.2.2.2.1 - 1, if how.1 = 0 then 1000000000 else 0, raised)
def partsD (p : PageT) (c : Int) (how : PolT) (raised : Int) : PartsT × Option Int :=
 if mayPT how = true then (if raised < 0 then (parts0, some 1) else match (timeD p c).2.2 with
  | some e => (parts0, some e)
  | none => (partsV p how (c - p.2.1) raised, none)) else (parts0, some 1)
def sumL (l : List Int) : Int := l.foldl (fun a x => satI (a + x)) 0
def sumP (v : PartsT) : Int := sumL [v.1, v.2.1, v.2.2.1, v.2.2.2.1, v.2.2.2.2.1, v.2.2.2.2.2.1, v.2.2.2.2.2.2]
def goodB (p : PageT) (how : PolT) (limit n : Int) : Bool := Option.isNone (partsD p (p.2.1 + n) how 0).2 && decide (sumP (partsD p (p.2.1 + n) how 0).1 ≤ limit)
theorem partsD_none {p : PageT} {c : Int} {how : PolT} {r : Int} (h : (partsD p c how r).2 = none) : mayPT how = true ∧ 0 ≤ r ∧ (timeD p c).2.2 = none ∧ partsD p c how r = (partsV p how (c - p.2.1) r, none) := by
 unfold partsD at h ⊢
 by_cases h1 : mayPT how = true
 ·rw [if_pos h1] at h ⊢
  by_cases h2 : r < 0
  ·rw [if_pos h2] at h; cases h
  ·rw [if_neg h2] at h ⊢
   generalize timeD p c = T at h ⊢
   obtain ⟨a, b, e⟩ := T
   cases e with
   | some e => cases h
   | none => exact ⟨h1, by omega, rfl, rfl⟩
 ·rw [if_neg h1] at h; cases h
theorem partsD_ok {p : PageT} {c : Int} {how : PolT} {r : Int} (h1 : mayPT how = true) (h2 : 0 ≤ r) (h3 : (timeD p c).2.2 = none) : partsD p c how r = (partsV p how (c - p.2.1) r, none) := by
 unfold partsD
 rw [if_pos h1, if_neg (by omega), h3]
theorem goodB_cap {p : PageT} {how : PolT} {limit n : Int} (h : goodB p how limit n = true) : n ≤ p.2.2.2.2.2.2.2.2.2 := by
 simp only [goodB, Bool.and_eq_true, Option.isNone_iff_eq_none] at h
 obtain ⟨_, _, m3, _⟩ := partsD_none h.1
 obtain ⟨_, _, hc, _⟩ := timeD_none m3
 omega
def Last (p : PageT) (how : PolT) (limit n : Int) : Prop := 0 ≤ n ∧ goodB p how limit n = true ∧ goodB p how limit (n + 1) = false
end Go.Proofs.YthpljlpokmoeeaaGreatDoor.Mir
namespace Go.Proofs.YthpljlpokmoeeaaGreatDoor.Mir
open Go Go.RowKit
set_option maxRecDepth 100000
theorem bindP {A B : Type} (o : Option A) (a : A) (k : A → Option B) (h : o = some a) : Option.bind o k = k a := by subst h; exact id rfl
def U64 (x : Int) : Prop := 0 ≤ x ∧ x < 18446744073709551616
theorem wu_U (x : Int) : U64 (IntKind.u64.wrap x) := wu64_lt x
def xr (a b : Int) : Int := ibits .xor .u64 a b
theorem xr_U (a b : Int) : U64 (xr a b) := wu64_lt _
def rotI (x : Int) (n : Nat) : Int := IntKind.u64.wrap (IntKind.u64.wrap (x * 2 ^ n) + x / 2 ^ (64 - n))
theorem rotI_U (x : Int) (n : Nat) : U64 (rotI x n) := wu64_lt _
theorem o64 {a b : Nat} (ha : a < 18446744073709551616) (hb : b < 18446744073709551616) : ibits .or .u64 (a : Int) (b : Int) = ((a ||| b : Nat) : Int) := by
 have h : a ||| b < 18446744073709551616 := Nat.or_lt_two_pow (n := 64) ha hb
 show IntKind.u64.wrap (((BitVec.ofInt 64 (a : Int) ||| BitVec.ofInt 64 (b : Int)).toNat : Nat) : Int) = _
 rw [BitVec.ofInt_natCast, BitVec.ofInt_natCast, BitVec.toNat_or, BitVec.toNat_ofNat, BitVec.toNat_ofNat, Nat.mod_eq_of_lt (by simpa using ha), Nat.mod_eq_of_lt (by simpa using hb)]
 exact wu64 (by omega) (by omega)
theorem rot_or {x n : Nat} (hx : x < 2 ^ 64) (hn : n ≤ 64) : ((x * 2 ^ n) % 2 ^ 64 ||| x / 2 ^ (64 - n) = (x * 2 ^ n) % 2 ^ 64 + x / 2 ^ (64 - n)) ∧ (x * 2 ^ n) % 2 ^ 64 + x / 2 ^ (64 - n) < 2 ^ 64 := by
 have h1 : 2 ^ n * 2 ^ (64 - n) = 2 ^ 64 := by rw [← Nat.pow_add]; congr 1; omega
 have h2 : (x * 2 ^ n) % 2 ^ 64 = 2 ^ n * (x % 2 ^ (64 - n)) := by rw [← h1, Nat.mul_comm x, Nat.mul_mod_mul_left]
 have h3 : x / 2 ^ (64 - n) < 2 ^ n := by
  rw [Nat.div_lt_iff_lt_mul (Nat.two_pow_pos _), h1]; exact hx
 rw [h2]
 refine ⟨(Nat.two_pow_add_eq_or_of_lt h3 _).symm, ?_⟩
 have h4 : x % 2 ^ (64 - n) + 1 ≤ 2 ^ (64 - n) := Nat.mod_lt _ (Nat.two_pow_pos _)
 have h5 := Nat.mul_le_mul_left (2 ^ n) h4
 rw [h1, Nat.mul_add, Nat.mul_one] at h5
 omega
theorem rotl_at (N : Nat) {x : Int} (h : U64 x) {n : Nat} (h1 : n ≤ 63) (hn : ibits .and .u64 (IntKind.u64.wrap (n : Int)) 63 = (n : Int)) : f_236 N x (n : Int) = some (rotI x n) := by
 unfold f_236 rotI
 rw [hn, decide_eq_false (show ¬ (n : Int) < 0 by omega), wu64 (n := 64 - (n : Int)) (by omega) (by omega), decide_eq_false (show ¬ 64 - (n : Int) < 0 by omega), show (64 : Int) - (n : Int) = ((64 - n : Nat) : Int) by omega]
 simp only [cond_false, Int.toNat_natCast]
 rw [show min n IntKind.u64.bits = n from Nat.min_eq_left (show n ≤ 64 by omega), show min (64 - n) IntKind.u64.bits = 64 - n from Nat.min_eq_left (show 64 - n ≤ 64 by omega)]
 obtain ⟨X, rfl⟩ : ∃ X : Nat, x = (X : Int) := ⟨x.toNat, by have := h.1; omega⟩
 have hX : X < 2 ^ 64 := by have := h.2; omega
 obtain ⟨e1, e2⟩ := rot_or hX (show n ≤ 64 by omega)
 have c1 : ((X * 2 ^ n : Nat) : Int) = (X : Int) * 2 ^ n := by rw [Int.natCast_mul, Int.natCast_pow]; rfl
 have c2 : ((X / 2 ^ (64 - n) : Nat) : Int) = (X : Int) / 2 ^ (64 - n) := by rw [Int.natCast_ediv, Int.natCast_pow]; rfl
 rw [← c1, ← c2]
 generalize X * 2 ^ n = Y at e1 e2 ⊢
 generalize X / 2 ^ (64 - n) = Z at e1 e2 ⊢
 have a1 : IntKind.u64.wrap (Y : Int) = ((Y % 2 ^ 64 : Nat) : Int) := by rw [IntKind.wrap_u64]; omega
 rw [a1, o64 (by omega) (by omega), e1, ← Int.natCast_add, wu64 (by omega) (by omega)]
theorem turn_at (N : Nat) {x : Int} (h : U64 x) {n : Nat} (h1 : n ≤ 63) (hn : ibits .and .u64 (IntKind.u64.wrap (n : Int)) 63 = (n : Int)) : f_233 N x (n : Int) = some (rotI x n) := by
 unfold f_233
 rw [rotl_at N h h1 hn]; rfl
abbrev SipT := Int × Int × Int × Int
def SipOk (s : SipT) : Prop := U64 s.1 ∧ U64 s.2.1 ∧ U64 s.2.2.1 ∧ U64 s.2.2.2
def sipA (s : SipT) : Int := IntKind.u64.wrap (s.1 + s.2.1)
def sipB1 (s : SipT) : Int := xr (rotI s.2.1 13) (sipA s)
def sipC (s : SipT) : Int := IntKind.u64.wrap (s.2.2.1 + s.2.2.2)
def sipD1 (s : SipT) : Int := xr (rotI s.2.2.2 16) (sipC s)
def sipA3 (s : SipT) : Int := IntKind.u64.wrap (rotI (sipA s) 32 + sipD1 s)
def sipD2 (s : SipT) : Int := xr (rotI (sipD1 s) 21) (sipA3 s)
def sipC2 (s : SipT) : Int := IntKind.u64.wrap (sipC s + sipB1 s)
def sipB2 (s : SipT) : Int := xr (rotI (sipB1 s) 17) (sipC2 s)
def sipR (s : SipT) : SipT := (sipA3 s, sipB2 s, rotI (sipC2 s) 32, sipD2 s)
theorem sipR_ok (s : SipT) : SipOk (sipR s) := ⟨wu_U _, xr_U _ _, rotI_U _ _, xr_U _ _⟩
def sipN : Nat → SipT → SipT
 | 0, s => s
 | n + 1, s => sipN n (sipR s)
theorem sipN_ok : ∀ (n : Nat) {s : SipT}, SipOk s → SipOk (sipN n s)
 | 0, _, h => h
 | n + 1, _, _ => sipN_ok n (sipR_ok _)
theorem rounds_loop (N n : Nat) (hn : n ≤ 100) : ∀ (k M i : Nat) (s : SipT), i + k = n → k < M → SipOk s → iter (b_224_0 N) M ((), (n : Int), (i : Int), s) = some (sipN k s) := by
 intro k
 induction k with
 | zero =>
  intro M i s hi hM _
  obtain ⟨M, rfl⟩ : ∃ m, M = m + 1 := ⟨M - 1, by omega⟩
  obtain ⟨a, b, c, d⟩ := s
  show b_224_0 N (iter (b_224_0 N) M) _ = _
  generalize iter (b_224_0 N) M = T
  unfold b_224_0
  simp only
  rw [decide_eq_false (show ¬ (i : Int) < (n : Int) by omega)]; rfl
 | succ k ih =>
  intro M i s hi hM hs
  obtain ⟨M, rfl⟩ : ∃ m, M = m + 1 := ⟨M - 1, by omega⟩
  have key := ih M (i + 1) (sipR s) (by omega) (by omega) (sipR_ok s)
  obtain ⟨a, b, c, d⟩ := s
  obtain ⟨ha, hb, hc, hd⟩ := hs
  show b_224_0 N (iter (b_224_0 N) M) _ = _
  generalize iter (b_224_0 N) M = T at key ⊢
  unfold b_224_0
  simp only
  rw [decide_eq_true (show (i : Int) < (n : Int) by omega)]
  simp only [cond_true]
  refine (bindP _ _ _ (turn_at N (n := 13) hb (by decide) (by decide))).trans ?_
  refine (bindP _ _ _ (turn_at N (n := 32) (wu_U _) (by decide) (by decide))).trans ?_
  refine (bindP _ _ _ (turn_at N (n := 16) hd (by decide) (by decide))).trans ?_
  refine (bindP _ _ _ (turn_at N (n := 21) (xr_U _ _) (by decide) (by decide))).trans ?_
  refine (bindP _ _ _ (turn_at N (n := 17) (xr_U _ _) (by decide) (by decide))).trans ?_
  refine (bindP _ _ _ (turn_at N (n := 32) (wu_U _) (by decide) (by decide))).trans ?_
  rw [wi64 (n := (i : Int) + 1) (by omega) (by omega), show (i : Int) + 1 = ((i + 1 : Nat) : Int) by omega]
  exact key
theorem rounds_at {N n : Nat} (hn : n ≤ 100) (hN : n < N) {s : SipT} (h : SipOk s) : f_224 N (n : Int) s.1 s.2.1 s.2.2.1 s.2.2.2 = some (sipN n s) := by
 unfold f_224 l_224_0
 have hl := rounds_loop N n hn n N 0 s (by omega) hN h
 rw [show iter (b_224_0 N) N ((), (n : Int), 0, (s.1, s.2.1, s.2.2.1, s.2.2.2)) = _ from hl]; rfl
def sipT (s : SipT) (w : Int) : SipT := (xr (sipN 2 (s.1, s.2.1, s.2.2.1, xr s.2.2.2 w)).1 w, (sipN 2 (s.1, s.2.1, s.2.2.1, xr s.2.2.2 w)).2)
theorem sipT_ok {s : SipT} (h : SipOk s) (w : Int) : SipOk (sipT s w) := by
 have := sipN_ok 2 (s := (s.1, s.2.1, s.2.2.1, xr s.2.2.2 w)) ⟨h.1, h.2.1, h.2.2.1, xr_U _ _⟩
 exact ⟨xr_U _ _, this.2⟩
theorem take_at {N : Nat} (hN : 3 ≤ N) {s : SipT} (h : SipOk s) (w : Int) : f_223 N w s.1 s.2.1 s.2.2.1 s.2.2.2 = some (sipT s w) := by
 unfold f_223
 refine (bindP _ _ _ (rounds_at (N := N) (n := 2) (by omega) (by omega) (s := (s.1, s.2.1, s.2.2.1, xr s.2.2.2 w)) ⟨h.1, h.2.1, h.2.2.1, xr_U _ _⟩)).trans ?_
 rfl
theorem ofLe8_U {zs : List Int} (h : By zs) (hl : zs.length = 8) : U64 (ofLe zs) := by
 have := tk_lt (n := 8) (s := (zs, false)) h
 rw [tk_ok (by omega), List.take_of_length_le (by omega)] at this
 exact ⟨this.1, by simpa using this.2⟩
theorem wu_wi {v : Int} (h : U64 v) : IntKind.u64.wrap (IntKind.i64.wrap v) = v := by
 obtain ⟨h1, h2⟩ := h
 rw [IntKind.wrap_u64, IntKind.wrap_i64]; omega
theorem word_at (N : Nat) {zs : List Int} (h : By zs) (hl : zs.length = 8) : f_222 N zs = some (ofLe zs) := by
 unfold f_222
 refine (bindP _ _ _ (new_at N (by omega))).trans ?_
 refine (bindP _ _ _ (i64_at N h)).trans ?_
 rw [tk_ok (by omega), List.take_of_length_le (by omega)]
 simp only
 rw [wu_wi (ofLe8_U h hl)]
end Go.Proofs.YthpljlpokmoeeaaGreatDoor.Mir
namespace Go.Proofs.YthpljlpokmoeeaaGreatDoor.Mir
open Go Go.RowKit
set_option maxRecDepth 100000
def sip0 (k : List Int) : SipT := (xr (ofLe (k.take 8)) 8317987319222330741, xr (ofLe ((k.take 16).drop 8)) 7237128888997146477, xr (ofLe (k.take 8)) 7816392313619706465, xr (ofLe ((k.take 16).drop 8)) 8387220255154660723)
def sipE (s : SipT) : Int := xr (xr (xr (sipN 4 (s.1, s.2.1, xr s.2.2.1 255, s.2.2.2)).1 (sipN 4 (s.1, s.2.1, xr s.2.2.1 255, s.2.2.2)).2.1) (sipN 4 (s.1, s.2.1, xr s.2.2.1 255, s.2.2.2)).2.2.1) (sipN 4 (s.1, s.2.1, xr s.2.2.1 255, s.2.2.2)).2.2.2
def sip8 (k b : List Int) : Int := sipE (sipT (sipT (sip0 k) (ofLe b)) (ofLe [0, 0, 0, 0, 0, 0, 0, 8]))
theorem sipOk_mk {a b c d : Int} (ha : U64 a) (hb : U64 b) (hc : U64 c) (hd : U64 d) : SipOk (a, b, c, d) := ⟨ha, hb, hc, hd⟩
theorem sip0_ok (k : List Int) : SipOk (sip0 k) := ⟨xr_U _ _, xr_U _ _, xr_U _ _, xr_U _ _⟩
theorem sip8_U (k b : List Int) : U64 (sip8 k b) := xr_U _ _
theorem by08 : By [0, 0, 0, 0, 0, 0, 0, 8] := fun x hx => by simp at hx; omega
theorem rounds4 {N : Nat} (hN : 20 ≤ N) {a b c d : Int} (h : SipOk (a, b, c, d)) : f_224 N 4 a b c d = some (sipN 4 (a, b, c, d)) := rounds_at (N := N) (n := 4) (by omega) (by omega) h
theorem psum_end (q : Option SipT) (R : SipT) (h : q = some R) : (q.bind fun r => some (ibits .xor .u64 (ibits .xor .u64 (ibits .xor .u64 r.1 r.2.1) r.2.2.1) r.2.2.2)) = some (xr (xr (xr R.1 R.2.1) R.2.2.1) R.2.2.2) := by
 subst h
 unfold xr
 rfl
theorem psum_at {N : Nat} (hN : 20 ≤ N) {k b : List Int} (hk : By k) (hkl : k.length = 16) (hb : By b) (hbl : b.length = 8) : f_215 N k b = some (sip8 k b) := by
 unfold f_215
 refine (bindP _ _ _ (word_at N (zs := (k.take 8).drop 0) ((hk.take 8).drop 0) (by simp; omega))).trans ?_
 refine (bindP _ _ _ (word_at N (zs := (k.take 16).drop 8) ((hk.take 16).drop 8) (by simp; omega))).trans ?_
 rw [List.drop_zero]
 have hlp : l_215_0 N (b, (), (b.length : Int), sip0 k) = some ([], (), (b.length : Int), sipT (sip0 k) (ofLe b)) := by
  unfold l_215_0
  obtain ⟨M, rfl⟩ : ∃ m, N = m + 2 := ⟨N - 2, by omega⟩
  show b_215_0 (M + 2) (b_215_0 (M + 2) (iter (b_215_0 (M + 2)) M)) _ = _
  generalize iter (b_215_0 (M + 2)) M = T
  have hend : ∀ s : SipT, b_215_0 (M + 2) T ([], (), (b.length : Int), s) = some ([], (), (b.length : Int), s) := fun s => by
   obtain ⟨s1, s2, s3, s4⟩ := s
   unfold b_215_0
   rfl
  generalize hT : b_215_0 (M + 2) T = T2 at hend ⊢
  have h0 := sip0_ok k
  generalize sip0 k = s at h0 ⊢
  obtain ⟨s1, s2, s3, s4⟩ := s
  unfold b_215_0
  simp only
  rw [decide_eq_true (show (b.length : Int) ≥ 8 by omega), decide_eq_true (show 0 ≤ (8 : Int) ∧ (8 : Int) ≤ (b.length : Int) by omega), decide_eq_true (show 0 ≤ (0 : Int) ∧ (0 : Int) ≤ (8 : Int) by omega), decide_eq_true (show 0 ≤ (b.length : Int) ∧ (b.length : Int) ≤ (b.length : Int) by omega)]
  simp only [cond_true]
  rw [show Int.toNat 8 = 8 from rfl, show Int.toNat 0 = 0 from rfl, List.drop_zero, List.take_of_length_le (show b.length ≤ 8 by omega)]
  refine (bindP _ _ _ (word_at (M + 2) hb hbl)).trans ?_
  refine (bindP _ _ _ (take_at (by omega) h0 (ofLe b))).trans ?_
  rw [Int.toNat_natCast, List.take_length, List.drop_eq_nil_of_le (by omega)]
  exact hend _
 refine (bindP _ _ _ hlp).trans ?_
 simp only
 rw [decide_eq_true (show ([] : List Int).length ≤ 8 by decide)]
 simp only [cond_true]
 have e8 : List.drop 0 (List.take 8 (List.set (List.take 0 [0, 0, 0, 0, 0, 0, 0, 0] ++ ([] ++ List.drop (0 + ([] : List Int).length) [0, 0, 0, 0, 0, 0, 0, 0])) (Int.toNat 7) (IntKind.u8.wrap (b.length : Int)))) = [0, 0, 0, 0, 0, 0, 0, 8] := by rw [hbl]; rfl
 rw [e8]
 refine (bindP _ _ _ (word_at N by08 rfl)).trans ?_
 have h1 := sipT_ok (sip0_ok k) (ofLe b)
 unfold sip8
 generalize sipT (sip0 k) (ofLe b) = s1 at h1 ⊢
 refine (bindP _ _ _ (take_at (by omega) h1 (ofLe [0, 0, 0, 0, 0, 0, 0, 8]))).trans ?_
 have h2 := sipT_ok h1 (ofLe [0, 0, 0, 0, 0, 0, 0, 8])
 generalize sipT s1 (ofLe [0, 0, 0, 0, 0, 0, 0, 8]) = s2 at h2 ⊢
 obtain ⟨a, b, c, d⟩ := s2
 obtain ⟨ha, hb, hc, hd⟩ := h2
 simp only at ha hb hc hd ⊢
 rw [show ibits .xor .u64 c 255 = xr c 255 from (xr.eq_1 _ _).symm]
 have hz : U64 (xr c 255) := xr_U _ _
 unfold sipE
 simp only
 generalize xr c 255 = z at hz ⊢
 have h4 := rounds4 hN (sipOk_mk ha hb hz hd)
 generalize f_224 N 4 a b z d = q at h4 ⊢
 generalize sipN 4 (a, b, z, d) = R at h4 ⊢
 clear hlp e8 h1 hk hkl hbl
 exact psum_end q R h4
def numS (k : List Int) (place limit : Int) : Int := sip8 k (le 8 (IntKind.u64.wrap place)) % (limit + 1)
theorem numS_rng (k : List Int) (place : Int) {limit : Int} (h : 0 ≤ limit) : 0 ≤ numS k place limit ∧ numS k place limit ≤ limit := by
 unfold numS
 have h1 := Int.emod_nonneg (sip8 k (le 8 (IntKind.u64.wrap place))) (show limit + 1 ≠ 0 by omega)
 have h2 := Int.emod_lt_of_pos (sip8 k (le 8 (IntKind.u64.wrap place))) (show 0 < limit + 1 by omega)
 omega
theorem pnumber_at {N : Nat} (hN : 20 ≤ N) {k : List Int} (hk : By k) (hkl : k.length = 16) (place : Int) {limit : Int} (h0 : 0 ≤ limit) (h1 : limit < 1000000000000000) : f_201 N k place limit = some (numS k place limit) := by
 unfold f_201
 refine (bindP _ _ _ (pi64_at (N := N) (b := []) (v := place) (by omega) (by simp))).trans ?_
 rw [List.nil_append]
 refine (bindP _ _ _ (psum_at hN hk hkl (le_by 8 _) (le_len 8 _))).trans ?_
 have hU := sip8_U k (le 8 (IntKind.u64.wrap place))
 rw [wu64 (n := limit + 1) (by omega) (by omega), show (limit + 1 == 0) = false by simp; omega, decide_eq_false (show ¬ limit + 1 = 0 by omega)]
 simp only [cond_false]
 rw [Int.tmod_eq_emod_of_nonneg hU.1]; rfl
theorem umayB_rng {w c : Int} (h : umayB w c = true) : (0 ≤ w ∧ w ≤ 1099511627776) ∧ 1 ≤ c ∧ c ≤ 1125899906842624 := by
 simp only [umayB, Bool.and_eq_true, Bool.not_eq_true', decide_eq_false_iff_not] at h
 omega
def fuzzD (w c : Int) (k : List Int) (t : Int) : Int × Option Int := if umayB w c = true then fit64 (t - numS k (t / c) w) else (0, some 1)
theorem uat_at {N : Nat} (hN : 20 ≤ N) (w c : Int) {k : List Int} (hk : By k) (hkl : k.length = 16) {t : Int} (ht : R64 t) : f_143 N w c k t = some (fuzzD w c k t) := by
 unfold f_143 f_184 fuzzD
 rw [uchk_at]
 simp only [Option.bind_some]
 cases h : umayB w c with
 | false => rfl
 | true =>
  obtain ⟨h1, h2⟩ := umayB_rng h
  simp only [cond_true, Option.isNone_none, Bool.not_true, cond_false, if_true]
  rw [ndiv_at N ht h2.1 (by omega)]
  simp only [Option.bind_some, Option.isNone_none, Bool.not_true, cond_false]
  rw [wu64 (n := w) (by omega) (by omega), pnumber_at hN hk hkl (t / c) h1.1 (by omega)]
  simp only [Option.bind_some, Option.isNone_none, Bool.not_true, cond_false]
  have hr := numS_rng k (t / c) h1.1
  rw [wi64 (n := numS k (t / c) w) (by omega) (by omega), nsub_at N ht ⟨by omega, by omega⟩]; rfl
end Go.Proofs.YthpljlpokmoeeaaGreatDoor.Mir
namespace Go.Proofs.YthpljlpokmoeeaaGreatDoor.Mir
open Go Go.RowKit
set_option maxRecDepth 100000
theorem ratchk_at (N : Nat) {m s : Int} (hm : 0 ≤ m) : f_102 N m s = some (bif facB m s then none else some 1) := by
 unfold f_102 facB
 by_cases h1 : m = 0
 ·subst h1; rfl
 ·rw [show (m == 0) = false by simpa using h1, decide_eq_true (show m > 0 by omega)]
  by_cases h2 : s < 0
  ·rw [decide_eq_true h2, decide_eq_false (show ¬ s ≥ 0 by omega)]; rfl
  ·rw [decide_eq_false h2, decide_eq_true (show s ≥ 0 by omega)]
   by_cases h3 : s > 31
   ·rw [decide_eq_true h3, decide_eq_false (show ¬ s ≤ 31 by omega)]; rfl
   ·rw [decide_eq_false h3, decide_eq_true (show s ≤ 31 by omega)]; rfl
theorem msF_at {a m s : Int} (ha : R64 a) (h0 : 0 ≤ m) (h1 : m < 4294967296) : msF a m s = some (msP a m s) := by
 unfold msF
 rw [i64B_iff.2 ha, u32B_iff.2 ⟨h0, h1⟩]; rfl
theorem mdF_at {a b c : Int} (ha : R64 a) (hb : R64 b) (hc : R64 c) (h : 1 ≤ c) : mdF a b c = some (fitP (a * b / c)) := by
 unfold mdF
 rw [i64B_iff.2 ha, i64B_iff.2 hb, i64B_iff.2 hc, decide_eq_false (show ¬ c < 1 by omega)]; rfl
theorem scale_at (N : Nat) {m n : Int} (s : Int) (hm : 0 ≤ m) (hm2 : m < 4294967296) (hn : R64 n) : f_50 N m s n = some (scaleD m s n) := by
 unfold f_50 scaleD
 refine (bindP _ _ _ (ratchk_at N hm)).trans ?_
 cases facB m s with
 | false => rfl
 | true =>
  simp only [cond_true, Option.isNone_none, Bool.not_true, cond_false]
  exact (bindP _ _ _ (msF_at hn hm hm2)).trans rfl
theorem from_at (N : Nat) (n l : Int) : f_100 N n l = some (decide (0 ≤ n) && decide (n ≤ l)) := by
 unfold f_100
 by_cases h : 0 ≤ n
 ·rw [decide_eq_true (show n ≥ 0 from h)]; rfl
 ·rw [decide_eq_false (show ¬ n ≥ 0 from h)]; rfl
theorem nsize_at (N : Nat) {a : Int} (ha : R64 a) : f_101 N a = some (if a < 0 then satI (0 - a) else a) := by
 unfold f_101
 by_cases h : a < 0
 ·rw [decide_eq_true h, if_pos h, cond_true, nsubsat_at N ⟨by decide, by decide⟩ ha]; rfl
 ·rw [decide_eq_false h, if_neg h]; rfl
structure PageW (p : PageT) : Prop where
 base : R64 (p.2.1)
 tai : R64 (p.2.2.1)
 gm : 0 ≤ p.2.2.2.2.1 ∧ p.2.2.2.2.1 < 4294967296
 gs : R64 (p.2.2.2.2.2.1)
 pm : 0 ≤ p.2.2.2.2.2.2.1 ∧ p.2.2.2.2.2.2.1 < 4294967296
 ps : R64 (p.2.2.2.2.2.2.2.1)
theorem size_far {a : Int} (ha : R64 a) : decide ((if a < 0 then satI (0 - a) else a) ≥ 4611686018427387904) = !(decide (-4611686018427387904 < a) && decide (a < 4611686018427387904)) := by
 obtain ⟨a0, a1⟩ := ha
 have e : ((if a < 0 then satI (0 - a) else a) ≥ 4611686018427387904) ↔ ¬ (-4611686018427387904 < a ∧ a < 4611686018427387904) := by
  unfold satI
  repeat' split
  all_goals omega
 by_cases h : -4611686018427387904 < a ∧ a < 4611686018427387904
 ·rw [decide_eq_false (fun q => (e.1 q) h), decide_eq_true h.1, decide_eq_true h.2]; rfl
 ·rw [decide_eq_true (e.2 h)]
  by_cases h1 : -4611686018427387904 < a
  ·rw [decide_eq_true h1, decide_eq_false (fun q => h ⟨h1, q⟩)]; rfl
  ·rw [decide_eq_false h1]; rfl
theorem cap_far (a : Int) : (decide (1 ≤ a) = !decide (a < 1)) ∧ (decide (a ≤ 1125899906842624) = !decide (a > 1125899906842624)) := by
 constructor
 ·by_cases h : a < 1
  ·rw [decide_eq_true h, decide_eq_false (show ¬ 1 ≤ a by omega)]; rfl
  ·rw [decide_eq_false h, decide_eq_true (show 1 ≤ a by omega)]; rfl
 ·by_cases h : a > 1125899906842624
  ·rw [decide_eq_true h, decide_eq_false (show ¬ a ≤ 1125899906842624 by omega)]; rfl
  ·rw [decide_eq_false h, decide_eq_true (show a ≤ 1125899906842624 by omega)]; rfl
theorem pgchk_at (N : Nat) {p : PageT} (w : PageW p) : f_44 N p.1 p.2.1 p.2.2.1 p.2.2.2.1 p.2.2.2.2.1 p.2.2.2.2.2.1 p.2.2.2.2.2.2.1 p.2.2.2.2.2.2.2.1 p.2.2.2.2.2.2.2.2.1 p.2.2.2.2.2.2.2.2.2 = some (bif pageB p then none else some 1) := by
 unfold f_44 pageB
 rw [from_at, from_at, from_at, from_at, nsize_at N w.tai, ratchk_at N w.gm.1, ratchk_at N w.pm.1, (cap_far _).1, (cap_far _).2]
 simp only [Option.bind_some, size_far w.tai]
 generalize (decide (0 ≤ p.1) && decide (p.1 ≤ 1099511627776)) = c1
 generalize (decide (0 ≤ p.2.1) && decide (p.2.1 ≤ 1152921504606846976)) = c2
 generalize (decide (-4611686018427387904 < p.2.2.1) && decide (p.2.2.1 < 4611686018427387904)) = c3
 generalize (decide (0 ≤ p.2.2.2.1) && decide (p.2.2.2.1 ≤ 2305843009213693952)) = c4
 generalize (decide (0 ≤ p.2.2.2.2.2.2.2.2.1) && decide (p.2.2.2.2.2.2.2.2.1 ≤ 2097152)) = c5
 generalize decide (p.2.2.2.2.2.2.2.2.2 < 1) = c6
 generalize decide (p.2.2.2.2.2.2.2.2.2 > 1125899906842624) = c7
 generalize facB p.2.2.2.2.1 p.2.2.2.2.2.1 = c8
 generalize facB p.2.2.2.2.2.2.1 p.2.2.2.2.2.2.2.1 = c9
 cases c1 <;> cases c2 <;> cases c3 <;> cases c4 <;> cases c5 <;> cases c6 <;> cases c7 <;> cases c8 <;> cases c9 <;> rfl
theorem dgrow_at (N : Nat) {e rho g : Int} (e0 : 0 ≤ e) (e1 : R64 e) (r0 : 0 ≤ rho) (r1 : rho ≤ 2097152) (g0 : 0 ≤ g) (g1 : R64 g) : f_165 N e rho g = some (satI (e + upD rho g), none) := by
 obtain ⟨u0, u1⟩ := upD_rng r0 r1 g0 g1.2
 have hm : (0 - g) * rho / 1073741824 = -upD rho g := by unfold upD; rw [show (0 : Int) - g = -g by omega]; omega
 have hg := g1.2
 unfold f_165 f_197
 rw [decide_eq_false (show ¬ e < 0 by omega), decide_eq_false (show ¬ rho < 0 by omega), decide_eq_false (show ¬ rho > 2097152 by omega), decide_eq_false (show ¬ g < 0 by omega), wi64 (n := 0 - g) (by omega) (by omega)]
 simp only [cond_false, Option.bind_some]
 refine (bindP _ _ _ (mdF_at ⟨by omega, by omega⟩ ⟨by omega, by omega⟩ ⟨by decide, by decide⟩ (by decide))).trans ?_
 rw [hm, fitP_ok ⟨by omega, by omega⟩]
 simp only [Option.isNone_none, Bool.not_true, cond_false]
 rw [nsubsat_at N e1 ⟨by omega, by omega⟩, show e - -upD rho g = e + upD rho g by omega]; rfl
theorem min_bits {s : Int} (h : s ≤ 31) : min s.toNat IntKind.i64.bits = s.toNat := Nat.min_eq_left (show s.toNat ≤ 64 by omega)
theorem fit_rng {s n : Int} (h0 : 0 ≤ n) (h1 : n ≤ 1125899906842624) : 0 ≤ n / 2 ^ s.toNat ∧ n / 2 ^ s.toNat ≤ 1125899906842624 :=
 ⟨Int.ediv_nonneg h0 (Int.le_of_lt (pow2_pos _)), Int.le_trans (Int.ediv_le_self _ h0) h1⟩
theorem ratoff_at (N : Nat) {m s n : Int} (hm : 0 ≤ m) (hf : facB m s = true) (h0 : 0 ≤ n) (h1 : n ≤ 1125899906842624) : f_166 N m s n = some (n / 2 ^ s.toNat + 2, none) := by
 have hs := facB_ok hf
 obtain ⟨q0, q1⟩ := fit_rng (s := s) h0 h1
 unfold f_166
 refine (bindP _ _ _ (ratchk_at N hm)).trans ?_
 rw [hf, decide_eq_false (show ¬ n < 0 by omega), decide_eq_false (show ¬ s < 0 by omega), min_bits hs.2.2]
 simp only [cond_true, Option.isNone_none, Bool.not_true, cond_false]
 rw [nadd_at N ⟨by omega, by omega⟩ ⟨by decide, by decide⟩]
 unfold fit64
 rw [rB_t ⟨by omega, by omega⟩]; rfl
theorem plain_R64 {p : PageT} {n : Int} (h : (plainD p n).2 = none) : R64 (plainD p n).1 := (scaleD_none h).2.2
theorem sat1_nn {x : Int} (h : 0 ≤ x) : 0 ≤ satI (x + 1) := satI_nn (by omega)
theorem ageD_rng {p : PageT} (k : PageOk p) {n : Int} (h0 : 0 ≤ n) (h : (plainD p n).2 = none) : 0 ≤ ageD p n ∧ ageD p n ≤ 18014398509481984 :=
 upD_rng k.parts.1 k.parts.2 (sat1_nn (scaleD_nn h0 h)) (satI_rng _).2
theorem ahoff_at (N : Nat) {p : PageT} (w : PageW p) (k : PageOk p) {n : Int} (h0 : 0 ≤ n) (h1 : n ≤ 1125899906842624) :
  f_105 N p.1 p.2.1 p.2.2.1 p.2.2.2.1 p.2.2.2.2.1 p.2.2.2.2.2.1 p.2.2.2.2.2.2.1 p.2.2.2.2.2.2.2.1 p.2.2.2.2.2.2.2.2.1 p.2.2.2.2.2.2.2.2.2 n = some (match (plainD p n).2 with | some e => (0, some e) | none => (offD p n, none)) := by
 unfold f_105
 refine (bindP _ _ _ (scale_at N _ w.pm.1 w.pm.2 ⟨by omega, by omega⟩)).trans ?_
 have hr := fun h => plain_R64 (p := p) (n := n) h
 have hn := fun h => scaleD_nn (m := p.2.2.2.2.2.2.1) (s := p.2.2.2.2.2.2.2.1) h0 h
 have ha := fun h => ageD_rng k h0 h
 obtain ⟨q0, q1⟩ := fit_rng (s := p.2.2.2.2.2.2.2.1) h0 h1
 unfold offD ageD fitD
 unfold ageD at ha
 unfold plainD at hr ha ⊢
 generalize scaleD p.2.2.2.2.2.2.1 p.2.2.2.2.2.2.2.1 n = V at hr hn ha ⊢
 obtain ⟨x, e⟩ := V
 cases e with
 | some e => rfl
 | none =>
  have hr := hr rfl
  have hn := hn rfl
  have ha := ha rfl
  have ke := k.err
  simp only [Option.isNone_none, Bool.not_true, cond_false] at hr hn ha ⊢
  refine (bindP _ _ _ (naddsat_at N hr ⟨by decide, by decide⟩)).trans ?_
  refine (bindP _ _ _ (dgrow_at N ke.1 ⟨by omega, by omega⟩ k.parts.1 k.parts.2 (sat1_nn hn) (satI_rng _))).trans ?_
  simp only [Option.isNone_none, Bool.not_true, cond_false]
  refine (bindP _ _ _ (ratoff_at N w.pm.1 k.pl h0 h1)).trans ?_
  simp only [Option.isNone_none, Bool.not_true, cond_false]
  rw [naddsat_at N ⟨by omega, by omega⟩ ⟨by decide, by decide⟩, satI_in (s := n / 2 ^ (p.2.2.2.2.2.2.2.1).toNat + 2 + 2) ⟨by omega, by omega⟩]
  simp only [Option.bind_some]
  rw [naddsat_at N (satI_rng _) ⟨by omega, by omega⟩, show n / 2 ^ (p.2.2.2.2.2.2.2.1).toNat + 2 + 2 = n / 2 ^ (p.2.2.2.2.2.2.2.1).toNat + 4 by omega]; rfl
theorem ahat_at (N : Nat) {p : PageT} (w : PageW p) (k : PageOk p) {n : Int} (h0 : 0 ≤ n) (h1 : n ≤ 1125899906842624) : f_104 N p.1 p.2.1 p.2.2.1 p.2.2.2.1 p.2.2.2.2.1 p.2.2.2.2.2.1 p.2.2.2.2.2.2.1 p.2.2.2.2.2.2.2.1 p.2.2.2.2.2.2.2.2.1 p.2.2.2.2.2.2.2.2.2 n = some (atD p n) := by
 unfold f_104 atD
 refine (bindP _ _ _ (scale_at N _ w.gm.1 w.gm.2 ⟨by omega, by omega⟩)).trans ?_
 have hr := fun h => (scaleD_none (m := p.2.2.2.2.1) (s := p.2.2.2.2.2.1) (n := n) h).2.2
 have hn := fun h => scaleD_nn (m := p.2.2.2.2.1) (s := p.2.2.2.2.2.1) h0 h
 generalize scaleD p.2.2.2.2.1 p.2.2.2.2.2.1 n = V at hr hn ⊢
 obtain ⟨x, e⟩ := V
 cases e with
 | some e => rfl
 | none =>
  have hr := hr rfl
  have hn := hn rfl
  have kt := k.tai
  simp only [Option.isNone_none, Bool.not_true, cond_false] at hr hn ⊢
  rw [nadd_at N ⟨by omega, by omega⟩ hr]
  simp only [Option.bind_some]
  obtain ⟨r0, r1⟩ := hr
  unfold fit64
  by_cases hb : R64 (p.2.2.1 + x)
  ·rw [rB_t hb]
   simp only [cond_true, Option.isNone_none, Bool.not_true, cond_false]
   by_cases h : 4611686018427387904 ≤ p.2.2.1 + x
   ·rw [if_pos h, decide_eq_true (show p.2.2.1 + x ≥ 4611686018427387904 from h)]; rfl
   ·rw [if_neg h, decide_eq_false (show ¬ p.2.2.1 + x ≥ 4611686018427387904 from h)]; rfl
  ·rw [rB_f hb, if_pos (by unfold R64 at hb; omega)]; rfl
theorem ahtime_at (N : Nat) {p : PageT} (w : PageW p) {c : Int} (hc : R64 c) : f_45 N p.1 p.2.1 p.2.2.1 p.2.2.2.1 p.2.2.2.2.1 p.2.2.2.2.2.1 p.2.2.2.2.2.2.1 p.2.2.2.2.2.2.2.1 p.2.2.2.2.2.2.2.2.1 p.2.2.2.2.2.2.2.2.2 c = some (timeD p c) := by
 unfold f_45 f_103 timeD
 rw [pgchk_at N w]
 simp only [Option.bind_some]
 cases hp : pageB p with
 | false => rfl
 | true =>
  have k := pageB_ok hp
  have kb := k.base
  have kc := k.cap
  have hc2 := hc.2
  simp only [cond_true, Option.isNone_none, Bool.not_true, cond_false, if_true]
  by_cases h1 : c < p.2.1
  ·rw [decide_eq_true h1, if_pos h1]; rfl
  ·rw [decide_eq_false h1, if_neg h1, nsub_at N hc w.base]
   unfold fit64
   rw [rB_t ⟨by omega, by omega⟩]
   simp only [cond_false, cond_true, Option.bind_some, Option.isNone_none, Bool.not_true]
   by_cases h2 : c - p.2.1 > p.2.2.2.2.2.2.2.2.2
   ·rw [decide_eq_true h2, if_pos h2]; rfl
   ·rw [decide_eq_false h2, if_neg h2]
    simp only [cond_false, Option.bind_some, Option.isNone_none, Bool.not_true]
    unfold aheadD
    rw [ahat_at N w k (by omega) (by omega)]
    simp only [Option.bind_some]
    generalize atD p (c - p.2.1) = A
    obtain ⟨a, e⟩ := A
    cases e with
    | some e => rfl
    | none =>
     simp only [Option.isNone_none, Bool.not_true, cond_false]
     rw [ahoff_at N w k (by omega) (by omega)]
     simp only [Option.bind_some]
     generalize plainD p (c - p.2.1) = P
     obtain ⟨b, e⟩ := P
     cases e <;> rfl
theorem age_eq {x rho : Int} (r0 : 0 ≤ rho) (r1 : rho ≤ 2097152) (x0 : 0 ≤ x) (x1 : x < 9223372036854775808) : (-1 - x) * rho / 1073741824 = -upD rho (satI (x + 1)) := by
 unfold upD
 by_cases h : x + 1 < 9223372036854775808
 ·rw [satI_in ⟨by omega, by omega⟩, show -1 - x = -(x + 1) by omega]; omega
 ·have hx : x = 9223372036854775807 := by omega
  subst hx
  rw [show satI (9223372036854775807 + 1) = 9223372036854775807 from rfl]
  omega
theorem bof_at {N : Nat} (hN : 3000 ≤ N) {p : PageT} (w : PageW p) {c : Int} (hc : R64 c) {how : PolT} (hL : how.2.2.2.2.2.2.2.2.2.length ≤ 1000) (r : Int) :
  f_12 N p.1 p.2.1 p.2.2.1 p.2.2.2.1 p.2.2.2.2.1 p.2.2.2.2.2.1 p.2.2.2.2.2.2.1 p.2.2.2.2.2.2.2.1 p.2.2.2.2.2.2.2.2.1 p.2.2.2.2.2.2.2.2.2 c how.1 how.2.1 how.2.2.1 how.2.2.2.1 how.2.2.2.2.1 how.2.2.2.2.2.1 how.2.2.2.2.2.2.1 how.2.2.2.2.2.2.2.1 how.2.2.2.2.2.2.2.2.1 how.2.2.2.2.2.2.2.2.2 r = some (partsD p c how r) := by
 unfold f_12 partsD
 refine (bindP _ _ _ (pchk_at hN _ _ _ _ _ _ _ hL)).trans ?_
 rw [show mayP how.1 how.2.1 how.2.2.1 how.2.2.2.1 how.2.2.2.2.1 how.2.2.2.2.2.1 how.2.2.2.2.2.2.2.1 how.2.2.2.2.2.2.2.2.1 how.2.2.2.2.2.2.2.2.2 = mayPT how from rfl]
 cases hm : mayPT how with
 | false => rfl
 | true =>
  have hq : 1 ≤ how.2.2.2.1 ∧ how.2.2.2.1 ≤ 68719476736 := qmayB_rng (mayP_q hm)
  simp only [cond_true, Option.isNone_none, Bool.not_true, cond_false, if_true]
  by_cases h1 : r < 0
  ·rw [decide_eq_true h1, if_pos h1]; rfl
  ·rw [decide_eq_false h1, if_neg h1]
   simp only [cond_false]
   refine (bindP _ _ _ (ahtime_at N w hc)).trans ?_
   have ht := fun h => timeD_none (p := p) (c := c) h
   generalize timeD p c = T at ht ⊢
   obtain ⟨a, b, e⟩ := T
   cases e with
   | some e => rfl
   | none =>
    obtain ⟨hp, hb, hcap, _, hpl, _⟩ := ht rfl
    have k := pageB_ok hp
    have kb := k.base
    have kc := k.cap
    have ks := facB_ok k.pl
    have hc2 := hc.2
    simp only [Option.isNone_none, Bool.not_true, cond_false]
    rw [wi64 (n := c - p.2.1) (by omega) (by omega)]
    unfold partsV ageD fitD
    have hn : 0 ≤ c - p.2.1 := by omega
    have hn1 : c - p.2.1 ≤ 1125899906842624 := by omega
    generalize c - p.2.1 = n at hn hn1 hpl ⊢
    refine (bindP _ _ _ (scale_at N _ w.pm.1 w.pm.2 ⟨by omega, by omega⟩)).trans ?_
    have hr := plain_R64 hpl
    have hx := scaleD_nn hn hpl
    obtain ⟨q0, q1⟩ := fit_rng (s := p.2.2.2.2.2.2.2.1) hn hn1
    unfold plainD at hpl hr ⊢
    generalize scaleD p.2.2.2.2.2.2.1 p.2.2.2.2.2.2.2.1 n = V at hpl hr hx ⊢
    obtain ⟨x, e⟩ := V
    simp only at hpl hr hx
    subst hpl
    obtain ⟨r0, r1⟩ := hr
    obtain ⟨u0, u1⟩ := upD_rng k.parts.1 k.parts.2 (sat1_nn hx) (satI_rng _).2
    simp only [Option.isNone_none, Bool.not_true, cond_false]
    rw [nsubsat_at N ⟨by decide, by decide⟩ ⟨r0, r1⟩, satI_in (s := -1 - x) ⟨by omega, by omega⟩]
    simp only [Option.bind_some]
    have kp := k.parts
    refine (bindP _ _ _ (mdF_at ⟨by omega, by omega⟩ ⟨by omega, by omega⟩ ⟨by decide, by decide⟩ (by decide))).trans ?_
    rw [age_eq kp.1 kp.2 hx r1, fitP_ok ⟨by omega, by omega⟩]
    simp only [Option.isNone_none, Bool.not_true, cond_false]
    generalize upD p.2.2.2.2.2.2.2.2.1 (satI (x + 1)) = u at u0 u1 ⊢
    rw [nsubsat_at N ⟨by decide, by decide⟩ ⟨by omega, by omega⟩, satI_in (s := 0 - -u) ⟨by omega, by omega⟩, show (0 : Int) - -u = u by omega]
    simp only [Option.bind_some]
    rw [decide_eq_false (show ¬ p.2.2.2.2.2.2.2.1 < 0 by omega), min_bits ks.2.2, wi64 (n := n / 2 ^ (p.2.2.2.2.2.2.2.1).toNat + 4) (by omega) (by omega), wi64 (n := how.2.2.2.1 - 1) (by omega) (by omega)]
    simp only [cond_false]
    by_cases h0 : how.1 = 0
    ·rw [show (how.1 == 0) = true by simpa using h0, if_pos h0]; rfl
    ·rw [show (how.1 == 0) = false by simpa using h0, if_neg h0]; rfl
theorem bsum_loop (N : Nat) {l : List Int} (hl : ∀ x ∈ l, R64 x) (hlen : l.length ≤ 1000000) : ∀ (k M i : Nat) (a : Int), i + k = l.length → k < M → R64 a → iter (b_69_0 N) M (a, l, (l.length : Int), (i : Int)) = some ((l.drop i).foldl (fun a x => satI (a + x)) a) := by
 intro k
 induction k with
 | zero =>
  intro M i a hi hM ha
  obtain ⟨M, rfl⟩ : ∃ m, M = m + 1 := ⟨M - 1, by omega⟩
  show b_69_0 N (iter (b_69_0 N) M) _ = _
  generalize iter (b_69_0 N) M = T
  unfold b_69_0
  simp only
  rw [decide_eq_false (show ¬ (i : Int) < (l.length : Int) by omega), List.drop_eq_nil_of_le (by omega)]; rfl
 | succ k ih =>
  intro M i a hi hM ha
  obtain ⟨M, rfl⟩ : ∃ m, M = m + 1 := ⟨M - 1, by omega⟩
  have key := fun a ha => ih M (i + 1) a (by omega) (by omega) ha
  show b_69_0 N (iter (b_69_0 N) M) _ = _
  generalize iter (b_69_0 N) M = T at key ⊢
  have h1 : i < l.length := by omega
  have g1 : l.getD (Int.toNat (i : Int)) 0 = l[i] := by rw [Int.toNat_natCast, List.getD_eq_getElem?_getD, List.getElem?_eq_getElem h1]; rfl
  unfold b_69_0
  simp only
  rw [decide_eq_true (show (i : Int) < (l.length : Int) by omega), decide_eq_true (show 0 ≤ (i : Int) ∧ (i : Int) < (l.length : Int) by omega), g1, wi64 (n := (i : Int) + 1) (by omega) (by omega), show (i : Int) + 1 = ((i + 1 : Nat) : Int) by omega]
  simp only [cond_true]
  rw [naddsat_at N ha (hl _ (List.getElem_mem h1))]
  simp only [Option.bind_some]
  rw [key _ (satI_rng _), List.drop_eq_getElem_cons h1]; rfl
theorem bsum_at {N : Nat} {l : List Int} (hl : ∀ x ∈ l, R64 x) (hlen : l.length ≤ 1000000) (hN : l.length < N) : f_69 N l = some (sumL l) := by
 unfold f_69 l_69_0
 refine (bindP _ _ _ (bsum_loop N hl hlen l.length N 0 0 (by omega) hN ⟨by decide, by decide⟩)).trans rfl
structure PartsR (v : PartsT) : Prop where
 a : R64 (v.1)
 b : R64 (v.2.1)
 c : R64 (v.2.2.1)
 d : R64 (v.2.2.2.1)
 e : R64 (v.2.2.2.2.1)
 f : R64 (v.2.2.2.2.2.1)
 g : R64 (v.2.2.2.2.2.2)
theorem PartsR.all {v : PartsT} (h : PartsR v) : ∀ x ∈ [v.1, v.2.1, v.2.2.1, v.2.2.2.1, v.2.2.2.2.1, v.2.2.2.2.2.1, v.2.2.2.2.2.2], R64 x := by
 simp only [List.mem_cons, List.not_mem_nil, or_false]
 rintro x (rfl | rfl | rfl | rfl | rfl | rfl | rfl)
 ·exact h.a
 ·exact h.b
 ·exact h.c
 ·exact h.d
 ·exact h.e
 ·exact h.f
 ·exact h.g
theorem bsump_at {N : Nat} (hN : 3000 ≤ N) {v : PartsT} (h : PartsR v) : f_18 N v.1 v.2.1 v.2.2.1 v.2.2.2.1 v.2.2.2.2.1 v.2.2.2.2.2.1 v.2.2.2.2.2.2 = some (sumP v) := by
 unfold f_18
 exact (bindP _ _ _ (bsum_at h.all (by simp) (by simp; omega))).trans rfl
theorem parts0_R : PartsR parts0 := ⟨⟨by decide, by decide⟩, ⟨by decide, by decide⟩, ⟨by decide, by decide⟩, ⟨by decide, by decide⟩, ⟨by decide, by decide⟩, ⟨by decide, by decide⟩, ⟨by decide, by decide⟩⟩
theorem partsD_R {p : PageT} {c : Int} {how : PolT} {r : Int} (hr : R64 r) : PartsR (partsD p c how r).1 := by
 cases h : (partsD p c how r).2 with
 | some e =>
  have : (partsD p c how r).1 = parts0 := by
   unfold partsD at h ⊢
   by_cases h1 : mayPT how = true
   ·rw [if_pos h1] at h ⊢
    by_cases h2 : r < 0
    ·rw [if_pos h2]
    ·rw [if_neg h2] at h ⊢
     generalize timeD p c = T at h ⊢
     obtain ⟨a, b, e⟩ := T
     cases e with
     | some e => rfl
     | none => cases h
   ·rw [if_neg h1]
  rw [this]; exact parts0_R
 | none =>
  obtain ⟨hm, _, ht, e⟩ := partsD_none h
  obtain ⟨hp, hb, hc, _, hpl, _⟩ := timeD_none ht
  have k := pageB_ok hp
  have kc := k.cap
  have ke := k.err
  have ha := ageD_rng k (by omega) hpl
  obtain ⟨q0, q1⟩ := fit_rng (s := p.2.2.2.2.2.2.2.1) (n := c - p.2.1) (by omega) (by omega)
  have hq : 1 ≤ how.2.2.2.1 ∧ how.2.2.2.1 ≤ 68719476736 := qmayB_rng (mayP_q hm)
  have hu := umayB_rng (show umayB how.2.2.2.2.1 how.2.2.2.2.2.1 = true by simp only [mayPT, mayP, Bool.and_eq_true] at hm; exact hm.2.2.1)
  rw [e]
  refine ⟨⟨by simp only [partsV]; omega, by simp only [partsV]; omega⟩, ⟨by simp only [partsV]; omega, by simp only [partsV]; omega⟩, ⟨by simp only [partsV, fitD]; omega, by simp only [partsV, fitD]; omega⟩, ⟨by simp only [partsV]; omega, by simp only [partsV]; omega⟩, ⟨by simp only [partsV]; omega, by simp only [partsV]; omega⟩, ?_, hr⟩
  simp only [partsV]
  split <;> exact ⟨by decide, by decide⟩
def toldB (p : PageT) (c : Int) (how : PolT) (bound raised host : Int) : Bool := Option.isNone (partsD p c how raised).2 && (sumP (partsD p c how raised).1 == bound && sumL [(partsD p c how raised).1.1, (partsD p c how raised).1.2.1, (partsD p c how raised).1.2.2.1] == host)
theorem btold_at {N : Nat} (hN : 3000 ≤ N) {p : PageT} (w : PageW p) {c : Int} (hc : R64 c) {how : PolT} (hL : how.2.2.2.2.2.2.2.2.2.length ≤ 1000) {raised : Int} (hr : R64 raised) (v bound host : Int) :
  f_19 N p.1 p.2.1 p.2.2.1 p.2.2.2.1 p.2.2.2.2.1 p.2.2.2.2.2.1 p.2.2.2.2.2.2.1 p.2.2.2.2.2.2.2.1 p.2.2.2.2.2.2.2.2.1 p.2.2.2.2.2.2.2.2.2 c how.1 how.2.1 how.2.2.1 how.2.2.2.1 how.2.2.2.2.1 how.2.2.2.2.2.1 how.2.2.2.2.2.2.1 how.2.2.2.2.2.2.2.1 how.2.2.2.2.2.2.2.2.1 how.2.2.2.2.2.2.2.2.2 v bound raised host = some (toldB p c how bound raised host) := by
 unfold f_19 toldB
 refine (bindP _ _ _ (bof_at hN w hc hL raised)).trans ?_
 have hR := partsD_R (p := p) (c := c) (how := how) hr
 generalize partsD p c how raised = V at hR ⊢
 obtain ⟨v, e⟩ := V
 cases e with
 | some e => rfl
 | none =>
  simp only [Option.isNone_none, cond_true, Bool.true_and] at hR ⊢
  refine (bindP _ _ _ (bsump_at hN hR)).trans ?_
  cases hs : (sumP v == bound) with
  | false => rfl
  | true =>
   simp only [cond_true, Bool.true_and]
   refine (bindP _ _ _ (bsum_at (N := N) (fun x hx => ?_) (by simp) (by simp; omega))).trans rfl
   simp only [List.mem_cons, List.not_mem_nil, or_false] at hx
   rcases hx with rfl | rfl | rfl
   ·exact hR.a
   ·exact hR.b
   ·exact hR.c
end Go.Proofs.YthpljlpokmoeeaaGreatDoor.Mir
namespace Go.Proofs.YthpljlpokmoeeaaGreatDoor.Mir
open Go Go.RowKit
set_option maxRecDepth 100000
theorem d_lt (a b : Int) : decide (a < b) = !decide (b ≤ a) := by
 by_cases h : a < b
 ·rw [decide_eq_true h, decide_eq_false (show ¬ b ≤ a by omega)]; rfl
 ·rw [decide_eq_false h, decide_eq_true (show b ≤ a by omega)]; rfl
theorem d_gt (a b : Int) : decide (a > b) = !decide (a ≤ b) := d_lt b a
end Go.Proofs.YthpljlpokmoeeaaGreatDoor.Mir
namespace Go.Proofs.YthpljlpokmoeeaaGreatDoor.Mir
open Go Go.RowKit
set_option maxRecDepth 100000
structure HowOk (how : PolT) : Prop where
 l : how.2.2.2.2.2.2.2.2.2.length ≤ 1000
 n : how.2.2.2.2.2.2.2.1.size ≤ 1000
 s : ∀ i, i < how.2.2.2.2.2.2.2.2.2.length → (gR how.2.2.2.2.2.2.2.2.2 i).2.2.size ≤ 1000
theorem bageP_at {N : Nat} (hN : 3000 ≤ N) {p : PageT} (w : PageW p) (k : PageOk p) {how : PolT} (hh : HowOk how) (limit : Int) {n : Int} (h0 : 0 ≤ n) (h1 : n ≤ 1125899906842625) :
  f_65 N n p.1 p.2.1 p.2.2.1 p.2.2.2.1 p.2.2.2.2.1 p.2.2.2.2.2.1 p.2.2.2.2.2.2.1 p.2.2.2.2.2.2.2.1 p.2.2.2.2.2.2.2.2.1 p.2.2.2.2.2.2.2.2.2 how.1 how.2.1 how.2.2.1 how.2.2.2.1 how.2.2.2.2.1 how.2.2.2.2.2.1 how.2.2.2.2.2.2.1 how.2.2.2.2.2.2.2.1 how.2.2.2.2.2.2.2.2.1 how.2.2.2.2.2.2.2.2.2 limit = some (!goodB p how limit n, p, how, limit) := by
 have kb := k.base
 unfold f_65 goodB
 rw [wi64 (n := p.2.1 + n) (by omega) (by omega)]
 refine (bindP _ _ _ (bof_at hN w ⟨by omega, by omega⟩ hh.l 0)).trans ?_
 have hR := partsD_R (p := p) (c := p.2.1 + n) (how := how) (r := 0) ⟨by decide, by decide⟩
 generalize partsD p (p.2.1 + n) how 0 = V at hR ⊢
 obtain ⟨v, e⟩ := V
 cases e with
 | some e => rfl
 | none =>
  simp only [Option.isNone_none, Bool.not_true, cond_false, Bool.true_and] at hR ⊢
  refine (bindP _ _ _ (bsump_at hN hR)).trans ?_
  rw [d_gt]
theorem search_loop {N : Nat} (hN : 3000 ≤ N) {p : PageT} (w : PageW p) (q : PageOk p) {how : PolT} (hh : HowOk how) (limit : Int) {n : Int} (hn : n ≤ 1125899906842625) : ∀ (k M : Nat) (i j : Int), j - i < 2 ^ k → k < M → 0 ≤ i → i ≤ j → j ≤ n → (i = 0 ∨ goodB p how limit (i - 1) = true) → (j = n ∨ goodB p how limit j = false) →
  ∃ r, 0 ≤ r ∧ (r = 0 ∨ goodB p how limit (r - 1) = true) ∧ (r = n ∨ goodB p how limit r = false) ∧ iter (b_64c65k0_0 N) M (((), (), ()), i, j, p, how, limit) = some (r, p, how, limit) := by
 intro k
 induction k with
 | zero =>
  intro M i j hd hM i0 hij hjn hi hj
  obtain ⟨M, rfl⟩ : ∃ m, M = m + 1 := ⟨M - 1, by omega⟩
  rw [Int.pow_zero] at hd
  refine ⟨i, i0, hi, by rw [show i = j by omega]; exact hj, ?_⟩
  show b_64c65k0_0 N (iter (b_64c65k0_0 N) M) _ = _
  generalize iter (b_64c65k0_0 N) M = T
  obtain ⟨p1, p2, p3, p4, p5, p6, p7, p8, p9, p10⟩ := p
  obtain ⟨h1, h2, h3, h4, h5, h6, h7, h8, h9, h10⟩ := how
  unfold b_64c65k0_0
  simp only
  rw [decide_eq_false (show ¬ i < j by omega)]; rfl
 | succ k ih =>
  intro M i j hd hM i0 hij hjn hi hj
  obtain ⟨M, rfl⟩ : ∃ m, M = m + 1 := ⟨M - 1, by omega⟩
  rw [Int.pow_succ] at hd
  have key := fun i j hd h1 h2 h3 h4 h5 => ih M i j hd (by omega) h1 h2 h3 h4 h5
  have hc := fun h0 h1 => bageP_at hN w q hh limit (n := (i + j) / 2) h0 h1
  generalize (2 : Int) ^ k = P at hd key
  show ∃ r, _ ∧ _ ∧ _ ∧ b_64c65k0_0 N (iter (b_64c65k0_0 N) M) _ = _
  generalize iter (b_64c65k0_0 N) M = T at key ⊢
  by_cases h : i < j
  ·have hm : IntKind.i64.wrap (IntKind.u64.wrap (IntKind.i64.wrap (i + j)) / 2 ^ (min (Int.toNat 1) IntKind.u64.bits)) = (i + j) / 2 := by
    rw [show min (Int.toNat 1) IntKind.u64.bits = 1 from rfl, Int.pow_one, wi64 (n := i + j) (by omega) (by omega), IntKind.wrap_u64, Int.emod_eq_of_lt (by omega) (by omega), wi64 (by omega) (by omega)]
   have hc := hc (by omega) (by omega)
   have hw : IntKind.i64.wrap ((i + j) / 2 + 1) = (i + j) / 2 + 1 := wi64 (by omega) (by omega)
   cases hg : goodB p how limit ((i + j) / 2) with
   | true =>
    rw [hg] at hc
    obtain ⟨r, r0, r1, r2, r3⟩ := key ((i + j) / 2 + 1) j (by omega) (by omega) (by omega) hjn (.inr (by rw [show (i + j) / 2 + 1 - 1 = (i + j) / 2 by omega]; exact hg)) hj
    refine ⟨r, r0, r1, r2, ?_⟩
    obtain ⟨p1, p2, p3, p4, p5, p6, p7, p8, p9, p10⟩ := p
    obtain ⟨h1, h2, h3, h4, h5, h6, h7, h8, h9, h10⟩ := how
    unfold b_64c65k0_0
    simp only
    rw [decide_eq_true h, hm, hw, cond_true]
    exact (bindP _ _ _ hc).trans r3
   | false =>
    rw [hg] at hc
    obtain ⟨r, r0, r1, r2, r3⟩ := key i ((i + j) / 2) (by omega) i0 (by omega) (by omega) hi (.inr hg)
    refine ⟨r, r0, r1, r2, ?_⟩
    obtain ⟨p1, p2, p3, p4, p5, p6, p7, p8, p9, p10⟩ := p
    obtain ⟨h1, h2, h3, h4, h5, h6, h7, h8, h9, h10⟩ := how
    unfold b_64c65k0_0
    simp only
    rw [decide_eq_true h, hm, cond_true]
    exact (bindP _ _ _ hc).trans r3
  ·refine ⟨i, i0, hi, by rw [show i = j by omega]; exact hj, ?_⟩
   obtain ⟨p1, p2, p3, p4, p5, p6, p7, p8, p9, p10⟩ := p
   obtain ⟨h1, h2, h3, h4, h5, h6, h7, h8, h9, h10⟩ := how
   unfold b_64c65k0_0
   simp only
   rw [decide_eq_false h]; rfl
def AgeIs (p : PageT) (how : PolT) (limit : Int) (r : Int × Option Int) : Prop :=
 (pageB p = false ∧ r = (0, some 1)) ∨ (pageB p = true ∧ mayPT how = false ∧ r = (0, some 1)) ∨ (pageB p = true ∧ mayPT how = true ∧ goodB p how limit 0 = false ∧ r = (0, some 13)) ∨ (pageB p = true ∧ mayPT how = true ∧ ∃ n, Last p how limit n ∧ r = (n, none))
theorem AgeIs.bad {p : PageT} {how : PolT} {limit : Int} (h : pageB p = false) : AgeIs p how limit (0, some 1) := .inl ⟨h, rfl⟩
theorem AgeIs.bad2 {p : PageT} {how : PolT} {limit : Int} (h : pageB p = true) (h2 : mayPT how = false) : AgeIs p how limit (0, some 1) := .inr (.inl ⟨h, h2, rfl⟩)
theorem AgeIs.none {p : PageT} {how : PolT} {limit : Int} (h : pageB p = true) (h2 : mayPT how = true) (h3 : goodB p how limit 0 = false) : AgeIs p how limit (0, some 13) := .inr (.inr (.inl ⟨h, h2, h3, rfl⟩))
theorem AgeIs.some {p : PageT} {how : PolT} {limit n : Int} (h : pageB p = true) (h2 : mayPT how = true) (h3 : Last p how limit n) : AgeIs p how limit (n, .none) := .inr (.inr (.inr ⟨h, h2, n, h3, rfl⟩))
theorem goodB_far {p : PageT} {how : PolT} {limit n : Int} (h : p.2.2.2.2.2.2.2.2.2 < n) : goodB p how limit n = false := by
 cases hg : goodB p how limit n with
 | false => rfl
 | true => have := goodB_cap hg; omega
theorem bage_at {N : Nat} (hN : 3000 ≤ N) {p : PageT} (w : PageW p) {how : PolT} (hh : HowOk how) (limit : Int) :
  ∃ r, AgeIs p how limit r ∧ f_14 N p.1 p.2.1 p.2.2.1 p.2.2.2.1 p.2.2.2.2.1 p.2.2.2.2.2.1 p.2.2.2.2.2.2.1 p.2.2.2.2.2.2.2.1 p.2.2.2.2.2.2.2.2.1 p.2.2.2.2.2.2.2.2.2 how.1 how.2.1 how.2.2.1 how.2.2.2.1 how.2.2.2.2.1 how.2.2.2.2.2.1 how.2.2.2.2.2.2.1 how.2.2.2.2.2.2.2.1 how.2.2.2.2.2.2.2.2.1 how.2.2.2.2.2.2.2.2.2 limit = some r := by
 unfold f_14
 rw [pgchk_at N w]
 simp only [Option.bind_some]
 cases hp : pageB p with
 | false => exact ⟨_, AgeIs.bad hp, rfl⟩
 | true =>
  have k := pageB_ok hp
  have kc := k.cap
  simp only [cond_true, Option.isNone_none, Bool.not_true, cond_false]
  rw [pchk_at hN _ _ _ _ _ _ _ hh.l, show mayP how.1 how.2.1 how.2.2.1 how.2.2.2.1 how.2.2.2.2.1 how.2.2.2.2.2.1 how.2.2.2.2.2.2.2.1 how.2.2.2.2.2.2.2.2.1 how.2.2.2.2.2.2.2.2.2 = mayPT how from rfl]
  simp only [Option.bind_some]
  cases hm : mayPT how with
  | false => exact ⟨_, AgeIs.bad2 hp hm, rfl⟩
  | true =>
   simp only [cond_true, Option.isNone_none, Bool.not_true, cond_false]
   rw [wi64 (n := p.2.2.2.2.2.2.2.2.2 + 1) (by omega) (by omega)]
   obtain ⟨r, r0, r1, r2, r3⟩ := search_loop hN w k hh limit (n := p.2.2.2.2.2.2.2.2.2 + 1) (by omega) 51 N 0 (p.2.2.2.2.2.2.2.2.2 + 1) (by rw [show (2 : Int) ^ 51 = 2251799813685248 from rfl]; omega) (by omega) (by omega) (by omega) (by omega) (.inl rfl) (.inl rfl)
   have hs : f_64c65k0 N (p.2.2.2.2.2.2.2.2.2 + 1) p.1 p.2.1 p.2.2.1 p.2.2.2.1 p.2.2.2.2.1 p.2.2.2.2.2.1 p.2.2.2.2.2.2.1 p.2.2.2.2.2.2.2.1 p.2.2.2.2.2.2.2.2.1 p.2.2.2.2.2.2.2.2.2 how.1 how.2.1 how.2.2.1 how.2.2.2.1 how.2.2.2.2.1 how.2.2.2.2.2.1 how.2.2.2.2.2.2.1 how.2.2.2.2.2.2.2.1 how.2.2.2.2.2.2.2.2.1 how.2.2.2.2.2.2.2.2.2 limit = some (r, p, how, limit) := by
    unfold f_64c65k0 l_64c65k0_0
    exact (bindP _ _ _ r3).trans rfl
   rw [hs]
   simp only [Option.bind_some]
   by_cases h : r = 0
   ·subst h
    refine ⟨(0, some 13), AgeIs.none hp hm ?_, rfl⟩
    rcases r2 with h | h
    ·omega
    ·exact h
   ·rw [show (r == 0) = false by simpa using h]
    have hg : goodB p how limit (r - 1) = true := by rcases r1 with h' | h'; exact absurd h' h; exact h'
    have hcap := goodB_cap hg
    refine ⟨(r - 1, none), AgeIs.some hp hm ⟨by omega, hg, ?_⟩, ?_⟩
    ·rw [show r - 1 + 1 = r by omega]
     rcases r2 with h' | h'
     ·exact goodB_far (by omega)
     ·exact h'
    ·rw [wi64 (n := r - 1) (by omega) (by omega)]; rfl
end Go.Proofs.YthpljlpokmoeeaaGreatDoor.Mir
namespace Go.Proofs.YthpljlpokmoeeaaGreatDoor.Mir
open Go Go.RowKit
set_option maxRecDepth 100000
theorem give_loop30 (N : Nat) {n : ByteArray} {f : Int} {L : List Rul} (hL : L.length ≤ 4398046511104) (z : ByteArray × Int × List Rul) : ∀ (k M i : Nat) (acc : List Rul), i + k = L.length → k < M → acc.length = i →
  iter (b_48_0 N) M ((), (), (), (i : Int), (n, f, L), z, (n, f, acc)) = some ((), (), z, (n, f, acc ++ L.drop i)) := by
 intro k
 induction k with
 | zero =>
  intro M i acc hi hM ha
  obtain ⟨M, rfl⟩ : ∃ m, M = m + 1 := ⟨M - 1, by omega⟩
  show b_48_0 N (iter (b_48_0 N) M) _ = _
  unfold b_48_0
  simp only
  rw [decide_eq_false (show ¬ (i : Int) < (L.length : Int) by omega), List.drop_eq_nil_of_le (by omega), List.append_nil]; rfl
 | succ k ih =>
  intro M i acc hi hM ha
  obtain ⟨M, rfl⟩ : ∃ m, M = m + 1 := ⟨M - 1, by omega⟩
  have ih' := ih M (i + 1) (acc ++ [gR L i]) (by omega) (by omega) (by rw [List.length_append, ha]; rfl)
  show b_48_0 N (iter (b_48_0 N) M) _ = _
  generalize iter (b_48_0 N) M = I at ih' ⊢
  unfold b_48_0
  simp only
  rw [decide_eq_true (show (i : Int) < (L.length : Int) by omega), decide_eq_true (show 0 ≤ (i : Int) ∧ (i : Int) < (L.length : Int) by omega), wi64 (n := (i : Int) + 1) (by omega) (by omega), show (i : Int) + 1 = ((i + 1 : Nat) : Int) by omega]
  simp only [cond_true, Int.toNat_natCast]
  show (bif decide ((acc.length + [gR L i].length) * 32 ≤ 140737488355328) then I ((), (), (), ((i + 1 : Nat) : Int), (n, f, L), z, (n, f, acc ++ [gR L i])) else none) = _
  rw [decide_eq_true (by rw [List.length_singleton]; omega), cond_true, ih', List.append_assoc]
  have hi' : i < L.length := by omega
  have e : gR L i = L[i] := by unfold gR; rw [List.getD_eq_getElem?_getD, List.getElem?_eq_getElem hi']; rfl
  rw [List.drop_eq_getElem_cons hi', e]; rfl
theorem give_at30 {N : Nat} (n : ByteArray) (f : Int) {L : List Rul} (hL : L.length ≤ 4398046511104) (hN : L.length < N) : f_48 N n f L = some (n, f, L) := by
 have h := give_loop30 N (n := n) (f := f) hL (ByteArray.empty, 0, []) L.length N 0 [] (by omega) hN rfl
 have h' : l_48_0 N ((), (), (), 0, (n, f, L), (ByteArray.empty, 0, []), (n, f, [])) = some ((), (), (ByteArray.empty, 0, []), (n, f, L)) := h
 unfold f_48
 rw [h']; rfl
theorem big_loop30 (N : Nat) {n : ByteArray} {f : Int} {L : List Rul} : ∀ (k M i : Nat), i + k = 60 → k < M → ∃ r, iter (b_8_0 N) M ((), (i : Int), (n, f, L)) = some r ∧ (r = .inl true ∨ (r = .inr ((), (n, f, L)) ∧ ∀ j, i ≤ j → j < L.length → j < 60 → (gR L j).2.2.size ≤ 200)) := by
 intro k
 induction k with
 | zero =>
  intro M i hi hM
  obtain ⟨M, rfl⟩ : ∃ m, M = m + 1 := ⟨M - 1, by omega⟩
  refine ⟨.inr ((), (n, f, L)), ?_, .inr ⟨rfl, fun j h1 h2 h3 => by omega⟩⟩
  show b_8_0 N (iter (b_8_0 N) M) _ = _
  unfold b_8_0
  simp only
  rw [decide_eq_false (show ¬ (i : Int) < 60 by omega)]
  cases decide ((i : Int) < (L.length : Int)) <;> rfl
 | succ k ih =>
  intro M i hi hM
  obtain ⟨M, rfl⟩ : ∃ m, M = m + 1 := ⟨M - 1, by omega⟩
  obtain ⟨r, h1, h2⟩ := ih M (i + 1) (by omega) (by omega)
  by_cases hl : i < L.length
  ·by_cases hs : (gR L i).2.2.size > 200
   ·refine ⟨.inl true, ?_, .inl rfl⟩
    show b_8_0 N (iter (b_8_0 N) M) _ = _
    unfold b_8_0
    simp only
    rw [decide_eq_true (show (i : Int) < 60 by omega), decide_eq_true (show (i : Int) < (L.length : Int) by omega), decide_eq_true (show 0 ≤ (i : Int) ∧ (i : Int) < (L.length : Int) by omega), Int.toNat_natCast]
    show (bif decide (((gR L i).2.2.size : Int) > 200) then _ else _) = _
    rw [decide_eq_true (by omega)]; rfl
   ·refine ⟨r, ?_, ?_⟩
    ·rw [← h1]
     show b_8_0 N (iter (b_8_0 N) M) _ = _
     generalize iter (b_8_0 N) M = I
     unfold b_8_0
     simp only
     rw [decide_eq_true (show (i : Int) < 60 by omega), decide_eq_true (show (i : Int) < (L.length : Int) by omega), decide_eq_true (show 0 ≤ (i : Int) ∧ (i : Int) < (L.length : Int) by omega), Int.toNat_natCast, wi64 (n := (i : Int) + 1) (by omega) (by omega)]
     show (bif decide (((gR L i).2.2.size : Int) > 200) then _ else _) = _
     rw [decide_eq_false (by omega)]; rfl
    ·rcases h2 with h2 | ⟨h2, h3⟩
     ·exact .inl h2
     ·refine .inr ⟨h2, fun j a b c => ?_⟩
      by_cases hj : j = i
      ·subst hj; omega
      ·exact h3 j (by omega) b c
  ·refine ⟨.inr ((), (n, f, L)), ?_, .inr ⟨rfl, fun j h1 h2 h3 => by omega⟩⟩
   show b_8_0 N (iter (b_8_0 N) M) _ = _
   unfold b_8_0
   simp only
   rw [decide_eq_false (show ¬ (i : Int) < (L.length : Int) by omega)]; rfl
theorem big_at30 {N : Nat} (n : ByteArray) (f : Int) (L : List Rul) (hN : 61 ≤ N) : ∃ b, f_8 N n f L = some b ∧ (b = false → L.length ≤ 60 ∧ n.size ≤ 200 ∧ ∀ i, i < L.length → (gR L i).2.2.size ≤ 200) := by
 obtain ⟨r, h1, h2⟩ := big_loop30 N (n := n) (f := f) (L := L) 60 N 0 rfl (by omega)
 have h' : l_8_0 N ((), 0, (n, f, L)) = some r := h1
 unfold f_8
 rw [h']
 rcases h2 with rfl | ⟨rfl, h3⟩
 ·exact ⟨true, rfl, fun h => by cases h⟩
 ·show ∃ b, (bif decide ((L.length : Int) > 60) then some true else some (decide ((n.size : Int) > 200))) = some b ∧ _
  by_cases hl : L.length > 60
  ·rw [decide_eq_true (show (L.length : Int) > 60 by omega)]
   exact ⟨true, rfl, fun h => by cases h⟩
  ·rw [decide_eq_false (show ¬ (L.length : Int) > 60 by omega)]
   refine ⟨_, rfl, fun h => ?_⟩
   have := of_decide_eq_false h
   exact ⟨by omega, by omega, fun i hi => h3 i (Nat.zero_le _) hi (by omega)⟩
end Go.Proofs.YthpljlpokmoeeaaGreatDoor.Mir
namespace Go.Proofs.YthpljlpokmoeeaaGreatDoor.Mir
open Go Go.RowKit
set_option maxRecDepth 100000
abbrev TenT := ByteArray × List Int × Int × Int × Int × Int × Int × Int × Bool × ByteArray × Int × List Rul × Bool × Int × Int × Bool × Int × Int
def ten0 : TenT := (ByteArray.empty, [0, 0, 0, 0, 0, 0, 0, 0, 0, 0, 0, 0, 0, 0, 0, 0], 0, 0, 0, 0, 0, 0, false, ByteArray.empty, 0, [], false, 0, 0, false, 0, 0)
def polT (t : TenT) : PolT := (t.2.2.1, t.2.2.2.1, t.2.2.2.2.1, t.2.2.2.2.2.1, t.2.2.2.2.2.2.1, t.2.2.2.2.2.2.2.1, t.2.2.2.2.2.2.2.2.1, t.2.2.2.2.2.2.2.2.2.1, t.2.2.2.2.2.2.2.2.2.2.1, t.2.2.2.2.2.2.2.2.2.2.2.1)
def mayTT (t : TenT) : Bool := mayT t.1 t.2.2.1 t.2.2.2.1 t.2.2.2.2.1 t.2.2.2.2.2.1 t.2.2.2.2.2.2.1 t.2.2.2.2.2.2.2.1 t.2.2.2.2.2.2.2.2.2.1 t.2.2.2.2.2.2.2.2.2.2.1 t.2.2.2.2.2.2.2.2.2.2.2.1 t.2.2.2.2.2.2.2.2.2.2.2.2.1 t.2.2.2.2.2.2.2.2.2.2.2.2.2.1 t.2.2.2.2.2.2.2.2.2.2.2.2.2.2.1 t.2.2.2.2.2.2.2.2.2.2.2.2.2.2.2.1 t.2.2.2.2.2.2.2.2.2.2.2.2.2.2.2.2.1 t.2.2.2.2.2.2.2.2.2.2.2.2.2.2.2.2.2
structure TFit (t : TenT) : Prop where
 n : (t.1).size ≤ 1000
 zn : (t.2.2.2.2.2.2.2.2.2.1).size ≤ 1000
 zL : (t.2.2.2.2.2.2.2.2.2.2.2.1).length ≤ 1000
 rn : ∀ i, i < (t.2.2.2.2.2.2.2.2.2.2.2.1).length → (gR (t.2.2.2.2.2.2.2.2.2.2.2.1) i).2.2.size ≤ 1000
 ta : R64 (t.2.2.2.2.2.2.2.2.2.2.2.2.2.1)
 tl : R64 (t.2.2.2.2.2.2.2.2.2.2.2.2.2.2.2.2.1)
structure TKey (t : TenT) : Prop where
 len : (t.2.1).length = 16
 by_ : By (t.2.1)
end Go.Proofs.YthpljlpokmoeeaaGreatDoor.Mir
namespace Go.Proofs.YthpljlpokmoeeaaGreatDoor.Mir
open Go Go.RowKit
set_option maxRecDepth 100000
theorem num_at30 (N : Nat) (e : Option Int) : f_17 N e = some (errN e) := by cases e <;> rfl
theorem pgive_at30 {N : Nat} (k b a q w c : Int) (j : Bool) (n : ByteArray) (f : Int) {L : List Rul} (hL : L.length ≤ 4398046511104) (hN : L.length < N) : f_11 N k b a q w c j n f L = some (k, b, a, q, w, c, j, n, f, L) := by
 unfold f_11
 rw [give_at30 n f hL hN]; rfl
theorem tgive_at30 {N : Nat} (t : TenT) (hL : (t.2.2.2.2.2.2.2.2.2.2.2.1).length ≤ 4398046511104) (hN : (t.2.2.2.2.2.2.2.2.2.2.2.1).length < N) : f_42 N t.1 t.2.1 t.2.2.1 t.2.2.2.1 t.2.2.2.2.1 t.2.2.2.2.2.1 t.2.2.2.2.2.2.1 t.2.2.2.2.2.2.2.1 t.2.2.2.2.2.2.2.2.1 t.2.2.2.2.2.2.2.2.2.1 t.2.2.2.2.2.2.2.2.2.2.1 t.2.2.2.2.2.2.2.2.2.2.2.1 t.2.2.2.2.2.2.2.2.2.2.2.2.1 t.2.2.2.2.2.2.2.2.2.2.2.2.2.1 t.2.2.2.2.2.2.2.2.2.2.2.2.2.2.1 t.2.2.2.2.2.2.2.2.2.2.2.2.2.2.2.1 t.2.2.2.2.2.2.2.2.2.2.2.2.2.2.2.2.1 t.2.2.2.2.2.2.2.2.2.2.2.2.2.2.2.2.2 = some t := by
 unfold f_42
 rw [pgive_at30 _ _ _ _ _ _ _ _ _ hL hN]; rfl
structure TBig30 (t : TenT) : Prop where
 zL : (t.2.2.2.2.2.2.2.2.2.2.2.1).length ≤ 60
 zn : (t.2.2.2.2.2.2.2.2.2.1).size ≤ 200
 rn : ∀ i, i < (t.2.2.2.2.2.2.2.2.2.2.2.1).length → (gR (t.2.2.2.2.2.2.2.2.2.2.2.1) i).2.2.size ≤ 200
 n : (t.1).size ≤ 100
theorem tbig_at30 {N : Nat} (t : TenT) (hN : 60 < N) : ∃ g, f_43 N t.1 t.2.1 t.2.2.1 t.2.2.2.1 t.2.2.2.2.1 t.2.2.2.2.2.1 t.2.2.2.2.2.2.1 t.2.2.2.2.2.2.2.1 t.2.2.2.2.2.2.2.2.1 t.2.2.2.2.2.2.2.2.2.1 t.2.2.2.2.2.2.2.2.2.2.1 t.2.2.2.2.2.2.2.2.2.2.2.1 t.2.2.2.2.2.2.2.2.2.2.2.2.1 t.2.2.2.2.2.2.2.2.2.2.2.2.2.1 t.2.2.2.2.2.2.2.2.2.2.2.2.2.2.1 t.2.2.2.2.2.2.2.2.2.2.2.2.2.2.2.1 t.2.2.2.2.2.2.2.2.2.2.2.2.2.2.2.2.1 t.2.2.2.2.2.2.2.2.2.2.2.2.2.2.2.2.2 = some g ∧ (g = false → TBig30 t) := by
 obtain ⟨g, h1, h2⟩ := big_at30 (N := N) (t.2.2.2.2.2.2.2.2.2.1) (t.2.2.2.2.2.2.2.2.2.2.1) (t.2.2.2.2.2.2.2.2.2.2.2.1) hN
 unfold f_43
 rw [h1]
 cases g with
 | true => exact ⟨true, rfl, fun h => by cases h⟩
 | false =>
  obtain ⟨b1, b2, b3⟩ := h2 rfl
  refine ⟨_, rfl, fun h => ⟨b1, b2, b3, ?_⟩⟩
  have := of_decide_eq_false h
  omega
theorem TBig30.fit {t : TenT} (h : TBig30 t) (ha : R64 (t.2.2.2.2.2.2.2.2.2.2.2.2.2.1)) (hl : R64 (t.2.2.2.2.2.2.2.2.2.2.2.2.2.2.2.2.1)) : TFit t :=
 ⟨by have := h.n; omega, by have := h.zn; omega, by have := h.zL; omega, fun i hi => by have := h.rn i hi; omega, ha, hl⟩
end Go.Proofs.YthpljlpokmoeeaaGreatDoor.Mir
namespace Go.Proofs.YthpljlpokmoeeaaGreatDoor.Mir
open Go Go.RowKit
set_option maxRecDepth 100000
end Go.Proofs.YthpljlpokmoeeaaGreatDoor.Mir
namespace Go.Proofs.YthpljlpokmoeeaaGreatDoor.Mir
open Go Go.RowKit
set_option maxRecDepth 100000
end Go.Proofs.YthpljlpokmoeeaaGreatDoor.Mir
