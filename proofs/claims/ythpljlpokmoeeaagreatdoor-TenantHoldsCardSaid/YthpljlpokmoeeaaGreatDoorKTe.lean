/- Texts joined. -/
import Derived.RangeFuncBox
import Derived.RangeFuncNested
import Derived.RangeFuncBound
import Derived.RangeFuncCalls
import Derived.RangeFuncLeaves
import Derived.Shelf.Abstract
import Derived.WalkKit
import Derived.OwnWalkIn
import Derived.TacticsInMore
import Derived.LoopNIn
import Derived.LoopIn
import Derived.Test.YthpljlpokmoeeaaGreatDoorProg
import Derived.Test.YthpljlpokmoeeaaGreatDoorKxb49c9d
import Derived.Test.YthpljlpokmoeeaaGreatDoorKx660f78
import Derived.Shelf.Strings.SlTrimAscii
namespace Go.Proofs.YthpljlpokmoeeaaGreatDoor
open Go Go.RowKit Go.Shelf Go.Proofs
attribute [local go_sem] Oper.semAt_some
def upTo {α : Type} (f : Nat → α) (k : Nat) : List α := (List.range k).map f
theorem upTo_succ {α : Type} (f : Nat → α) (k : Nat) : upTo f (k + 1) = upTo f k ++ [f k] := by simp [upTo, List.range_succ]
theorem upTo_length {α : Type} (f : Nat → α) (k : Nat) : (upTo f k).length = k := by simp [upTo]
def backAt (zs : List Int) (len k : Nat) : Int × Int := ((len : Int) - 1 - k, zs[len - 1 - k]?.getD 0)
def KeepB (Bs n₀ : Nat) (W W' : World) : Prop := (∀ v, W.cell? ⟨Bs, 0, none⟩ = some v → W'.cell? ⟨Bs, 0, none⟩ = some v) ∧ Below n₀ W W'
theorem KeepB.trans {Bs n₀ : Nat} {A B C : World} (h : KeepB Bs n₀ A B) (k : KeepB Bs n₀ B C) : KeepB Bs n₀ A C := ⟨fun v e => k.1 v (h.1 v e), h.2.trans k.2⟩
set_option maxRecDepth 100000 in
set_option maxHeartbeats 2000000 in
theorem back1_in (F : Fence) (n : Nat) (h8 : F.fn 239) (hro : F.round = none) (hn : 1 ≤ n) (l Bs n₀ b off len cap : Nat) (zs : List Int) (hreach : len ≤ 140737488351232) (hb : b < n₀) (J Jx : List (Int × Int) → World → Prop)
  (hY : ∀ pre x W, J pre W → pre.length < len → YieldAt F (n - 1) Tryz.prog l #[.int .i64 x.1, .int .u8 x.2] W fun e W' =>
   (e = .returned (.bool true) ∧ J (pre ++ [x]) W' ∧ KeepB Bs n₀ W W') ∨ (e = .returned (.bool false) ∧ Jx (pre ++ [x]) W'))
  (W : World) (hBs : W.cell? ⟨Bs, 0, none⟩ = some (.slice (some ⟨b, off, none⟩) len cap)) (hc : ∀ j, j < len → W.cell? ⟨b, off + j, none⟩ = some (.int .u8 (zs[j]?.getD 0))) (h0 : J [] W) :
  CallsIn F n Tryz.prog 239 #[.func (.yield l) #[] #[], .pointer (some ⟨Bs, 0, none⟩)] W fun e W' => (∃ v, e = .returned v) ∧
   ((∃ ys, ys = upTo (backAt zs len) len ∧ J ys W') ∨ (∃ pre, (∃ k, k ≤ len ∧ pre = upTo (backAt zs len) k) ∧ Jx pre W')) := by
 refine callsIn_of_wp Tryz.func239 rfl h8 ?_ hro
 simp only [Tryz.ntmps239, List.size_toArray, List.length_cons, List.length_nil, Nat.reduceAdd, Nat.reduceSub, Array.replicate_succ, Array.replicate_zero, List.push_toArray, List.append_toArray, List.nil_append, List.cons_append]
 gi_wp2
 gi_loopw [3] (fun i wr => ∃ k : Nat, k ≤ len ∧ i = .int .i64 ((len : Int) - 1 - k) ∧ J (upTo (backAt zs len) k) wr ∧ wr.cell? ⟨Bs, 0, none⟩ = some (.slice (some ⟨b, off, none⟩) len cap) ∧ Below n₀ W wr)
  (fun i _ => (intOf i + 1).toNat)
 case atStart => exact ⟨0, Nat.zero_le _, by simp, h0, hBs, Below.refl _ _⟩
 case round =>
  obtain ⟨k, hk, rfl, hJs, hBs', hnx⟩ := hrel
  have hcx : k < len → wr.cell? ⟨b, off + (len - 1 - k), none⟩ = some (.int .u8 (zs[len - 1 - k]?.getD 0)) := fun h => (hnx.cell (p := ⟨b, off + (len - 1 - k), none⟩) hb).trans (hc _ (by omega))
  by_cases hlt : k < len
  ·obtain ⟨fn, tmps, assign, body, hy, hR⟩ := hY _ (backAt zs len k) wr hJs (by rw [upTo_length]; exact hlt)
   dsimp only [backAt] at hy
   have hcx' := hcx hlt
   obtain ⟨m, hm1, hm2, hm3⟩ : ∃ m : Nat, (len : Int) - 1 - k = m ∧ len - 1 - k = m ∧ m < len := ⟨len - 1 - k, by omega, rfl, by omega⟩
   rw [hm2] at hcx'
   rw [hm1, hm2] at hy
   rw [hm1]
   gi_wp2
   refine hR.mono ?_
   rintro e W3 (⟨rfl, hJ3, hk3⟩ | ⟨rfl, hJx3⟩)
   ·gi_wp2
    go_roundw
    case rel => exact ⟨k + 1, by omega, by congr 1; omega, by rw [upTo_succ]; exact hJ3, hk3.1 _ hBs', hnx.trans hk3.2⟩
    case measure => simp [intOf]
   ·gi_wp2
    refine bodyPost_ret (results_none rfl _ _ _) rfl ?_
    exact ⟨⟨_, rfl⟩, .inr ⟨_, ⟨k + 1, by omega, (upTo_succ _ _).symm⟩, hJx3⟩⟩
  ·obtain rfl : k = len := by omega
   gi_wp2
   go_end0
   exact ⟨⟨_, rfl⟩, .inl ⟨_, rfl, hJs⟩⟩
set_option maxRecDepth 100000 in
set_option maxHeartbeats 1000000 in
theorem back1_nil_in (F : Fence) (n : Nat) (h8 : F.fn 239) (hro : F.round = none) (l Bs : Nat) (J : List (Int × Int) → World → Prop) (W : World) (hBs : W.cell? ⟨Bs, 0, none⟩ = some (.slice none 0 0)) (h0 : J [] W) :
  CallsIn F n Tryz.prog 239 #[.func (.yield l) #[] #[], .pointer (some ⟨Bs, 0, none⟩)] W fun e W' => (∃ v, e = .returned v) ∧ J [] W' := by
 refine callsIn_of_wp Tryz.func239 rfl h8 ?_ hro
 simp only [Tryz.ntmps239, List.size_toArray, List.length_cons, List.length_nil, Nat.reduceAdd, Nat.reduceSub, Array.replicate_succ, Array.replicate_zero, List.push_toArray, List.append_toArray, List.nil_append, List.cons_append]
 gi_wp2
 gi_loopw [3] (fun i wr => i = .int .i64 (-1) ∧ J [] wr) (fun _ _ => 0)
 case atStart => exact ⟨rfl, h0⟩
 case round =>
  obtain ⟨rfl, hJs⟩ := hrel
  gi_wp2
  go_end0
  exact ⟨⟨_, rfl⟩, hJs⟩
set_option maxHeartbeats 1000000 in
theorem backward_in (F : Fence) (n : Nat) (h6 : F.fn 237) (hro : F.round = none) (a : Option Addr) (len cap : Nat) (w : World) :
  CallsIn F n Tryz.prog 237 #[.slice a len cap] w fun e w' => e = .returned (.func (.func 239) #[] #[.pointer (some ⟨w.heap.size, 0, none⟩)]) ∧ w' = w.alloc (.cells #[.slice a len cap] 305) := by
 refine callsIn_of_wp Tryz.func237 rfl h6 ?_ hro
 simp only [Tryz.ntmps237, List.size_toArray, List.length_cons, List.length_nil, Nat.reduceAdd, Nat.reduceSub, Array.replicate_succ, Array.replicate_zero, List.push_toArray, List.append_toArray, List.nil_append, List.cons_append]
 gi_wp2
 go_ret
 exact ⟨rfl, rfl⟩
def Bytes (n₀ : Nat) (W : World) (sv : Value) (zs : List Int) : Prop :=
 (sv = .slice none 0 0 ∧ zs = []) ∨ ∃ b off cap, sv = .slice (some ⟨b, off, none⟩) zs.length cap ∧ b < n₀ ∧ ∀ j, j < zs.length → W.cell? ⟨b, off + j, none⟩ = some (.int .u8 (zs[j]?.getD 0))
theorem Bytes.below {n₀ : Nat} {A B : World} (h : Below n₀ A B) {sv : Value} {zs : List Int} : Bytes n₀ A sv zs → Bytes n₀ B sv zs
 | .inl e => .inl e
 | .inr ⟨b, off, cap, e, hb, hc⟩ => .inr ⟨b, off, cap, e, hb, fun j hj => (h.cell (p := ⟨b, off + j, none⟩) hb).trans (hc j hj)⟩
theorem back_stops (F : Fence) (n : Nat) (h8 : F.fn 239) (hro : F.round = none) (hn : 1 ≤ n) (Bs n₀ : Nat) (sv : Value) (zs : List Int) (hreach : zs.length ≤ 140737488351232) (w : World) (hBs : Bs < w.heap.size) (hn₀ : n₀ ≤ w.heap.size)
  (hc : w.cell? ⟨Bs, 0, none⟩ = some sv) (hI : Bytes n₀ w sv zs) :
  SeqStopsK F n Tryz.prog 239 #[.pointer (some ⟨Bs, 0, none⟩)] (fun x : Int × Int => #[Value.int .i64 x.1, Value.int .u8 x.2]) (KeepB Bs n₀) (fun ys => ys = upTo (backAt zs zs.length) zs.length)
   (fun pre => ∃ k, k ≤ zs.length ∧ pre = upTo (backAt zs zs.length) k) zs.length w := fun l J Jx W hW _ _ hY h0 => by
 have hc' := (hW.cell (p := ⟨Bs, 0, none⟩) hBs).trans hc
 rcases hI.below (hW.mono hn₀) with ⟨rfl, rfl⟩ | ⟨b, off, cap, rfl, hb, hcs⟩
 ·exact (back1_nil_in F n h8 hro l Bs J W hc' h0).mono fun e W' ⟨he, hj⟩ => ⟨he, .inl ⟨_, rfl, hj⟩⟩
 ·exact back1_in F n h8 hro hn l Bs n₀ b off zs.length cap zs hreach hb J Jx hY W hc' hcs h0
def numStep (v : Int) (x : Int × Int) : Int := bits .or .u64 (IntKind.u64.wrap (v * 256)) (IntKind.u64.wrap x.2)
def leftOf (b off len cap n : Nat) : Value := .slice (some ⟨b, if cap = n then off else off + n, none⟩) (len - n) (cap - n)
set_option maxRecDepth 100000 in
set_option maxHeartbeats 1000000 in
theorem take_good (β b off len cap n : Nat) (w : World) (hn : 1 ≤ n) (hnl : n ≤ len) (hcap : len ≤ cap)
  (h0 : w.cell? ⟨β, 0, none⟩ = some (.slice (some ⟨b, off, none⟩) len cap)) (h1 : w.cell? ⟨β, 1, none⟩ = some (.bool false)) (hf : w.frozen? ⟨β, 0, none⟩ = false) :
  Calls Tryz.prog 238 #[.pointer (some ⟨β, 0, none⟩), .int .i64 n] w fun e W' => e = .returned (.slice (some ⟨b, off, none⟩) n cap) ∧ W' = w.setCell ⟨β, 0, none⟩ (leftOf b off len cap n) := by
 go_enter Tryz.func238, Tryz.ntmps238
 go_wp2
 ·go_ret
  exact ⟨rfl, by unfold leftOf; simp⟩
 ·have hcn : ¬ cap = n := by omega
  go_ret
  exact ⟨rfl, by unfold leftOf; rw [if_neg hcn]⟩
def gone (β : Nat) (w : World) : World := (w.setCell ⟨β, 0, none⟩ (.slice none 0 0)).setCell ⟨β, 1, none⟩ (.bool true)
set_option maxRecDepth 100000 in
set_option maxHeartbeats 1000000 in
theorem take_bad (β len cap n : Nat) (a : Option Addr) (bd : Bool) (w : World) (hbad : bd = true ∨ len < n)
  (h0 : w.cell? ⟨β, 0, none⟩ = some (.slice a len cap)) (h1 : w.cell? ⟨β, 1, none⟩ = some (.bool bd)) (hf : w.frozen? ⟨β, 0, none⟩ = false) (hf1 : w.frozen? ⟨β, 1, none⟩ = false) :
  Calls Tryz.prog 238 #[.pointer (some ⟨β, 0, none⟩), .int .i64 n] w fun e W' => e = .returned (.slice none 0 0) ∧ W' = gone β w := by
 cases bd with
 | true =>
  go_enter Tryz.func238, Tryz.ntmps238
  go_wp2
  go_ret
  exact ⟨rfl, rfl⟩
 | false =>
  have hbad : len < n := by simpa using hbad
  go_enter Tryz.func238, Tryz.ntmps238
  go_wp2
  go_ret
  exact ⟨rfl, rfl⟩
set_option maxRecDepth 100000 in
set_option maxHeartbeats 2000000 in
theorem number_bad (β len cap n : Nat) (ad : Option Addr) (bd : Bool) (w : World) (hbad : bd = true ∨ len < n) (hβ : β < w.heap.size)
  (h0 : w.cell? ⟨β, 0, none⟩ = some (.slice ad len cap)) (h1 : w.cell? ⟨β, 1, none⟩ = some (.bool bd)) (hf : w.frozen? ⟨β, 0, none⟩ = false) (hf1 : w.frozen? ⟨β, 1, none⟩ = false) :
  CallsIn Fence.wide 5 Tryz.prog 235 #[.pointer (some ⟨β, 0, none⟩), .int .i64 n] w fun e W' => e = .returned (.int .u64 0) ∧ Below w.heap.size (gone β w) W' := by
 refine callsIn_of_wp_marks Tryz.func235 rfl trivial ?_ rfl
 simp only [Tryz.ntmps235, List.size_toArray, List.length_cons, List.length_nil, Nat.reduceAdd, Nat.reduceSub, Array.replicate_succ, Array.replicate_zero, List.push_toArray, List.append_toArray, List.nil_append, List.cons_append]
 have h0' : (w.alloc (.cells #[.int .u64 0] 138)).cell? ⟨β, 0, none⟩ = some (.slice ad len cap) := by rw [World.cell?_alloc_lt _ _ _ hβ]; exact h0
 have h1' : (w.alloc (.cells #[.int .u64 0] 138)).cell? ⟨β, 1, none⟩ = some (.bool bd) := by rw [World.cell?_alloc_lt _ _ _ hβ]; exact h1
 have hf' : (w.alloc (.cells #[.int .u64 0] 138)).frozen? ⟨β, 0, none⟩ = false := by rw [frozen?_alloc_cells]; exact hf
 have hf1' : (w.alloc (.cells #[.int .u64 0] 138)).frozen? ⟨β, 1, none⟩ = false := by rw [frozen?_alloc_cells]; exact hf1
 gi_wp2_with (first | (refine ⟨trivial, ?_⟩; gi_at_call 237; refine (backward_in Fence.wide _ trivial rfl _ _ _ _).mono ?_; rintro e w' ⟨rfl, rfl⟩) | (refine ⟨trivial, ?_⟩; gi_at_call 238; refine (callsIn_wide.2 (take_bad β len cap n ad bd _ hbad h0' h1' hf' hf1')).mono ?_; rintro e w' ⟨rfl, rfl⟩; unfold gone))
 have hAs : (gone β w).heap.size = w.heap.size := by simp [gone]
 have hAe : (w.setCell ⟨β, 0, none⟩ (.slice none 0 0)).setCell ⟨β, 1, none⟩ (.bool true) = gone β w := rfl
 try rw [hAe]
 generalize hA : gone β w = A at hAs ⊢
 have bS := Boxed.new A 138 (.int .u64 0)
 have bN := Boxed.new (A.alloc (.cells #[.int .u64 0] 138)) 305 (.slice none 0 0)
 rw [World.size_alloc, hAs] at bN
 rw [hAs] at bS
 have hB0 : Below w.heap.size A ((A.alloc (.cells #[.int .u64 0] 138)).alloc (.cells #[.slice none 0 0] 305)) := ((Below.refl _ A).alloc (by omega) _).alloc (by simp; omega) _
 have hBy : Bytes w.heap.size A (.slice none 0 0) [] := .inl ⟨rfl, rfl⟩
 refine wpIn_rangeFunc_ownG rfl (by omega) (gf := 239) (lb := #[.pointer (some ⟨w.heap.size + 1, 0, none⟩)]) (by simp [Act.eval]) trivial (enters_of Tryz.func239 (by kernel_rfl) rfl)
  (back_stops Fence.wide 4 trivial rfl (by omega) (w.heap.size + 1) w.heap.size _ [] (by simp) _ (by simp; omega) (by simp; omega) bN.cell (hBy.below hB0)) KeepB.trans
  (fun W l o o' hl h hcl _ => ⟨fun v e => by
   have hne' : l ≠ w.heap.size + 1 := fun el => by
    subst el
    unfold World.cell? at e
    rw [h] at e
    cases o <;> simp_all [Obj.isCells]
   exact cell_kept e (grownBy_putObj' W l o') (fun r e => by cases e; exact ⟨_, h, hcl⟩), belowK_b (w := A) (by omega) W l o o' (by simp at hl; omega) h hcl (by assumption)⟩) (Below.refl _ _) (fun _ => rfl)
  (fun pre W => (W.cell? ⟨w.heap.size, 0, none⟩ = some (.int .u64 (pre.foldl numStep 0)) ∧ W.frozen? ⟨w.heap.size, 0, none⟩ = false) ∧ Below w.heap.size A W)
  (fun _ _ _ => False)
  (OwnFrom.and (Own.from (fun s A B row hs hg hr => ⟨cell_kept hs.1 hg hr, (frozen_kept hs.1 hg hr).trans hs.2⟩) _) (ownFrom_below (by omega) (by simp; omega)))
  (fun _ _ _ _ _ hs _ _ => hs)
  ⟨⟨(bS.alloc _).cell, (bS.alloc _).frozen⟩, hB0⟩
  (fun x => { tmps := #[.pointer (some ⟨β, 0, none⟩), .int .i64 n, undef, undef, .int .u64 0, .pointer (some ⟨w.heap.size, 0, none⟩), undef, .int .u8 x.2, .pointer (some ⟨β, 0, none⟩), .int .i64 n, .slice none 0 0, .func (.func 239) #[] #[.pointer (some ⟨w.heap.size + 1, 0, none⟩)], .int .i64 x.1, .int .u8 x.2, undef, undef, undef, undef, undef, undef], defers := [] }) ?assign ?body ?done ?stop
 case assign =>
  intro l x W K hK
  gi_wp2
  exact hK
 case body =>
  rintro l pre x W _ hlen
  exact absurd hlen (Nat.not_lt_zero _)
 case done =>
  rintro D ys W hD rfl ⟨⟨hc, _⟩, hB⟩ hK
  gi_wp2
  refine ⟨by simp, .inl ⟨_, _, rfl, run_takeDeferred hK, ?_⟩⟩
  exact ⟨_, results_tmp rfl _ _ _, rfl, by rw [hA]; exact hB.trans (belowK_b (w := A) (by omega) W D _ _ (by simp at hD; omega) hK rfl rfl)⟩
 case stop =>
  rintro D c pre W _ _ h _
  exact h.elim
set_option maxRecDepth 100000 in
set_option maxHeartbeats 2000000 in
theorem number_good (β b off len cap : Nat) (zs : List Int) (w : World) (hn : 1 ≤ zs.length) (hnl : zs.length ≤ len) (hcap : len ≤ cap) (hmax : zs.length ≤ 140737488351232) (hβ : β < w.heap.size)
  (hb : b < w.heap.size) (hne : b ≠ β) (h0 : w.cell? ⟨β, 0, none⟩ = some (.slice (some ⟨b, off, none⟩) len cap)) (h1 : w.cell? ⟨β, 1, none⟩ = some (.bool false)) (hf : w.frozen? ⟨β, 0, none⟩ = false)
  (hc : ∀ j, j < zs.length → w.cell? ⟨b, off + j, none⟩ = some (.int .u8 (zs[j]?.getD 0))) :
  CallsIn Fence.wide 5 Tryz.prog 235 #[.pointer (some ⟨β, 0, none⟩), .int .i64 (zs.length : Int)] w fun e W' => e = .returned (.int .u64 ((upTo (backAt zs zs.length) zs.length).foldl numStep 0)) ∧
   Below w.heap.size (w.setCell ⟨β, 0, none⟩ (leftOf b off len cap zs.length)) W' := by
 refine callsIn_of_wp_marks Tryz.func235 rfl trivial ?_ rfl
 simp only [Tryz.ntmps235, List.size_toArray, List.length_cons, List.length_nil, Nat.reduceAdd, Nat.reduceSub, Array.replicate_succ, Array.replicate_zero, List.push_toArray, List.append_toArray, List.nil_append, List.cons_append]
 have h0' : (w.alloc (.cells #[.int .u64 0] 138)).cell? ⟨β, 0, none⟩ = some (.slice (some ⟨b, off, none⟩) len cap) := by rw [World.cell?_alloc_lt _ _ _ hβ]; exact h0
 have h1' : (w.alloc (.cells #[.int .u64 0] 138)).cell? ⟨β, 1, none⟩ = some (.bool false) := by rw [World.cell?_alloc_lt _ _ _ hβ]; exact h1
 have hf' : (w.alloc (.cells #[.int .u64 0] 138)).frozen? ⟨β, 0, none⟩ = false := by rw [frozen?_alloc_cells]; exact hf
 gi_wp2_with (first | (refine ⟨trivial, ?_⟩; gi_at_call 237; refine (backward_in Fence.wide _ trivial rfl _ _ _ _).mono ?_; rintro e w' ⟨rfl, rfl⟩) | (refine ⟨trivial, ?_⟩; gi_at_call 238; refine (callsIn_wide.2 (take_good β b off len cap zs.length _ hn hnl hcap h0' h1' hf')).mono ?_; rintro e w' ⟨rfl, rfl⟩))
 have hAs : (w.setCell ⟨β, 0, none⟩ (leftOf b off len cap zs.length)).heap.size = w.heap.size := by simp
 generalize hA : w.setCell ⟨β, 0, none⟩ (leftOf b off len cap zs.length) = A at hAs ⊢
 have bS := Boxed.new A 138 (.int .u64 0)
 have bN := Boxed.new (A.alloc (.cells #[.int .u64 0] 138)) 305 (.slice (some ⟨b, off, none⟩) zs.length cap)
 rw [World.size_alloc, hAs] at bN
 rw [hAs] at bS
 have hB0 : Below w.heap.size A ((A.alloc (.cells #[.int .u64 0] 138)).alloc (.cells #[.slice (some ⟨b, off, none⟩) zs.length cap] 305)) := ((Below.refl _ A).alloc (by omega) _).alloc (by simp; omega) _
 have hBy : Bytes w.heap.size A (.slice (some ⟨b, off, none⟩) zs.length cap) zs := .inr ⟨b, off, cap, rfl, hb, fun j hj => by
  rw [← hA, World.cell?_setCell_other _ _ _ _ (by simp)]
  exact hc j hj⟩
 refine wpIn_rangeFunc_ownG rfl (by omega) (gf := 239) (lb := #[.pointer (some ⟨w.heap.size + 1, 0, none⟩)]) (by simp [Act.eval]) trivial (enters_of Tryz.func239 (by kernel_rfl) rfl)
  (back_stops Fence.wide 4 trivial rfl (by omega) (w.heap.size + 1) w.heap.size _ zs (by omega) _ (by simp; omega) (by simp; omega) bN.cell (hBy.below hB0)) KeepB.trans
  (fun W l o o' hl h hcl _ => ⟨fun v e => by
   have hne' : l ≠ w.heap.size + 1 := fun el => by
    subst el
    unfold World.cell? at e
    rw [h] at e
    cases o <;> simp_all [Obj.isCells]
   exact cell_kept e (grownBy_putObj' W l o') (fun r e => by cases e; exact ⟨_, h, hcl⟩), belowK_b (w := A) (by omega) W l o o' (by simp at hl; omega) h hcl (by assumption)⟩) (Below.refl _ _) (fun _ => rfl)
  (fun pre W => (W.cell? ⟨w.heap.size, 0, none⟩ = some (.int .u64 (pre.foldl numStep 0)) ∧ W.frozen? ⟨w.heap.size, 0, none⟩ = false) ∧ Below w.heap.size A W)
  (fun _ _ _ => False)
  (OwnFrom.and (Own.from (fun s A B row hs hg hr => ⟨cell_kept hs.1 hg hr, (frozen_kept hs.1 hg hr).trans hs.2⟩) _) (ownFrom_below (by omega) (by simp; omega)))
  (fun _ _ _ _ _ hs _ _ => hs)
  ⟨⟨(bS.alloc _).cell, (bS.alloc _).frozen⟩, hB0⟩
  (fun x => { tmps := #[.pointer (some ⟨β, 0, none⟩), .int .i64 (zs.length : Int), undef, undef, .int .u64 0, .pointer (some ⟨w.heap.size, 0, none⟩), undef, .int .u8 x.2, .pointer (some ⟨β, 0, none⟩), .int .i64 (zs.length : Int), .slice (some ⟨b, off, none⟩) zs.length cap, .func (.func 239) #[] #[.pointer (some ⟨w.heap.size + 1, 0, none⟩)], .int .i64 x.1, .int .u8 x.2, undef, undef, undef, undef, undef, undef], defers := [] }) ?assign ?body ?done ?stop
 case assign =>
  intro l x W K hK
  gi_wp2
  exact hK
 case body =>
  rintro l pre x W ⟨⟨hc, hf⟩, hB⟩ _
  gi_wp2
  refine ⟨(KeepsOthers.setCell _ _ _).from _, ⟨fun v e => ?_, (Below.refl w.heap.size W).setCell (p := ⟨w.heap.size, 0, none⟩) (Nat.le_refl _) _⟩, ⟨?_, by rw [World.frozen?_setCell]; exact hf⟩, hB.setCell (p := ⟨w.heap.size, 0, none⟩) (Nat.le_refl _) _⟩
  ·rw [World.cell?_setCell_other _ _ _ _ (by simp)]; exact e
  ·rw [List.foldl_append]; exact World.cell?_setCell_same' _ _ _ (by rw [hc]; rfl)
 case done =>
  rintro D ys W hD rfl ⟨⟨hc, _⟩, hB⟩ hK
  gi_wp2
  refine ⟨by simp, .inl ⟨_, _, rfl, run_takeDeferred hK, ?_⟩⟩
  exact ⟨_, results_tmp rfl _ _ _, rfl, by rw [hA]; exact hB.trans (belowK_b (w := A) (by omega) W D _ _ (by simp at hD; omega) hK rfl rfl)⟩
 case stop =>
  rintro D c pre W _ _ h _
  exact h.elim
end Go.Proofs.YthpljlpokmoeeaaGreatDoor
namespace Go.Proofs.YthpljlpokmoeeaaGreatDoor.Mir
open Go Go.RowKit
def numV (zs : List Int) : Int := (upTo (backAt zs zs.length) zs.length).foldl numStep 0
def rdF (n : Int) (xs : List Int) (bd : Bool) : Option (Int × List Int × Bool) :=
 bif decide (1 ≤ n ∧ n ≤ 140737488351232) then (bif bd || decide ((xs.length : Int) < n) then some (0, [], true) else some (numV (xs.take n.toNat), xs.drop n.toNat, false)) else none
def rdS : Sum := fnSum 2 1 1 [.one (.ptr 0 0), .one (.d (.int .i64)), .agg [.d (.sl [.int .u8]), .d .bool]] [.one (.d (.int .u64)), .agg [.d (.sl [.int .u8]), .d .bool]] (fun p => rdF p.2.1 p.2.2.1 p.2.2.2)
theorem ends1 {n : Nat} {PS RS : List ShA} {F : TAs PS → Option (TAs RS)} {al : List A} {cs cs' : List C} {r : TAs RS} {g : Gh} {w w' : World} {v : Value} {β : Nat} {vs : Array Value} {ty : TypeId}
  (htk : tksOf RS = []) (hB : Blks g w [cs]) (hk : Knows g w) (hj : g.j 0 = some β) (hout : ((fnSum n 1 1 PS RS F).out al [cs] r).2 = [cs'])
  (hv : RepV { K := g.K, j := g.j, th := fun _ _ => none } ((fnSum n 1 1 PS RS F).out al [cs] r).1 v)
  (hb : w'.heap[β]? = some (.cells vs ty (0, 0))) (hr : RepL { K := g.K, j := g.j, th := fun _ _ => none } cs' vs.toList) (ho : Only (fun k => k = β) w w') : Ends (fnSum n 1 1 PS RS F) al [cs] r g w v w' { K := g.K, j := g.j, th := fun _ _ => none } := by
 obtain ⟨β0, _, _, h1, h2, _, h4⟩ := hB.blk 0 cs rfl
 obtain rfl := Option.some.inj (hj.symm.trans h1)
 have dom : ∀ n β', g.j n = some β' → n = 0 := fun n β' e => by
  obtain ⟨i, h5, h6⟩ := hB.dom n β' e
  simp only [List.length_singleton] at h6
  omega
 refine ⟨fun _ _ _ e => e, fun _ _ _ e => .inl e, fun β' o u e => ?_, hv, ⟨fun i cs0 e => ?_, fun i k β' e1 e2 => ?_, fun m β' e => ?_⟩, ?_, fun i _ => rfl, fun i β' hi e => ?_, noTks (fun _ _ => rfl) (fun p => ?_), noLvs (fun p => ?_), fun β' ⟨n', e, cap, h⟩ => (by cases h), ?_⟩
 ·have hne : β' ≠ β := fun e' => by subst e'; have := h4 o; rw [this] at e; cases e
  have := hk β' o u e
  have hl := block_lt_of_cell this
  unfold World.cell? at this ⊢
  rw [ho.block β' hl hne]; exact this
 ·rw [hout] at e
  cases i with
  | zero => simp at e; subst e; exact ⟨β, vs, ty, h1, hb, hr, h4⟩
  | succ i => simp at e
 ·have := dom _ _ e1; have := dom _ _ e2; omega
 ·rw [hout]; exact ⟨0, dom m β' e, by simp⟩
 ·rw [hout]; simp
 ·have := dom _ _ e; simp at hi; omega
 ·show (tksOf RS)[p]? = none
  rw [htk]; rfl
 ·show (tksOf RS)[p]? = none
  rw [htk]; rfl
 ·exact ho.mono fun k _ e => .inl ⟨0, by simp, by subst e; exact h1⟩
theorem setCell_row {w : World} {β o : Nat} {vs : Array Value} {ty : TypeId} {u : Value} (h : w.heap[β]? = some (.cells vs ty (0, 0))) : (w.setCell ⟨β, o, none⟩ u).heap[β]? = some (.cells (vs.setIfInBounds o u) ty (0, 0)) := by
 have hl := (Array.getElem?_eq_some_iff.1 h).1
 have he := (Array.getElem?_eq_some_iff.1 h).2
 show (w.heap.modify β _)[β]? = _
 rw [Array.getElem?_eq_getElem (by simpa using hl), Array.getElem_modify_self, he]
 rfl
theorem frozen_row {w : World} {β o : Nat} {vs : Array Value} {ty : TypeId} (h : w.heap[β]? = some (.cells vs ty (0, 0))) : w.frozen? ⟨β, o, none⟩ = false := by
 simp [World.frozen?, h]
set_option maxRecDepth 100000 in
theorem rdS_ok {laid : List (Nat × Nat × Value)} : SumOk Tryz.prog laid 235 rdS := by
 intro al bs r hr g w vs hlaid hknown hA hB hTk hLv
 simp only [rdS, fnSum] at hr
 cases hk : (Nat.beq al.length 2 && Nat.beq bs.length 1) with
 | false => rw [hk] at hr; cases hr
 | true =>
  rw [hk] at hr
  simp only [cond_true] at hr
  simp only [Bool.and_eq_true] at hk
  obtain ⟨a0, a1, rfl⟩ : ∃ a0 a1, al = [a0, a1] := by
   match al, Nat.eq_of_beq_eq_true hk.1 with
   | [a0, a1], _ => exact ⟨a0, a1, rfl⟩
  obtain ⟨cs, rfl⟩ : ∃ cs, bs = [cs] := by
   match bs, Nat.eq_of_beq_eq_true hk.2 with
   | [cs], _ => exact ⟨cs, rfl⟩
  split at hr
  ·rename_i p ep
   obtain ⟨u, n, xs, bd⟩ := p
   simp only at hr
   obtain ⟨d1, d2⟩ := decAs_get ep
   obtain ⟨x0, _, rfl, h0, x1, _, rfl, h1, rfl⟩ := hA
   obtain ⟨a0', e0, q0, _⟩ := d2 0 a0 rfl
   obtain rfl := Option.some.inj e0
   obtain ⟨β, hj, rfl⟩ : RepC g (.ptr 0 0) x0 := q0 g x0 h0
   obtain ⟨a1', e1, q1, _⟩ := d2 1 a1 rfl
   obtain rfl := Option.some.inj e1
   obtain rfl : x1 = .int .i64 n := q1 g x1 h1
   obtain ⟨a2', e2, q2, _⟩ := d2 2 (.agg cs) rfl
   obtain rfl := Option.some.inj e2
   obtain ⟨β', vs', ty, hb1, hb2, hb3, hb4⟩ := hB.blk 0 cs rfl
   obtain rfl := Option.some.inj (hj.symm.trans hb1)
   obtain ⟨us, eu, hu⟩ := q2 g (.agg vs') ⟨vs'.toList, by simp, hb3⟩
   injection eu with eu
   subst eu
   obtain ⟨sv, _, rfl, hs, bv, _, rfl, hv, rfl⟩ : RepL g [.sl none [.int .u8] xs, boolC bd] us := hu
   obtain rfl : bv = .bool bd := hv
   have hβ : β < w.heap.size := (Array.getElem?_eq_some_iff.1 hb2).1
   have c0 : w.cell? ⟨β, 0, none⟩ = some sv := by rw [cell_row hb2]; rfl
   have c1 : w.cell? ⟨β, 1, none⟩ = some (.bool bd) := by rw [cell_row hb2]; rfl
   have f0 := frozen_row (o := 0) hb2
   have f1 := frozen_row (o := 1) hb2
   unfold rdF at hr
   cases hn : decide (1 ≤ n ∧ n ≤ 140737488351232) with
   | false => rw [hn] at hr; cases hr
   | true =>
    rw [hn] at hr
    simp only [cond_true] at hr
    obtain ⟨hn1, hn2⟩ := of_decide_eq_true hn
    obtain ⟨m, hm⟩ := Int.eq_ofNat_of_zero_le (a := n) (Int.le_trans (by decide) hn1)
    subst hm
    have hn1 : (1 : Int) ≤ (m : Int) := hn1
    have hn2 : (m : Int) ≤ (140737488351232 : Int) := hn2
    have hslice : ∃ ad cap, sv = .slice ad xs.length cap := by
     rcases hs.1 with ⟨rfl, ad, cz, rfl⟩ | ⟨b, off, cap, rfl, _⟩
     ·exact ⟨ad, cz, rfl⟩
     ·exact ⟨_, cap, rfl⟩
    cases hbad : (bd || decide ((xs.length : Int) < (m : Int))) with
    | true =>
     rw [hbad] at hr
     obtain rfl := Option.some.inj hr
     obtain ⟨ad, cap, rfl⟩ := hslice
     have hb' : bd = true ∨ xs.length < m := by
      rcases Bool.or_eq_true_iff.1 hbad with h | h
      ·exact .inl h
      ·have h2 : ((List.length (α := Int) xs : Nat) : Int) < (m : Int) := of_decide_eq_true h
       exact .inr (by omega)
     have hC := callsIn_wide.1 (number_bad β xs.length cap m ad bd w hb' hβ c0 c1 f0 f1)
     refine invokes_of_calls Tryz.func235 (by kernel_rfl) rfl (Calls.mono hC ?_)
     rintro e w' ⟨rfl, hw⟩
     refine ⟨_, rfl, _, ends1 (cs := cs) (cs' := [.sl none [.int .u8] [], boolC true]) (β := β) (vs := #[.slice none 0 0, .bool true]) (ty := ty) rfl hB hknown hj rfl rfl ?_ ?_ ?_⟩
     ·rw [hw.block β hβ]
      exact setCell_row (setCell_row hb2)
     ·exact ⟨_, _, rfl, ⟨.inl ⟨rfl, none, 0, rfl⟩, fun _ _ e => by cases e⟩, _, _, rfl, rfl, rfl⟩
     ·refine ⟨hw.os, hw.tape, hw.output, ?_, fun k hk hne => ?_⟩
      ·have := hw.size; simpa [gone] using this
      ·rw [hw.block k hk]
       unfold gone
       rw [Below.heap_setCell _ _ _ _ hne, Below.heap_setCell _ _ _ _ hne]
    | false =>
     rw [hbad] at hr
     obtain rfl := Option.some.inj hr
     obtain ⟨rfl, hlt⟩ := Bool.or_eq_false_iff.1 hbad
     have hlt : ¬ (((List.length (α := Int) xs : Nat) : Int) < (m : Int)) := of_decide_eq_false hlt
     rcases hs.1 with ⟨rfl, _⟩ | ⟨b, off, cap, rfl, hcap, hel⟩
     ·simp at hlt; omega
     have hcap : List.length (α := Int) xs ≤ cap := hcap
     have hbl : ∀ j, j < List.length (α := Int) xs → g.K b (off + j) = some (.int .u8 (xs[j]?.getD 0)) := fun j hj => by
      obtain ⟨us, u1, u2, u3⟩ := hel j xs[j] (List.getElem?_eq_getElem hj)
      obtain rfl : us = [Value.int .u8 xs[j]] := u2
      have := u3 0 _ rfl
      rw [List.getElem?_eq_getElem hj]
      simpa [widSL, widS] using this
     have hbK := hbl 0 (by omega)
     have hbs : b < w.heap.size := block_lt_of_cell (hknown _ _ _ hbK)
     have hne : b ≠ β := fun e => by subst e; rw [hb4] at hbK; cases hbK
     have hzl : (xs.take m).length = m := by rw [List.length_take]; omega
     have hC := callsIn_wide.1 (number_good β b off xs.length cap (xs.take m) w (by omega) (by omega) hcap (by omega) hβ hbs hne c0 c1 f0 (fun j hj => by
      rw [hknown _ _ _ (hbl j (by omega)), List.getElem?_take, if_pos (by omega)]))
     rw [hzl] at hC
     refine invokes_of_calls Tryz.func235 (by kernel_rfl) rfl (Calls.mono hC ?_)
     rintro e w' ⟨rfl, hw⟩
     refine ⟨_, rfl, _, ends1 (cs := cs) (cs' := [.sl none [.int .u8] (xs.drop m), boolC false]) (β := β) (vs := #[leftOf b off xs.length cap m, .bool false]) (ty := ty) rfl hB hknown hj rfl ?_ ?_ ?_ ?_⟩
     ·show Value.int .u64 _ = Value.int .u64 (numV (xs.take m))
      unfold numV
      rw [hzl]
     ·rw [hw.block β hβ]
      exact setCell_row hb2
     ·refine ⟨_, _, rfl, ⟨?_, fun _ _ e => by cases e⟩, _, _, rfl, rfl, rfl⟩
      show RowS g.K _ _ (xs.drop m) (leftOf b off xs.length cap m)
      unfold leftOf
      refine .inr ⟨b, if cap = m then off else off + m, cap - m, by simp, by simp; omega, fun i x hx => ?_⟩
      rw [List.getElem?_drop] at hx
      have hi := (List.getElem?_eq_some_iff.1 hx).1
      obtain ⟨us, u1, u2, u3⟩ := hel (m + i) x hx
      refine ⟨us, u1, u2, fun j u hu => ?_⟩
      rw [if_neg (by omega)]
      have := u3 j u hu
      rw [show off + m + (i * widSL [.int .u8] + j) = off + ((m + i) * widSL [.int .u8] + j) by simp [widSL, widS]; omega]
      exact this
     ·refine ⟨hw.os, hw.tape, hw.output, ?_, fun k hk hne => ?_⟩
      ·have := hw.size; simpa using this
      ·rw [hw.block k hk, Below.heap_setCell _ _ _ _ hne]
  ·cases hr
end Go.Proofs.YthpljlpokmoeeaaGreatDoor.Mir
namespace Go.Proofs.YthpljlpokmoeeaaGreatDoor.Mir
open Go Go.RowKit
set_option maxRecDepth 1000000
def trimF (s c : ByteArray) : Option (TAs [.one (.d .str)]) := bif Nat.blt c.size 4294967281 && c.data.toList.all (fun b => Nat.blt b.toNat 128) then some ⟨(Lib.trimLeftS s.data.toList c.data.toList).toArray⟩ else none
def trimS : Sum := fnSum 2 0 1 [.one (.d .str), .one (.d .str)] [.one (.d .str)] (fun p => trimF p.1 p.2)
theorem trimS_ok : SumOk Tryz.prog laidL 70 trimS := by
 refine bridge rfl (fun _ => rfl) ?_
 rintro ⟨s, c⟩ r h g w vs _ ⟨_, _, rfl, hs, _, _, rfl, hc, rfl⟩
 simp only [trimF] at h
 cases hk : (Nat.blt c.size 4294967281 && c.data.toList.all (fun b => Nat.blt b.toNat 128)) with
 | false => rw [hk] at h; cases h
 | true =>
  rw [hk] at h
  obtain rfl := Option.some.inj h
  simp only [Bool.and_eq_true] at hk
  cases hs; cases hc
  refine invokes_of_calls Tryz.func70 (by kernel_rfl) (by kernel_rfl) ((Any.strings_TrimLeft_laid Tryz.lays161 (by kernel_rfl) s c w (Nat.le_of_ble_eq_true hk.1) (fun j b hb => ?_)).mono ?_)
  ·exact Nat.le_of_ble_eq_true (List.all_eq_true.1 hk.2 b (List.mem_of_getElem? hb))
  ·rintro e w' ⟨rfl, hw⟩
   exact ⟨_, rfl, rfl, hw⟩
end Go.Proofs.YthpljlpokmoeeaaGreatDoor.Mir
namespace Go.Proofs.YthpljlpokmoeeaaGreatDoor.Mir
open Go Go.RowKit
set_option maxRecDepth 100000
def ti_2 : TI := ⟨.int .i64, 1, 8, [int .i64 0], [.int .i64]⟩
theorem tk_2 : TyOk1 Go.Proofs.Tryz.prog 2 ti_2 := ⟨by kernel_rfl, fieldsNone (fun fs h => by cases h), ⟨Go.Proofs.Tryz.t2, (Go.Proofs.Tryz.t2.zero).getD .nilIface, by kernel_rfl, by kernel_rfl, by kernel_rfl, by kernel_rfl, by kernel_rfl⟩⟩
def ti_3 : TI := ⟨.int .i64, 1, 8, [int .i64 0], [.int .i64]⟩
theorem tk_3 : TyOk1 Go.Proofs.Tryz.prog 3 ti_3 := ⟨by kernel_rfl, fieldsNone (fun fs h => by cases h), ⟨Go.Proofs.Tryz.t3, (Go.Proofs.Tryz.t3.zero).getD .nilIface, by kernel_rfl, by kernel_rfl, by kernel_rfl, by kernel_rfl, by kernel_rfl⟩⟩
def ti_4 : TI := ⟨.bool, 1, 1, [boolC false], [.bool]⟩
theorem tk_4 : TyOk1 Go.Proofs.Tryz.prog 4 ti_4 := ⟨by kernel_rfl, fieldsNone (fun fs h => by cases h), ⟨Go.Proofs.Tryz.t4, (Go.Proofs.Tryz.t4.zero).getD .nilIface, by kernel_rfl, by kernel_rfl, by kernel_rfl, by kernel_rfl, by kernel_rfl⟩⟩
def ti_5 : TI := ⟨.int .u8, 1, 1, [int .u8 0], [.int .u8]⟩
theorem tk_5 : TyOk1 Go.Proofs.Tryz.prog 5 ti_5 := ⟨by kernel_rfl, fieldsNone (fun fs h => by cases h), ⟨Go.Proofs.Tryz.t5, (Go.Proofs.Tryz.t5.zero).getD .nilIface, by kernel_rfl, by kernel_rfl, by kernel_rfl, by kernel_rfl, by kernel_rfl⟩⟩
def ti_9 : TI := ⟨.string, 1, 16, [.lit (.string ByteArray.empty)], [.str]⟩
theorem tk_9 : TyOk1 Go.Proofs.Tryz.prog 9 ti_9 := ⟨by kernel_rfl, fieldsNone (fun fs h => by cases h), ⟨Go.Proofs.Tryz.t9, (Go.Proofs.Tryz.t9.zero).getD .nilIface, by kernel_rfl, by kernel_rfl, by kernel_rfl, by kernel_rfl, by kernel_rfl⟩⟩
def ti_28 : TI := ⟨.struct #[{ name := "Kind", type := 3, offset := 0, embedded := false, tag := "", pkgPath := "", byteOffset := 0 }, { name := "Before", type := 2, offset := 1, embedded := false, tag := "", pkgPath := "", byteOffset := 8 }, { name := "After", type := 2, offset := 2, embedded := false, tag := "", pkgPath := "", byteOffset := 16 }], 3, 24, [int .i64 0, int .i64 0, int .i64 0], [.int .i64, .int .i64, .int .i64]⟩
theorem tk_28 : TyOk1 Go.Proofs.Tryz.prog 28 ti_28 := ⟨by kernel_rfl, fieldsSome rfl (by kernel_rfl), ⟨Go.Proofs.Tryz.t28, (Go.Proofs.Tryz.t28.zero).getD .nilIface, by kernel_rfl, by kernel_rfl, by kernel_rfl, by kernel_rfl, by kernel_rfl⟩⟩
def ti_30 : TI := ⟨.struct #[{ name := "Width", type := 2, offset := 0, embedded := false, tag := "", pkgPath := "", byteOffset := 0 }, { name := "Cell", type := 2, offset := 1, embedded := false, tag := "", pkgPath := "", byteOffset := 8 }], 2, 16, [int .i64 0, int .i64 0], [.int .i64, .int .i64]⟩
theorem tk_30 : TyOk1 Go.Proofs.Tryz.prog 30 ti_30 := ⟨by kernel_rfl, fieldsSome rfl (by kernel_rfl), ⟨Go.Proofs.Tryz.t30, (Go.Proofs.Tryz.t30.zero).getD .nilIface, by kernel_rfl, by kernel_rfl, by kernel_rfl, by kernel_rfl, by kernel_rfl⟩⟩
def ti_31 : TI := ⟨.slice 124, 1, 24, [.lit (.slice none 0 0)], [.sl [.int .i64, .int .i64, .str]]⟩
theorem tk_31 : TyOk1 Go.Proofs.Tryz.prog 31 ti_31 := ⟨by kernel_rfl, fieldsNone (fun fs h => by cases h), ⟨Go.Proofs.Tryz.t31, (Go.Proofs.Tryz.t31.zero).getD .nilIface, by kernel_rfl, by kernel_rfl, by kernel_rfl, by kernel_rfl, by kernel_rfl⟩⟩
def ti_33 : TI := ⟨.struct #[{ name := "Name", type := 9, offset := 0, embedded := false, tag := "", pkgPath := "", byteOffset := 0 }, { name := "First", type := 2, offset := 1, embedded := false, tag := "", pkgPath := "", byteOffset := 16 }, { name := "L", type := 31, offset := 2, embedded := false, tag := "", pkgPath := "", byteOffset := 24 }], 3, 48, [.lit (.string ByteArray.empty), int .i64 0, .lit (.slice none 0 0)], [.str, .int .i64, .sl [.int .i64, .int .i64, .str]]⟩
theorem tk_33 : TyOk1 Go.Proofs.Tryz.prog 33 ti_33 := ⟨by kernel_rfl, fieldsSome rfl (by kernel_rfl), ⟨Go.Proofs.Tryz.t33, (Go.Proofs.Tryz.t33.zero).getD .nilIface, by kernel_rfl, by kernel_rfl, by kernel_rfl, by kernel_rfl, by kernel_rfl⟩⟩
def ti_35 : TI := ⟨.struct #[{ name := "Smear", type := 28, offset := 0, embedded := false, tag := "", pkgPath := "", byteOffset := 0 }, { name := "Quantum", type := 2, offset := 3, embedded := false, tag := "", pkgPath := "", byteOffset := 24 }, { name := "Fuzz", type := 30, offset := 4, embedded := false, tag := "", pkgPath := "", byteOffset := 32 }, { name := "Jump", type := 4, offset := 6, embedded := false, tag := "", pkgPath := "", byteOffset := 48 }, { name := "Zone", type := 33, offset := 7, embedded := false, tag := "", pkgPath := "", byteOffset := 56 }], 10, 104, [int .i64 0, int .i64 0, int .i64 0, int .i64 0, int .i64 0, int .i64 0, boolC false, .lit (.string ByteArray.empty), int .i64 0, .lit (.slice none 0 0)], [.int .i64, .int .i64, .int .i64, .int .i64, .int .i64, .int .i64, .bool, .str, .int .i64, .sl [.int .i64, .int .i64, .str]]⟩
theorem tk_35 : TyOk1 Go.Proofs.Tryz.prog 35 ti_35 := ⟨by kernel_rfl, fieldsSome rfl (by kernel_rfl), ⟨Go.Proofs.Tryz.t35, (Go.Proofs.Tryz.t35.zero).getD .nilIface, by kernel_rfl, by kernel_rfl, by kernel_rfl, by kernel_rfl, by kernel_rfl⟩⟩
def ti_36 : TI := ⟨.array 3 2, 3, 24, [.arr .i64 3 (List.replicate 3 0)], [.arr .i64 3]⟩
theorem tk_36 : TyOk1 Go.Proofs.Tryz.prog 36 ti_36 := ⟨by kernel_rfl, fieldsNone (fun fs h => by cases h), ⟨Go.Proofs.Tryz.t36, (Go.Proofs.Tryz.t36.zero).getD .nilIface, by kernel_rfl, by kernel_rfl, by kernel_rfl, by kernel_rfl, by kernel_rfl⟩⟩
def ti_43 : TI := ⟨.struct #[{ name := "Kind", type := 3, offset := 0, embedded := false, tag := "", pkgPath := "", byteOffset := 0 }, { name := "Before", type := 2, offset := 1, embedded := false, tag := "", pkgPath := "", byteOffset := 8 }, { name := "After", type := 2, offset := 2, embedded := false, tag := "", pkgPath := "", byteOffset := 16 }], 3, 24, [int .i64 0, int .i64 0, int .i64 0], [.int .i64, .int .i64, .int .i64]⟩
theorem tk_43 : TyOk1 Go.Proofs.Tryz.prog 43 ti_43 := ⟨by kernel_rfl, fieldsSome rfl (by kernel_rfl), ⟨Go.Proofs.Tryz.t43, (Go.Proofs.Tryz.t43.zero).getD .nilIface, by kernel_rfl, by kernel_rfl, by kernel_rfl, by kernel_rfl, by kernel_rfl⟩⟩
def ti_44 : TI := ⟨.struct #[{ name := "Width", type := 2, offset := 0, embedded := false, tag := "", pkgPath := "", byteOffset := 0 }, { name := "Cell", type := 2, offset := 1, embedded := false, tag := "", pkgPath := "", byteOffset := 8 }], 2, 16, [int .i64 0, int .i64 0], [.int .i64, .int .i64]⟩
theorem tk_44 : TyOk1 Go.Proofs.Tryz.prog 44 ti_44 := ⟨by kernel_rfl, fieldsSome rfl (by kernel_rfl), ⟨Go.Proofs.Tryz.t44, (Go.Proofs.Tryz.t44.zero).getD .nilIface, by kernel_rfl, by kernel_rfl, by kernel_rfl, by kernel_rfl, by kernel_rfl⟩⟩
def ti_45 : TI := ⟨.slice 195, 1, 24, [.lit (.slice none 0 0)], [.sl [.int .i64, .int .i64, .str]]⟩
theorem tk_45 : TyOk1 Go.Proofs.Tryz.prog 45 ti_45 := ⟨by kernel_rfl, fieldsNone (fun fs h => by cases h), ⟨Go.Proofs.Tryz.t45, (Go.Proofs.Tryz.t45.zero).getD .nilIface, by kernel_rfl, by kernel_rfl, by kernel_rfl, by kernel_rfl, by kernel_rfl⟩⟩
def ti_47 : TI := ⟨.struct #[{ name := "Name", type := 9, offset := 0, embedded := false, tag := "", pkgPath := "", byteOffset := 0 }, { name := "First", type := 2, offset := 1, embedded := false, tag := "", pkgPath := "", byteOffset := 16 }, { name := "L", type := 45, offset := 2, embedded := false, tag := "", pkgPath := "", byteOffset := 24 }], 3, 48, [.lit (.string ByteArray.empty), int .i64 0, .lit (.slice none 0 0)], [.str, .int .i64, .sl [.int .i64, .int .i64, .str]]⟩
theorem tk_47 : TyOk1 Go.Proofs.Tryz.prog 47 ti_47 := ⟨by kernel_rfl, fieldsSome rfl (by kernel_rfl), ⟨Go.Proofs.Tryz.t47, (Go.Proofs.Tryz.t47.zero).getD .nilIface, by kernel_rfl, by kernel_rfl, by kernel_rfl, by kernel_rfl, by kernel_rfl⟩⟩
def ti_49 : TI := ⟨.struct #[{ name := "Smear", type := 43, offset := 0, embedded := false, tag := "", pkgPath := "", byteOffset := 0 }, { name := "Quantum", type := 2, offset := 3, embedded := false, tag := "", pkgPath := "", byteOffset := 24 }, { name := "Fuzz", type := 44, offset := 4, embedded := false, tag := "", pkgPath := "", byteOffset := 32 }, { name := "Jump", type := 4, offset := 6, embedded := false, tag := "", pkgPath := "", byteOffset := 48 }, { name := "Zone", type := 47, offset := 7, embedded := false, tag := "", pkgPath := "", byteOffset := 56 }], 10, 104, [int .i64 0, int .i64 0, int .i64 0, int .i64 0, int .i64 0, int .i64 0, boolC false, .lit (.string ByteArray.empty), int .i64 0, .lit (.slice none 0 0)], [.int .i64, .int .i64, .int .i64, .int .i64, .int .i64, .int .i64, .bool, .str, .int .i64, .sl [.int .i64, .int .i64, .str]]⟩
theorem tk_49 : TyOk1 Go.Proofs.Tryz.prog 49 ti_49 := ⟨by kernel_rfl, fieldsSome rfl (by kernel_rfl), ⟨Go.Proofs.Tryz.t49, (Go.Proofs.Tryz.t49.zero).getD .nilIface, by kernel_rfl, by kernel_rfl, by kernel_rfl, by kernel_rfl, by kernel_rfl⟩⟩
def ti_54 : TI := ⟨.interface #[("Error", 349)], 1, 16, [.lit .nilIface], [.err 129]⟩
theorem tk_54 : TyOk1 Go.Proofs.Tryz.prog 54 ti_54 := ⟨by kernel_rfl, fieldsNone (fun fs h => by cases h), ⟨Go.Proofs.Tryz.t54, (Go.Proofs.Tryz.t54.zero).getD .nilIface, by kernel_rfl, by kernel_rfl, by kernel_rfl, by kernel_rfl, by kernel_rfl⟩⟩
def ti_65 : TI := ⟨.struct #[{ name := "Value", type := 2, offset := 0, embedded := false, tag := "", pkgPath := "", byteOffset := 0 }, { name := "Bound", type := 2, offset := 1, embedded := false, tag := "", pkgPath := "", byteOffset := 8 }, { name := "Raised", type := 2, offset := 2, embedded := false, tag := "", pkgPath := "", byteOffset := 16 }, { name := "Host", type := 2, offset := 3, embedded := false, tag := "", pkgPath := "", byteOffset := 24 }], 4, 32, [int .i64 0, int .i64 0, int .i64 0, int .i64 0], [.int .i64, .int .i64, .int .i64, .int .i64]⟩
theorem tk_65 : TyOk1 Go.Proofs.Tryz.prog 65 ti_65 := ⟨by kernel_rfl, fieldsSome rfl (by kernel_rfl), ⟨Go.Proofs.Tryz.t65, (Go.Proofs.Tryz.t65.zero).getD .nilIface, by kernel_rfl, by kernel_rfl, by kernel_rfl, by kernel_rfl, by kernel_rfl⟩⟩
def ti_71 : TI := ⟨.array 16 5, 16, 16, [.arr .u8 16 (List.replicate 16 0)], [.arr .u8 16]⟩
theorem tk_71 : TyOk1 Go.Proofs.Tryz.prog 71 ti_71 := ⟨by kernel_rfl, fieldsNone (fun fs h => by cases h), ⟨Go.Proofs.Tryz.t71, (Go.Proofs.Tryz.t71.zero).getD .nilIface, by kernel_rfl, by kernel_rfl, by kernel_rfl, by kernel_rfl, by kernel_rfl⟩⟩
def ti_73 : TI := ⟨.struct #[{ name := "On", type := 4, offset := 0, embedded := false, tag := "", pkgPath := "", byteOffset := 0 }, { name := "At", type := 2, offset := 1, embedded := false, tag := "", pkgPath := "", byteOffset := 8 }, { name := "Lost", type := 2, offset := 2, embedded := false, tag := "", pkgPath := "", byteOffset := 16 }], 3, 24, [boolC false, int .i64 0, int .i64 0], [.bool, .int .i64, .int .i64]⟩
theorem tk_73 : TyOk1 Go.Proofs.Tryz.prog 73 ti_73 := ⟨by kernel_rfl, fieldsSome rfl (by kernel_rfl), ⟨Go.Proofs.Tryz.t73, (Go.Proofs.Tryz.t73.zero).getD .nilIface, by kernel_rfl, by kernel_rfl, by kernel_rfl, by kernel_rfl, by kernel_rfl⟩⟩
def ti_75 : TI := ⟨.struct #[{ name := "Set", type := 4, offset := 0, embedded := false, tag := "", pkgPath := "", byteOffset := 0 }, { name := "At", type := 2, offset := 1, embedded := false, tag := "", pkgPath := "", byteOffset := 8 }], 2, 16, [boolC false, int .i64 0], [.bool, .int .i64]⟩
theorem tk_75 : TyOk1 Go.Proofs.Tryz.prog 75 ti_75 := ⟨by kernel_rfl, fieldsSome rfl (by kernel_rfl), ⟨Go.Proofs.Tryz.t75, (Go.Proofs.Tryz.t75.zero).getD .nilIface, by kernel_rfl, by kernel_rfl, by kernel_rfl, by kernel_rfl, by kernel_rfl⟩⟩
def ti_77 : TI := ⟨.struct #[{ name := "Name", type := 9, offset := 0, embedded := false, tag := "", pkgPath := "", byteOffset := 0 }, { name := "Key", type := 71, offset := 1, embedded := false, tag := "", pkgPath := "", byteOffset := 16 }, { name := "P", type := 35, offset := 17, embedded := false, tag := "", pkgPath := "", byteOffset := 32 }, { name := "Pause", type := 73, offset := 27, embedded := false, tag := "", pkgPath := "", byteOffset := 136 }, { name := "Floor", type := 75, offset := 30, embedded := false, tag := "", pkgPath := "", byteOffset := 160 }, { name := "Epoch", type := 2, offset := 32, embedded := false, tag := "", pkgPath := "", byteOffset := 176 }], 33, 184, [.lit (.string ByteArray.empty), .arr .u8 16 (List.replicate 16 0), int .i64 0, int .i64 0, int .i64 0, int .i64 0, int .i64 0, int .i64 0, boolC false, .lit (.string ByteArray.empty), int .i64 0, .lit (.slice none 0 0), boolC false, int .i64 0, int .i64 0, boolC false, int .i64 0, int .i64 0], [.str, .arr .u8 16, .int .i64, .int .i64, .int .i64, .int .i64, .int .i64, .int .i64, .bool, .str, .int .i64, .sl [.int .i64, .int .i64, .str], .bool, .int .i64, .int .i64, .bool, .int .i64, .int .i64]⟩
theorem tk_77 : TyOk1 Go.Proofs.Tryz.prog 77 ti_77 := ⟨by kernel_rfl, fieldsSome rfl (by kernel_rfl), ⟨Go.Proofs.Tryz.t77, (Go.Proofs.Tryz.t77.zero).getD .nilIface, by kernel_rfl, by kernel_rfl, by kernel_rfl, by kernel_rfl, by kernel_rfl⟩⟩
def ti_78 : TI := ⟨.slice 2, 1, 24, [.lit (.slice none 0 0)], [.sl [.int .i64]]⟩
theorem tk_78 : TyOk1 Go.Proofs.Tryz.prog 78 ti_78 := ⟨by kernel_rfl, fieldsNone (fun fs h => by cases h), ⟨Go.Proofs.Tryz.t78, (Go.Proofs.Tryz.t78.zero).getD .nilIface, by kernel_rfl, by kernel_rfl, by kernel_rfl, by kernel_rfl, by kernel_rfl⟩⟩
def ti_80 : TI := ⟨.struct #[{ name := "Base", type := 2, offset := 0, embedded := false, tag := "", pkgPath := "", byteOffset := 0 }, { name := "Last", type := 2, offset := 1, embedded := false, tag := "", pkgPath := "", byteOffset := 8 }, { name := "L", type := 78, offset := 2, embedded := false, tag := "", pkgPath := "", byteOffset := 16 }], 3, 40, [int .i64 0, int .i64 0, .lit (.slice none 0 0)], [.int .i64, .int .i64, .sl [.int .i64]]⟩
theorem tk_80 : TyOk1 Go.Proofs.Tryz.prog 80 ti_80 := ⟨by kernel_rfl, fieldsSome rfl (by kernel_rfl), ⟨Go.Proofs.Tryz.t80, (Go.Proofs.Tryz.t80.zero).getD .nilIface, by kernel_rfl, by kernel_rfl, by kernel_rfl, by kernel_rfl, by kernel_rfl⟩⟩
def ti_81 : TI := ⟨.array 16 5, 16, 16, [.arr .u8 16 (List.replicate 16 0)], [.arr .u8 16]⟩
theorem tk_81 : TyOk1 Go.Proofs.Tryz.prog 81 ti_81 := ⟨by kernel_rfl, fieldsNone (fun fs h => by cases h), ⟨Go.Proofs.Tryz.t81, (Go.Proofs.Tryz.t81.zero).getD .nilIface, by kernel_rfl, by kernel_rfl, by kernel_rfl, by kernel_rfl, by kernel_rfl⟩⟩
def ti_82 : TI := ⟨.struct #[{ name := "On", type := 4, offset := 0, embedded := false, tag := "", pkgPath := "", byteOffset := 0 }, { name := "At", type := 2, offset := 1, embedded := false, tag := "", pkgPath := "", byteOffset := 8 }, { name := "Lost", type := 2, offset := 2, embedded := false, tag := "", pkgPath := "", byteOffset := 16 }], 3, 24, [boolC false, int .i64 0, int .i64 0], [.bool, .int .i64, .int .i64]⟩
theorem tk_82 : TyOk1 Go.Proofs.Tryz.prog 82 ti_82 := ⟨by kernel_rfl, fieldsSome rfl (by kernel_rfl), ⟨Go.Proofs.Tryz.t82, (Go.Proofs.Tryz.t82.zero).getD .nilIface, by kernel_rfl, by kernel_rfl, by kernel_rfl, by kernel_rfl, by kernel_rfl⟩⟩
def ti_83 : TI := ⟨.struct #[{ name := "Set", type := 4, offset := 0, embedded := false, tag := "", pkgPath := "", byteOffset := 0 }, { name := "At", type := 2, offset := 1, embedded := false, tag := "", pkgPath := "", byteOffset := 8 }], 2, 16, [boolC false, int .i64 0], [.bool, .int .i64]⟩
theorem tk_83 : TyOk1 Go.Proofs.Tryz.prog 83 ti_83 := ⟨by kernel_rfl, fieldsSome rfl (by kernel_rfl), ⟨Go.Proofs.Tryz.t83, (Go.Proofs.Tryz.t83.zero).getD .nilIface, by kernel_rfl, by kernel_rfl, by kernel_rfl, by kernel_rfl, by kernel_rfl⟩⟩
def ti_85 : TI := ⟨.struct #[{ name := "Name", type := 9, offset := 0, embedded := false, tag := "", pkgPath := "", byteOffset := 0 }, { name := "Key", type := 81, offset := 1, embedded := false, tag := "", pkgPath := "", byteOffset := 16 }, { name := "P", type := 49, offset := 17, embedded := false, tag := "", pkgPath := "", byteOffset := 32 }, { name := "Pause", type := 82, offset := 27, embedded := false, tag := "", pkgPath := "", byteOffset := 136 }, { name := "Floor", type := 83, offset := 30, embedded := false, tag := "", pkgPath := "", byteOffset := 160 }, { name := "Epoch", type := 2, offset := 32, embedded := false, tag := "", pkgPath := "", byteOffset := 176 }], 33, 184, [.lit (.string ByteArray.empty), .arr .u8 16 (List.replicate 16 0), int .i64 0, int .i64 0, int .i64 0, int .i64 0, int .i64 0, int .i64 0, boolC false, .lit (.string ByteArray.empty), int .i64 0, .lit (.slice none 0 0), boolC false, int .i64 0, int .i64 0, boolC false, int .i64 0, int .i64 0], [.str, .arr .u8 16, .int .i64, .int .i64, .int .i64, .int .i64, .int .i64, .int .i64, .bool, .str, .int .i64, .sl [.int .i64, .int .i64, .str], .bool, .int .i64, .int .i64, .bool, .int .i64, .int .i64]⟩
theorem tk_85 : TyOk1 Go.Proofs.Tryz.prog 85 ti_85 := ⟨by kernel_rfl, fieldsSome rfl (by kernel_rfl), ⟨Go.Proofs.Tryz.t85, (Go.Proofs.Tryz.t85.zero).getD .nilIface, by kernel_rfl, by kernel_rfl, by kernel_rfl, by kernel_rfl, by kernel_rfl⟩⟩
def ti_87 : TI := ⟨.struct #[{ name := "Base", type := 2, offset := 0, embedded := false, tag := "", pkgPath := "", byteOffset := 0 }, { name := "Last", type := 2, offset := 1, embedded := false, tag := "", pkgPath := "", byteOffset := 8 }, { name := "L", type := 78, offset := 2, embedded := false, tag := "", pkgPath := "", byteOffset := 16 }], 3, 40, [int .i64 0, int .i64 0, .lit (.slice none 0 0)], [.int .i64, .int .i64, .sl [.int .i64]]⟩
theorem tk_87 : TyOk1 Go.Proofs.Tryz.prog 87 ti_87 := ⟨by kernel_rfl, fieldsSome rfl (by kernel_rfl), ⟨Go.Proofs.Tryz.t87, (Go.Proofs.Tryz.t87.zero).getD .nilIface, by kernel_rfl, by kernel_rfl, by kernel_rfl, by kernel_rfl, by kernel_rfl⟩⟩
def ti_95 : TI := ⟨.struct #[{ name := "Tai", type := 2, offset := 0, embedded := false, tag := "", pkgPath := "", byteOffset := 0 }, { name := "Off", type := 2, offset := 1, embedded := false, tag := "", pkgPath := "", byteOffset := 8 }, { name := "P", type := 35, offset := 2, embedded := false, tag := "", pkgPath := "", byteOffset := 16 }, { name := "Kind", type := 3, offset := 12, embedded := false, tag := "", pkgPath := "", byteOffset := 120 }], 13, 128, [int .i64 0, int .i64 0, int .i64 0, int .i64 0, int .i64 0, int .i64 0, int .i64 0, int .i64 0, boolC false, .lit (.string ByteArray.empty), int .i64 0, .lit (.slice none 0 0), int .i64 0], [.int .i64, .int .i64, .int .i64, .int .i64, .int .i64, .int .i64, .int .i64, .int .i64, .bool, .str, .int .i64, .sl [.int .i64, .int .i64, .str], .int .i64]⟩
theorem tk_95 : TyOk1 Go.Proofs.Tryz.prog 95 ti_95 := ⟨by kernel_rfl, fieldsSome rfl (by kernel_rfl), ⟨Go.Proofs.Tryz.t95, (Go.Proofs.Tryz.t95.zero).getD .nilIface, by kernel_rfl, by kernel_rfl, by kernel_rfl, by kernel_rfl, by kernel_rfl⟩⟩
def ti_96 : TI := ⟨.struct #[{ name := "Value", type := 2, offset := 0, embedded := false, tag := "", pkgPath := "", byteOffset := 0 }, { name := "Bound", type := 2, offset := 1, embedded := false, tag := "", pkgPath := "", byteOffset := 8 }, { name := "Raised", type := 2, offset := 2, embedded := false, tag := "", pkgPath := "", byteOffset := 16 }, { name := "Host", type := 2, offset := 3, embedded := false, tag := "", pkgPath := "", byteOffset := 24 }], 4, 32, [int .i64 0, int .i64 0, int .i64 0, int .i64 0], [.int .i64, .int .i64, .int .i64, .int .i64]⟩
theorem tk_96 : TyOk1 Go.Proofs.Tryz.prog 96 ti_96 := ⟨by kernel_rfl, fieldsSome rfl (by kernel_rfl), ⟨Go.Proofs.Tryz.t96, (Go.Proofs.Tryz.t96.zero).getD .nilIface, by kernel_rfl, by kernel_rfl, by kernel_rfl, by kernel_rfl, by kernel_rfl⟩⟩
def ti_108 : TI := ⟨.struct #[{ name := "Day", type := 2, offset := 0, embedded := false, tag := "", pkgPath := "", byteOffset := 0 }, { name := "Second", type := 2, offset := 1, embedded := false, tag := "", pkgPath := "", byteOffset := 8 }], 2, 16, [int .i64 0, int .i64 0], [.int .i64, .int .i64]⟩
theorem tk_108 : TyOk1 Go.Proofs.Tryz.prog 108 ti_108 := ⟨by kernel_rfl, fieldsSome rfl (by kernel_rfl), ⟨Go.Proofs.Tryz.t108, (Go.Proofs.Tryz.t108.zero).getD .nilIface, by kernel_rfl, by kernel_rfl, by kernel_rfl, by kernel_rfl, by kernel_rfl⟩⟩
def ti_111 : TI := ⟨.struct #[{ name := "Day", type := 2, offset := 0, embedded := false, tag := "", pkgPath := "", byteOffset := 0 }, { name := "Second", type := 2, offset := 1, embedded := false, tag := "", pkgPath := "", byteOffset := 8 }], 2, 16, [int .i64 0, int .i64 0], [.int .i64, .int .i64]⟩
theorem tk_111 : TyOk1 Go.Proofs.Tryz.prog 111 ti_111 := ⟨by kernel_rfl, fieldsSome rfl (by kernel_rfl), ⟨Go.Proofs.Tryz.t111, (Go.Proofs.Tryz.t111.zero).getD .nilIface, by kernel_rfl, by kernel_rfl, by kernel_rfl, by kernel_rfl, by kernel_rfl⟩⟩
def ti_116 : TI := ⟨.slice 95, 1, 24, [.lit (.slice none 0 0)], [.sl [.int .i64, .int .i64, .int .i64, .int .i64, .int .i64, .int .i64, .int .i64, .int .i64, .bool, .str, .int .i64, .sl [.int .i64, .int .i64, .str], .int .i64]]⟩
theorem tk_116 : TyOk1 Go.Proofs.Tryz.prog 116 ti_116 := ⟨by kernel_rfl, fieldsNone (fun fs h => by cases h), ⟨Go.Proofs.Tryz.t116, (Go.Proofs.Tryz.t116.zero).getD .nilIface, by kernel_rfl, by kernel_rfl, by kernel_rfl, by kernel_rfl, by kernel_rfl⟩⟩
def ti_124 : TI := ⟨.struct #[{ name := "At", type := 2, offset := 0, embedded := false, tag := "", pkgPath := "", byteOffset := 0 }, { name := "Off", type := 2, offset := 1, embedded := false, tag := "", pkgPath := "", byteOffset := 8 }, { name := "Name", type := 9, offset := 2, embedded := false, tag := "", pkgPath := "", byteOffset := 16 }], 3, 32, [int .i64 0, int .i64 0, .lit (.string ByteArray.empty)], [.int .i64, .int .i64, .str]⟩
theorem tk_124 : TyOk1 Go.Proofs.Tryz.prog 124 ti_124 := ⟨by kernel_rfl, fieldsSome rfl (by kernel_rfl), ⟨Go.Proofs.Tryz.t124, (Go.Proofs.Tryz.t124.zero).getD .nilIface, by kernel_rfl, by kernel_rfl, by kernel_rfl, by kernel_rfl, by kernel_rfl⟩⟩
def ti_129 : TI := ⟨.int .i64, 1, 8, [int .i64 0], [.int .i64]⟩
theorem tk_129 : TyOk1 Go.Proofs.Tryz.prog 129 ti_129 := ⟨by kernel_rfl, fieldsNone (fun fs h => by cases h), ⟨Go.Proofs.Tryz.t129, (Go.Proofs.Tryz.t129.zero).getD .nilIface, by kernel_rfl, by kernel_rfl, by kernel_rfl, by kernel_rfl, by kernel_rfl⟩⟩
def ti_138 : TI := ⟨.int .u64, 1, 8, [int .u64 0], [.int .u64]⟩
theorem tk_138 : TyOk1 Go.Proofs.Tryz.prog 138 ti_138 := ⟨by kernel_rfl, fieldsNone (fun fs h => by cases h), ⟨Go.Proofs.Tryz.t138, (Go.Proofs.Tryz.t138.zero).getD .nilIface, by kernel_rfl, by kernel_rfl, by kernel_rfl, by kernel_rfl, by kernel_rfl⟩⟩
def ti_156 : TI := ⟨.pointer 129, 1, 8, [.lit (Value.pointer none)], []⟩
theorem tk_156 : TyOk1 Go.Proofs.Tryz.prog 156 ti_156 := ⟨by kernel_rfl, fieldsNone (fun fs h => by cases h), ⟨Go.Proofs.Tryz.t156, (Go.Proofs.Tryz.t156.zero).getD .nilIface, by kernel_rfl, by kernel_rfl, by kernel_rfl, by kernel_rfl, by kernel_rfl⟩⟩
def ti_195 : TI := ⟨.struct #[{ name := "At", type := 2, offset := 0, embedded := false, tag := "", pkgPath := "", byteOffset := 0 }, { name := "Off", type := 2, offset := 1, embedded := false, tag := "", pkgPath := "", byteOffset := 8 }, { name := "Name", type := 9, offset := 2, embedded := false, tag := "", pkgPath := "", byteOffset := 16 }], 3, 32, [int .i64 0, int .i64 0, .lit (.string ByteArray.empty)], [.int .i64, .int .i64, .str]⟩
theorem tk_195 : TyOk1 Go.Proofs.Tryz.prog 195 ti_195 := ⟨by kernel_rfl, fieldsSome rfl (by kernel_rfl), ⟨Go.Proofs.Tryz.t195, (Go.Proofs.Tryz.t195.zero).getD .nilIface, by kernel_rfl, by kernel_rfl, by kernel_rfl, by kernel_rfl, by kernel_rfl⟩⟩
def ti_200 : TI := ⟨.array 4 54, 4, 64, [.lit .nilIface, .lit .nilIface, .lit .nilIface, .lit .nilIface], [.err 129, .err 129, .err 129, .err 129]⟩
theorem tk_200 : TyOk1 Go.Proofs.Tryz.prog 200 ti_200 := ⟨by kernel_rfl, fieldsNone (fun fs h => by cases h), ⟨Go.Proofs.Tryz.t200, (Go.Proofs.Tryz.t200.zero).getD .nilIface, by kernel_rfl, by kernel_rfl, by kernel_rfl, by kernel_rfl, by kernel_rfl⟩⟩
def ti_203 : TI := ⟨.struct #[{ name := "Hi", type := 2, offset := 0, embedded := false, tag := "", pkgPath := "", byteOffset := 0 }, { name := "Lo", type := 138, offset := 1, embedded := false, tag := "", pkgPath := "", byteOffset := 8 }], 2, 16, [int .i64 0, int .u64 0], [.int .i64, .int .u64]⟩
theorem tk_203 : TyOk1 Go.Proofs.Tryz.prog 203 ti_203 := ⟨by kernel_rfl, fieldsSome rfl (by kernel_rfl), ⟨Go.Proofs.Tryz.t203, (Go.Proofs.Tryz.t203.zero).getD .nilIface, by kernel_rfl, by kernel_rfl, by kernel_rfl, by kernel_rfl, by kernel_rfl⟩⟩
def ti_217 : TI := ⟨.int .u64, 1, 8, [int .u64 0], [.int .u64]⟩
theorem tk_217 : TyOk1 Go.Proofs.Tryz.prog 217 ti_217 := ⟨by kernel_rfl, fieldsNone (fun fs h => by cases h), ⟨Go.Proofs.Tryz.t217, (Go.Proofs.Tryz.t217.zero).getD .nilIface, by kernel_rfl, by kernel_rfl, by kernel_rfl, by kernel_rfl, by kernel_rfl⟩⟩
def ti_254 : TI := ⟨.struct #[{ name := "Day", type := 2, offset := 0, embedded := false, tag := "", pkgPath := "", byteOffset := 0 }, { name := "Second", type := 2, offset := 1, embedded := false, tag := "", pkgPath := "", byteOffset := 8 }, { name := "Nano", type := 2, offset := 2, embedded := false, tag := "", pkgPath := "", byteOffset := 16 }], 3, 24, [int .i64 0, int .i64 0, int .i64 0], [.int .i64, .int .i64, .int .i64]⟩
theorem tk_254 : TyOk1 Go.Proofs.Tryz.prog 254 ti_254 := ⟨by kernel_rfl, fieldsSome rfl (by kernel_rfl), ⟨Go.Proofs.Tryz.t254, (Go.Proofs.Tryz.t254.zero).getD .nilIface, by kernel_rfl, by kernel_rfl, by kernel_rfl, by kernel_rfl, by kernel_rfl⟩⟩
def ti_290 : TI := ⟨.struct #[{ name := "Day", type := 2, offset := 0, embedded := false, tag := "", pkgPath := "", byteOffset := 0 }, { name := "Second", type := 2, offset := 1, embedded := false, tag := "", pkgPath := "", byteOffset := 8 }, { name := "Nano", type := 2, offset := 2, embedded := false, tag := "", pkgPath := "", byteOffset := 16 }], 3, 24, [int .i64 0, int .i64 0, int .i64 0], [.int .i64, .int .i64, .int .i64]⟩
theorem tk_290 : TyOk1 Go.Proofs.Tryz.prog 290 ti_290 := ⟨by kernel_rfl, fieldsSome rfl (by kernel_rfl), ⟨Go.Proofs.Tryz.t290, (Go.Proofs.Tryz.t290.zero).getD .nilIface, by kernel_rfl, by kernel_rfl, by kernel_rfl, by kernel_rfl, by kernel_rfl⟩⟩
def ti_305 : TI := ⟨.slice 5, 1, 24, [.lit (.slice none 0 0)], [.sl [.int .u8]]⟩
theorem tk_305 : TyOk1 Go.Proofs.Tryz.prog 305 ti_305 := ⟨by kernel_rfl, fieldsNone (fun fs h => by cases h), ⟨Go.Proofs.Tryz.t305, (Go.Proofs.Tryz.t305.zero).getD .nilIface, by kernel_rfl, by kernel_rfl, by kernel_rfl, by kernel_rfl, by kernel_rfl⟩⟩
def ti_323 : TI := ⟨.array 4 138, 4, 32, [.arr .u64 4 (List.replicate 4 0)], [.arr .u64 4]⟩
theorem tk_323 : TyOk1 Go.Proofs.Tryz.prog 323 ti_323 := ⟨by kernel_rfl, fieldsNone (fun fs h => by cases h), ⟨Go.Proofs.Tryz.t323, (Go.Proofs.Tryz.t323.zero).getD .nilIface, by kernel_rfl, by kernel_rfl, by kernel_rfl, by kernel_rfl, by kernel_rfl⟩⟩
def ti_327 : TI := ⟨.struct #[{ name := "a", type := 138, offset := 0, embedded := false, tag := "", pkgPath := "fusee/prf", byteOffset := 0 }, { name := "b", type := 138, offset := 1, embedded := false, tag := "", pkgPath := "fusee/prf", byteOffset := 8 }, { name := "c", type := 138, offset := 2, embedded := false, tag := "", pkgPath := "fusee/prf", byteOffset := 16 }, { name := "d", type := 138, offset := 3, embedded := false, tag := "", pkgPath := "fusee/prf", byteOffset := 24 }], 4, 32, [int .u64 0, int .u64 0, int .u64 0, int .u64 0], [.int .u64, .int .u64, .int .u64, .int .u64]⟩
theorem tk_327 : TyOk1 Go.Proofs.Tryz.prog 327 ti_327 := ⟨by kernel_rfl, fieldsSome rfl (by kernel_rfl), ⟨Go.Proofs.Tryz.t327, (Go.Proofs.Tryz.t327.zero).getD .nilIface, by kernel_rfl, by kernel_rfl, by kernel_rfl, by kernel_rfl, by kernel_rfl⟩⟩
def ti_329 : TI := ⟨.array 8 5, 8, 8, [.arr .u8 8 (List.replicate 8 0)], [.arr .u8 8]⟩
theorem tk_329 : TyOk1 Go.Proofs.Tryz.prog 329 ti_329 := ⟨by kernel_rfl, fieldsNone (fun fs h => by cases h), ⟨Go.Proofs.Tryz.t329, (Go.Proofs.Tryz.t329.zero).getD .nilIface, by kernel_rfl, by kernel_rfl, by kernel_rfl, by kernel_rfl, by kernel_rfl⟩⟩
def ti_332 : TI := ⟨.struct #[{ name := "B", type := 305, offset := 0, embedded := false, tag := "", pkgPath := "", byteOffset := 0 }, { name := "Bad", type := 4, offset := 1, embedded := false, tag := "", pkgPath := "", byteOffset := 24 }], 2, 32, [.lit (.slice none 0 0), boolC false], [.sl [.int .u8], .bool]⟩
theorem tk_332 : TyOk1 Go.Proofs.Tryz.prog 332 ti_332 := ⟨by kernel_rfl, fieldsSome rfl (by kernel_rfl), ⟨Go.Proofs.Tryz.t332, (Go.Proofs.Tryz.t332.zero).getD .nilIface, by kernel_rfl, by kernel_rfl, by kernel_rfl, by kernel_rfl, by kernel_rfl⟩⟩
def ti_341 : TI := ⟨.struct #[{ name := "b", type := 305, offset := 0, embedded := false, tag := "", pkgPath := "fusee/fields", byteOffset := 0 }, { name := "bad", type := 4, offset := 1, embedded := false, tag := "", pkgPath := "fusee/fields", byteOffset := 24 }], 2, 32, [.lit (.slice none 0 0), boolC false], [.sl [.int .u8], .bool]⟩
theorem tk_341 : TyOk1 Go.Proofs.Tryz.prog 341 ti_341 := ⟨by kernel_rfl, fieldsSome rfl (by kernel_rfl), ⟨Go.Proofs.Tryz.t341, (Go.Proofs.Tryz.t341.zero).getD .nilIface, by kernel_rfl, by kernel_rfl, by kernel_rfl, by kernel_rfl, by kernel_rfl⟩⟩
def tab : List (Nat × TI) := [(2, ti_2), (3, ti_3), (4, ti_4), (5, ti_5), (9, ti_9), (28, ti_28), (30, ti_30), (31, ti_31), (33, ti_33), (35, ti_35), (36, ti_36), (43, ti_43), (44, ti_44), (45, ti_45), (47, ti_47), (49, ti_49), (54, ti_54), (65, ti_65), (71, ti_71), (73, ti_73), (75, ti_75), (77, ti_77), (78, ti_78), (80, ti_80), (81, ti_81), (82, ti_82), (83, ti_83), (85, ti_85), (87, ti_87), (95, ti_95), (96, ti_96), (108, ti_108), (111, ti_111), (116, ti_116), (124, ti_124), (129, ti_129), (138, ti_138), (156, ti_156), (195, ti_195), (200, ti_200), (203, ti_203), (217, ti_217), (254, ti_254), (290, ti_290), (305, ti_305), (323, ti_323), (327, ti_327), (329, ti_329), (332, ti_332), (341, ti_341)]
def tyT : TypeId → Option TI := lookT tab
theorem tyOk : TyOk Go.Proofs.Tryz.prog tyT := TysOk.ok (tysOk_cons tk_2 (tysOk_cons tk_3 (tysOk_cons tk_4 (tysOk_cons tk_5 (tysOk_cons tk_9 (tysOk_cons tk_28 (tysOk_cons tk_30 (tysOk_cons tk_31 (tysOk_cons tk_33 (tysOk_cons tk_35 (tysOk_cons tk_36 (tysOk_cons tk_43 (tysOk_cons tk_44 (tysOk_cons tk_45 (tysOk_cons tk_47 (tysOk_cons tk_49 (tysOk_cons tk_54 (tysOk_cons tk_65 (tysOk_cons tk_71 (tysOk_cons tk_73 (tysOk_cons tk_75 (tysOk_cons tk_77 (tysOk_cons tk_78 (tysOk_cons tk_80 (tysOk_cons tk_81 (tysOk_cons tk_82 (tysOk_cons tk_83 (tysOk_cons tk_85 (tysOk_cons tk_87 (tysOk_cons tk_95 (tysOk_cons tk_96 (tysOk_cons tk_108 (tysOk_cons tk_111 (tysOk_cons tk_116 (tysOk_cons tk_124 (tysOk_cons tk_129 (tysOk_cons tk_138 (tysOk_cons tk_156 (tysOk_cons tk_195 (tysOk_cons tk_200 (tysOk_cons tk_203 (tysOk_cons tk_217 (tysOk_cons tk_254 (tysOk_cons tk_290 (tysOk_cons tk_305 (tysOk_cons tk_323 (tysOk_cons tk_327 (tysOk_cons tk_329 (tysOk_cons tk_332 (tysOk_cons tk_341 tysOk_nil))))))))))))))))))))))))))))))))))))))))))))))))))
theorem ek_43 : EqOk Go.Proofs.Tryz.prog 43 (eqQ [.int .i64, .int .i64, .int .i64]) := eqQ_ok (d := 9) (by kernel_rfl) (by omega) (by kernel_rfl) (by kernel_rfl)
theorem ek_44 : EqOk Go.Proofs.Tryz.prog 44 (eqQ [.int .i64, .int .i64]) := eqQ_ok (d := 9) (by kernel_rfl) (by omega) (by kernel_rfl) (by kernel_rfl)
theorem ek_65 : EqOk Go.Proofs.Tryz.prog 65 (eqQ [.int .i64, .int .i64, .int .i64, .int .i64]) := eqQ_ok (d := 9) (by kernel_rfl) (by omega) (by kernel_rfl) (by kernel_rfl)
theorem ek_81 : EqOk Go.Proofs.Tryz.prog 81 (eqQ [.arr .u8 16]) := eqQ_ok (d := 9) (by kernel_rfl) (by omega) (by kernel_rfl) (by kernel_rfl)
theorem ek_82 : EqOk Go.Proofs.Tryz.prog 82 (eqQ [.bool, .int .i64, .int .i64]) := eqQ_ok (d := 9) (by kernel_rfl) (by omega) (by kernel_rfl) (by kernel_rfl)
theorem ek_83 : EqOk Go.Proofs.Tryz.prog 83 (eqQ [.bool, .int .i64]) := eqQ_ok (d := 9) (by kernel_rfl) (by omega) (by kernel_rfl) (by kernel_rfl)
theorem ek_108 : EqOk Go.Proofs.Tryz.prog 108 (eqQ [.int .i64, .int .i64]) := eqQ_ok (d := 9) (by kernel_rfl) (by omega) (by kernel_rfl) (by kernel_rfl)
theorem ek_195 : EqOk Go.Proofs.Tryz.prog 195 (eqQ [.int .i64, .int .i64, .str]) := eqQ_ok (d := 9) (by kernel_rfl) (by omega) (by kernel_rfl) (by kernel_rfl)
def eqT : TypeId → Option (List C → List C → Option Bool) := lookE [(43, eqQ [.int .i64, .int .i64, .int .i64]), (44, eqQ [.int .i64, .int .i64]), (65, eqQ [.int .i64, .int .i64, .int .i64, .int .i64]), (81, eqQ [.arr .u8 16]), (82, eqQ [.bool, .int .i64, .int .i64]), (83, eqQ [.bool, .int .i64]), (108, eqQ [.int .i64, .int .i64]), (195, eqQ [.int .i64, .int .i64, .str])]
theorem eqOk : ∀ t q, eqT t = some q → EqOk Go.Proofs.Tryz.prog t q := (eqsOk_cons ek_43 (eqsOk_cons ek_44 (eqsOk_cons ek_65 (eqsOk_cons ek_81 (eqsOk_cons ek_82 (eqsOk_cons ek_83 (eqsOk_cons ek_108 (eqsOk_cons ek_195 eqsOk_nil))))))))
theorem mix0 : Tryz.prog.follows .mixedOrders = true := by kernel_rfl
def h0 : Nat → Bool := fun _ => false
theorem fz : FnsOk Tryz.prog laidL [] := fnsOk_nil
theorem fk {g : Nat} {S : Sum} {l : List (Nat × Sum)} (h : SumOk Tryz.prog laidL g S) (t : FnsOk Tryz.prog laidL l) : FnsOk Tryz.prog laidL ((g, S) :: l) := fnsOk_cons h t
def cX (l : List (Nat × Sum)) (h : Nat → Bool) : Ctx := ⟨tyT, lookF l, eqT, h⟩
theorem cx {l : List (Nat × Sum)} (h : Nat → Bool) (H : FnsOk Tryz.prog laidL l) : CtxOk Tryz.prog laidL (cX l h) := ⟨tyOk, eqOk, fun _ _ => H.get, mix0⟩
theorem fn_x {l : List (Nat × Sum)} (h : Nat → Bool) (H : FnsOk Tryz.prog laidL l) {f : FuncId} {fn : Func} (hf : Tryz.prog.funcs[f]? = some fn) {n nOut nr : Nat} {PS RS : List ShA} {F : TAs PS → Option (TAs RS)} {ls : List (Nat × LSum)} (hl : LksOk Tryz.prog laidL nOut fn.ntmps 0 (bodyOf fn) ls)
  (hF : ∀ p, F p = exec (cX l h) fn.ntmps (lookL ls) (bodyOf fn) 0 (fnK (cX l h) fn.results.toList nOut RS) (fnSt n nOut PS p) := by intro _; kernel_rfl)
  (hb : fn.body = some (bodyOf fn) := by kernel_rfl) (hname : (fn.name == "runtime.NumGoroutine") = false := by kernel_rfl) (hnr : fn.results.size = nr := by exact rfl) (hn : nodupB ((loopsIn 0 (bodyOf fn)).map (·.1)) = true := by kernel_rfl) : SumOk Tryz.prog laidL f (fnSum n nOut nr PS RS F) :=
 fn_ok (cx h H) hf hb hname hnr hF (loopsAll hn hl)
theorem lp_x {l : List (Nat × Sum)} (h : Nat → Bool) (H : FnsOk Tryz.prog laidL l) {nOut NT cur k : Nat} {θ : Type} {live bl : List Nat} {sh : List ShA} {O : OutK nOut θ} {c : Code} {b : (TAs sh → Option θ) → TAs sh → Option θ} {N : Nat} {ls : List (Nat × LSum)} (hl : LksOk Tryz.prog laidL nOut NT k (unloop (loopAt cur k c)) ls)
  (hs : ∀ ih p, b ih p = exec (cX l h) NT (lookL ls) (unloop (loopAt cur k c)) k (roundK live bl sh O ih) (stOf live bl sh p) := by intro _ _; kernel_rfl)
  (hne : loopAt cur k c = .loop (unloop (loopAt cur k c)) := by kernel_rfl) (hn : nodupB ((loopsIn k (unloop (loopAt cur k c))).map (·.1)) = true := by kernel_rfl) : SegOk Tryz.prog laidL nOut NT (loopAt cur k c) (loopSum live bl sh O (iter b N)) :=
 (congrArg (fun c => SegOk Tryz.prog laidL nOut NT c (loopSum live bl sh O (iter b N))) hne).mpr (loop_ok (cx h H) (fun n => iter b n) (fun _ => rfl) (fun n p => hs (iter b n) p) (loopsAll hn hl) N)
abbrev zg0 : ShA := .agg [.d (.str), .d (.arr .u8 16), .d (.int .i64), .d (.int .i64), .d (.int .i64), .d (.int .i64), .d (.int .i64), .d (.int .i64), .d (.bool), .d (.str), .d (.int .i64), .slt [.int .i64, .int .i64, .str] 195 3, .d (.bool), .d (.int .i64), .d (.int .i64), .d (.bool), .d (.int .i64), .d (.int .i64)]
abbrev zg1 : ShA := .agg [.d (.str), .d (.arr .u8 16), .d (.int .i64), .d (.int .i64), .d (.int .i64), .d (.int .i64), .d (.int .i64), .d (.int .i64), .d (.bool), .d (.str), .d (.int .i64), .d (.sl [.int .i64, .int .i64, .str]), .d (.bool), .d (.int .i64), .d (.int .i64), .d (.bool), .d (.int .i64), .d (.int .i64)]
abbrev zg2 : ShA := .agg [.d (.int .i64), .d (.int .i64), .d (.int .i64), .d (.int .i64), .d (.int .i64), .d (.int .i64), .d (.bool), .d (.str), .d (.int .i64), .slt [.int .i64, .int .i64, .str] 195 3]
abbrev zg3 : ShA := .agg [.d (.int .i64), .d (.int .i64), .d (.int .i64), .d (.int .i64), .d (.int .i64), .d (.int .i64), .d (.bool), .d (.str), .d (.int .i64), .d (.sl [.int .i64, .int .i64, .str])]
abbrev zg4 : ShA := .agg [.d (.str), .d (.int .i64), .slt [.int .i64, .int .i64, .str] 195 3]
abbrev zg5 : ShA := .agg [.d (.str), .d (.int .i64), .d (.sl [.int .i64, .int .i64, .str])]
abbrev zg6 : ShA := .agg [.d (.int .u64), .d (.int .u64), .d (.int .u64), .d (.int .u64)]
abbrev zg7 : ShA := .agg [.d (.int .i64), .d (.int .i64), .d (.int .i64), .d (.int .i64)]
abbrev zg8 : ShA := .agg [.d (.int .i64), .d (.int .i64), .d (.sl [.int .i64])]
abbrev zg9 : ShA := .agg [.d (.int .i64), .d (.int .i64), .d (.int .i64)]
abbrev zg10 : ShA := .agg [.d (.bool), .d (.int .i64), .d (.int .i64)]
abbrev zg11 : ShA := .agg [.d (.sl [.int .u8]), .d (.bool)]
abbrev zg12 : ShA := .agg [.slt [.int .u8] 5 1, .d (.bool)]
abbrev zg13 : ShA := .agg [.d (.int .i64), .d (.int .i64)]
abbrev zg14 : ShA := .agg [.d (.bool), .d (.int .i64)]
end Go.Proofs.YthpljlpokmoeeaaGreatDoor.Mir
namespace Go.Proofs.YthpljlpokmoeeaaGreatDoor.Mir
open Go Go.RowKit
set_option maxRecDepth 100000
noncomputable section
def X_26 (_ : Nat) : List (Nat × Sum) := []
theorem x_26 (N : Nat) : FnsOk Tryz.prog laidL (X_26 N) := fz
def sh_26_0 : List ShA := [.one (.ptr 144 0), .one (.d (.int .i64)), zg5]
abbrev T_26_0 := ((TAs [.one (.d (.bool))]) ⊕ (TAs [.one (.ptr 144 0), zg5]))
def o_26_0 : OutK 0 T_26_0 := (outTwo (outOne 0 .ret [2] [] [.one (.d (.bool))]) (outOne 0 (.exit 0) [1] [144] [.one (.ptr 144 0), zg5]))
def b_26_0 (_ : Nat) (ih : TAs sh_26_0 → Option T_26_0) : TAs sh_26_0 → Option T_26_0 := fun (_, y4, (y5, y6, y7)) =>
 (bif (decide (y4 < (List.length y7 : Int))) then (bif (decide (y4 < 60)) then (bif (decide (0 ≤ y4 ∧ y4 < (List.length y7 : Int))) then (bif (decide ((ByteArray.size (List.getD y7 (Int.toNat y4) (0, 0, ByteArray.empty)).2.2 : Int) > 200)) then (some (.inl true)) else (ih ((), (IntKind.i64.wrap (y4 + 1)), (y5, y6, y7)))) else none) else (some (.inr ((), (y5, y6, y7))))) else (some (.inr ((), (y5, y6, y7)))))
def l_26_0 (N : Nat) : TAs sh_26_0 → Option T_26_0 := iter (b_26_0 N) N
def L_26_0 (N : Nat) : LSum := loopSum [1, 3] [144] sh_26_0 o_26_0 (l_26_0 N)
theorem L_ok_26_0 (N : Nat) : SegOk Tryz.prog laidL 0 Tryz.f26.ntmps (loopAt 0 0 (bodyOf Tryz.f26)) (L_26_0 N) :=
 lp_x h0 (x_26 N) (lookOk_nil)
def f_26 (N : Nat) (x1 : ByteArray) (x2 : Int) (x3 : List (Int × Int × ByteArray)) : Option (TAs [.one (.d (.bool))]) :=
 ((l_26_0 N ((), 0, (x1, x2, x3))).bind fun q => (match q with | .inl q8 => (some q8) | .inr q9 => (bif (decide ((List.length q9.2.2.2 : Int) > 60)) then (some true) else (some (decide ((ByteArray.size q9.2.1 : Int) > 200))))))
def S_26 (N : Nat) : Sum := fnSum 1 0 1 [zg5] [.one (.d (.bool))] (fun (x1, x2, x3) => f_26 N x1 x2 x3)
theorem s_26 (N : Nat) : SumOk Tryz.prog laidL 26 (S_26 N) := fn_x h0 (x_26 N) Tryz.func26 ((lookOk_cons (L_ok_26_0 N) lookOk_nil))
def f_33 (_ : Nat) (x1 : Option Int) : Option (TAs [.one (.d (.int .i64))]) :=
 (bif (Option.isNone x1) then (some 0) else ((some (x1, (0 : Int)) : Option (Option Int × Int)).bind fun r2 => (bif (Option.isSome r2.1) then (some (asVal r2.2 r2.1)) else (some (-1)))))
def S_33 (N : Nat) : Sum := fnSum 1 0 1 [.one (.d (.err 129))] [.one (.d (.int .i64))] (fun x1 => f_33 N x1)
theorem s_33 (N : Nat) : SumOk Tryz.prog laidL 33 (S_33 N) := fn_x h0 (fk asS_ok fz) Tryz.func33 (lookOk_nil)
def f_47 (_ : Nat) : Option (TAs [zg2]) :=
 (some (0, 0, 0, 1, 0, 1, false, ⟨#[85, 84, 67]⟩, 0, ([] : List (Int × Int × ByteArray))))
def S_47 (N : Nat) : Sum := fnSum 0 0 1 [] [zg2] (fun _ => f_47 N)
theorem s_47 (N : Nat) : SumOk Tryz.prog laidL 47 (S_47 N) := fn_x h0 fz Tryz.func47 (lookOk_nil)
def f_73 (_ : Nat) : Option (TAs [.agg [.d (.int .i64), .d (.int .i64), .slt [.int .i64] 2 1]]) :=
 (some (10, 2000, ([911] : List Int)))
def S_73 (N : Nat) : Sum := fnSum 0 0 1 [] [.agg [.d (.int .i64), .d (.int .i64), .slt [.int .i64] 2 1]] (fun _ => f_73 N)
theorem s_73 (N : Nat) : SumOk Tryz.prog laidL 73 (S_73 N) := fn_x h0 fz Tryz.func73 (lookOk_nil)
def f_75 (_ : Nat) (x1 : ByteArray) (x2 : List Int) (x3 x4 x5 x6 x7 x8 : Int) (x9 : Bool) (x10 : ByteArray) (x11 : Int) (x12 : List (Int × Int × ByteArray)) (x13 : Bool) (x14 x15 : Int) (x16 : Bool) (x17 x18 : Int) : Option (TAs [zg0]) :=
 (bif (decide (0 ≤ (0 : Int) ∧ (0 : Int) ≤ (List.length x12 : Int))) then (bif (decide (0 ≤ (0 : Int) ∧ (0 : Int) ≤ (0 : Int))) then (bif (decide ((0 : Int) = (0 : Int))) then (bif (decide ((List.length (List.drop (Int.toNat (0 : Int)) (List.take (Int.toNat (0 : Int)) x12)) + List.length x12) * 32 ≤ 140737488355328)) then (some (x1, x2, x3, x4, x5, x6, x7, x8, x9, x10, x11, ((List.drop (Int.toNat (0 : Int)) (List.take (Int.toNat (0 : Int)) x12)) ++ x12), x13, x14, x15, x16, x17, x18)) else none) else none) else none) else none)
def S_75 (N : Nat) : Sum := fnSum 1 0 1 [zg1] [zg0] (fun (x1, x2, x3, x4, x5, x6, x7, x8, x9, x10, x11, x12, x13, x14, x15, x16, x17, x18) => f_75 N x1 x2 x3 x4 x5 x6 x7 x8 x9 x10 x11 x12 x13 x14 x15 x16 x17 x18)
theorem s_75 (N : Nat) : SumOk Tryz.prog laidL 75 (S_75 N) := fn_x h0 fz Tryz.func75 (lookOk_nil)
def X_87 (_ : Nat) : List (Nat × Sum) := []
theorem x_87 (N : Nat) : FnsOk Tryz.prog laidL (X_87 N) := fz
def sh_87_0 : List ShA := [.one (.ptr 144 0), .one (.ptr 160 0), .one (.ptr 176 0), .one (.d (.int .i64)), zg5, zg4, zg4]
abbrev T_87_0 := TAs [.one (.ptr 160 0), .one (.ptr 176 0), zg4, zg4]
def o_87_0 : OutK 0 T_87_0 := (outOne 0 (.exit 0) [2, 3] [160, 176] [.one (.ptr 160 0), .one (.ptr 176 0), zg4, zg4])
def b_87_0 (_ : Nat) (ih : TAs sh_87_0 → Option T_87_0) : TAs sh_87_0 → Option T_87_0 := fun (_, _, _, y4, (y5, y6, y7), (y8, y9, y10), (y11, y12, y13)) =>
 (bif (decide (y4 < (List.length y7 : Int))) then (bif (decide (0 ≤ y4 ∧ y4 < (List.length y7 : Int))) then (bif (decide ((List.length y13 + List.length ([((List.getD y7 (Int.toNat y4) (0, 0, ByteArray.empty)).1, (List.getD y7 (Int.toNat y4) (0, 0, ByteArray.empty)).2.1, (List.getD y7 (Int.toNat y4) (0, 0, ByteArray.empty)).2.2)] : List (Int × Int × ByteArray))) * 32 ≤ 140737488355328)) then (ih ((), (), (), (IntKind.i64.wrap (y4 + 1)), (y5, y6, y7), (y8, y9, y10), (y11, y12, (y13 ++ ([((List.getD y7 (Int.toNat y4) (0, 0, ByteArray.empty)).1, (List.getD y7 (Int.toNat y4) (0, 0, ByteArray.empty)).2.1, (List.getD y7 (Int.toNat y4) (0, 0, ByteArray.empty)).2.2)] : List (Int × Int × ByteArray)))))) else none) else none) else (some (((), (), (y8, y9, y10), (y11, y12, y13)))))
def l_87_0 (N : Nat) : TAs sh_87_0 → Option T_87_0 := iter (b_87_0 N) N
def L_87_0 (N : Nat) : LSum := loopSum [1, 2, 3, 4] [144, 160, 176] sh_87_0 o_87_0 (l_87_0 N)
theorem L_ok_87_0 (N : Nat) : SegOk Tryz.prog laidL 0 Tryz.f87.ntmps (loopAt 0 0 (bodyOf Tryz.f87)) (L_87_0 N) :=
 lp_x h0 (x_87 N) (lookOk_nil)
def f_87 (N : Nat) (x1 : ByteArray) (x2 : Int) (x3 : List (Int × Int × ByteArray)) : Option (TAs [zg4]) :=
 ((l_87_0 N ((), (), (), 0, (x1, x2, x3), (ByteArray.empty, 0, ([] : List (Int × Int × ByteArray))), (x1, x2, ([] : List (Int × Int × ByteArray))))).bind fun q14 => (some (q14.2.2.2.1, q14.2.2.2.2.1, q14.2.2.2.2.2)))
def S_87 (N : Nat) : Sum := fnSum 1 0 1 [zg5] [zg4] (fun (x1, x2, x3) => f_87 N x1 x2 x3)
theorem s_87 (N : Nat) : SumOk Tryz.prog laidL 87 (S_87 N) := fn_x h0 (x_87 N) Tryz.func87 ((lookOk_cons (L_ok_87_0 N) lookOk_nil))
def f_94 (_ : Nat) (x1 x2 : Int) : Option (TAs [.one (.d (.int .i64)), .one (.d (.int .i64)), .one (.d (.err 129))]) :=
 (bif (decide (x2 < 1)) then (some (0, 0, (some 1))) else (bif (decide (x2 = 0)) then none else (bif (decide (x2 = 0)) then none else (bif (decide ((Int.tmod x1 x2) < 0)) then (some ((IntKind.i64.wrap ((IntKind.i64.wrap (Int.tdiv x1 x2)) - 1)), (IntKind.i64.wrap ((Int.tmod x1 x2) + x2)), none)) else (some ((IntKind.i64.wrap (Int.tdiv x1 x2)), (Int.tmod x1 x2), none))))))
def S_94 (N : Nat) : Sum := fnSum 2 0 3 [.one (.d (.int .i64)), .one (.d (.int .i64))] [.one (.d (.int .i64)), .one (.d (.int .i64)), .one (.d (.err 129))] (fun (x1, x2) => f_94 N x1 x2)
theorem s_94 (N : Nat) : SumOk Tryz.prog laidL 94 (S_94 N) := fn_x h0 fz Tryz.func94 (lookOk_nil)
def f_106 (_ : Nat) (x1 x2 x3 : Int) : Option (TAs [.one (.d (.err 129))]) :=
 (bif (decide (x2 < 0)) then (some (some 1)) else (bif (decide (x2 > 43200)) then (some (some 1)) else (bif (decide (x3 < 0)) then (some (some 1)) else (bif (decide (x3 > 43200)) then (some (some 1)) else (bif (x1 == 0) then (bif ((IntKind.i64.wrap (x2 + x3)) == 0) then (some none) else (some (some 1))) else (bif (x1 == 1) then (bif (decide ((IntKind.i64.wrap (x2 + x3)) > 0)) then (some none) else (some (some 1))) else (bif (x1 == 2) then (bif (decide ((IntKind.i64.wrap (x2 + x3)) ≥ 3600)) then (some none) else (some (some 1))) else (some (some 1)))))))))
def S_106 (N : Nat) : Sum := fnSum 1 0 1 [zg9] [.one (.d (.err 129))] (fun (x1, x2, x3) => f_106 N x1 x2 x3)
theorem s_106 (N : Nat) : SumOk Tryz.prog laidL 106 (S_106 N) := fn_x h0 fz Tryz.func106 (lookOk_nil)
def f_107 (_ : Nat) (x1 : Int) : Option (TAs [.one (.d (.err 129))]) :=
 (bif (decide (x1 < 1)) then (some (some 1)) else (bif (decide (x1 > 68719476736)) then (some (some 1)) else (some none)))
def S_107 (N : Nat) : Sum := fnSum 1 0 1 [.one (.d (.int .i64))] [.one (.d (.err 129))] (fun x1 => f_107 N x1)
theorem s_107 (N : Nat) : SumOk Tryz.prog laidL 107 (S_107 N) := fn_x h0 fz Tryz.func107 (lookOk_nil)
def f_108 (_ : Nat) (x1 x2 : Int) : Option (TAs [.one (.d (.err 129))]) :=
 (bif (decide (x1 < 0)) then (some (some 1)) else (bif (decide (x1 > 1099511627776)) then (some (some 1)) else (bif (decide (x2 < 1)) then (some (some 1)) else (bif (decide (x2 > 1125899906842624)) then (some (some 1)) else (some none)))))
def S_108 (N : Nat) : Sum := fnSum 1 0 1 [zg13] [.one (.d (.err 129))] (fun (x1, x2) => f_108 N x1 x2)
theorem s_108 (N : Nat) : SumOk Tryz.prog laidL 108 (S_108 N) := fn_x h0 fz Tryz.func108 (lookOk_nil)
def f_114 (_ : Nat) (x1 x2 : Int) : Option (TAs [.one (.d (.int .i64)), .one (.d (.err 129))]) :=
 (bif (!((decide ((IntKind.i64.wrap (x1 - x2)) > x1)) == (decide (x2 < 0)))) then (some (0, (some 2))) else (some ((IntKind.i64.wrap (x1 - x2)), none)))
def S_114 (N : Nat) : Sum := fnSum 2 0 2 [.one (.d (.int .i64)), .one (.d (.int .i64))] [.one (.d (.int .i64)), .one (.d (.err 129))] (fun (x1, x2) => f_114 N x1 x2)
theorem s_114 (N : Nat) : SumOk Tryz.prog laidL 114 (S_114 N) := fn_x h0 fz Tryz.func114 (lookOk_nil)
def f_115 (_ : Nat) (x1 : Bool) : Option (TAs [.one (.d (.int .i64))]) :=
 (bif x1 then (some (-9223372036854775808)) else (some 9223372036854775807))
def S_115 (N : Nat) : Sum := fnSum 1 0 1 [.one (.d (.bool))] [.one (.d (.int .i64))] (fun x1 => f_115 N x1)
theorem s_115 (N : Nat) : SumOk Tryz.prog laidL 115 (S_115 N) := fn_x h0 fz Tryz.func115 (lookOk_nil)
def f_142 (N : Nat) (x1 x2 : Int) : Option (TAs [.one (.d (.bool))]) :=
 ((f_107 N x2).bind fun r3 => (bif (Option.isNone r3) then (bif (decide (x2 = 0)) then none else (some ((Int.tmod x1 x2) == 0))) else (some false)))
def S_142 (N : Nat) : Sum := fnSum 2 0 1 [.one (.d (.int .i64)), .one (.d (.int .i64))] [.one (.d (.bool))] (fun (x1, x2) => f_142 N x1 x2)
theorem s_142 (N : Nat) : SumOk Tryz.prog laidL 142 (S_142 N) := fn_x h0 (fk (s_107 N) fz) Tryz.func142 (lookOk_nil)
def f_145 (_ : Nat) (x1 : Bool) (x2 x3 : Int) : Option (TAs [zg14]) :=
 (bif x1 then (some (true, (if x2 > x3 then x2 else x3))) else (some (true, x3)))
def S_145 (N : Nat) : Sum := fnSum 2 0 1 [zg14, .one (.d (.int .i64))] [zg14] (fun ((x1, x2), x3) => f_145 N x1 x2 x3)
theorem s_145 (N : Nat) : SumOk Tryz.prog laidL 145 (S_145 N) := fn_x h0 fz Tryz.func145 (lookOk_nil)
def f_149 (_ : Nat) (_x1 x2 x3 x4 _x5 : Int) (x6 : List Int) (x7 : Int) : Option (TAs [.one (.d (.int .i64)), .one (.d (.int .i64))]) :=
 (bif (decide (0 ≤ x7 ∧ x7 < (List.length x6 : Int))) then (some ((IntKind.i64.wrap ((IntKind.i64.wrap ((IntKind.i64.wrap ((IntKind.i64.wrap ((IntKind.i64.wrap ((IntKind.i64.wrap ((IntKind.i64.wrap ((List.getD x6 (Int.toNat x7) 0) + 1)) * 86400)) + x4)) + x7)) + 1)) - 1)) - x2)), (IntKind.i64.wrap ((IntKind.i64.wrap ((IntKind.i64.wrap ((IntKind.i64.wrap ((IntKind.i64.wrap ((IntKind.i64.wrap ((List.getD x6 (Int.toNat x7) 0) + 1)) * 86400)) + x4)) + x7)) + 1)) + x3)))) else none)
def S_149 (N : Nat) : Sum := fnSum 3 0 2 [zg9, zg8, .one (.d (.int .i64))] [.one (.d (.int .i64)), .one (.d (.int .i64))] (fun ((x1, x2, x3), (x4, x5, x6), x7) => f_149 N x1 x2 x3 x4 x5 x6 x7)
theorem s_149 (N : Nat) : SumOk Tryz.prog laidL 149 (S_149 N) := fn_x h0 fz Tryz.func149 (lookOk_nil)
def f_164 (_ : Nat) (x1 x2 : Int) : Option (TAs [.one (.d (.int .i64)), .one (.d (.err 129))]) :=
 (bif (!((decide ((IntKind.i64.wrap (x1 + x2)) < x1)) == (decide (x2 < 0)))) then (some (0, (some 2))) else (some ((IntKind.i64.wrap (x1 + x2)), none)))
def S_164 (N : Nat) : Sum := fnSum 2 0 2 [.one (.d (.int .i64)), .one (.d (.int .i64))] [.one (.d (.int .i64)), .one (.d (.err 129))] (fun (x1, x2) => f_164 N x1 x2)
theorem s_164 (N : Nat) : SumOk Tryz.prog laidL 164 (S_164 N) := fn_x h0 fz Tryz.func164 (lookOk_nil)
def f_167 (_ : Nat) (x1 : ByteArray) : Option (TAs [.one (.d (.bool))]) :=
 (bif (!((ByteArray.toList x1) == (ByteArray.toList (⟨#[]⟩ : ByteArray)))) then (bif (decide ((ByteArray.size x1 : Int) ≤ 12)) then ((trimF x1 (⟨#[65, 66, 67, 68, 69, 70, 71, 72, 73, 74, 75, 76, 77, 78, 79, 80, 81, 82, 83, 84, 85, 86, 87, 88, 89, 90, 97, 98, 99, 100, 101, 102, 103, 104, 105, 106, 107, 108, 109, 110, 111, 112, 113, 114, 115, 116, 117, 118, 119, 120, 121, 122, 48, 49, 50, 51, 52, 53, 54, 55, 56, 57, 47, 95, 43, 45]⟩)).bind fun r2 => (some ((ByteArray.toList r2) == (ByteArray.toList (⟨#[]⟩ : ByteArray))))) else (some false)) else (some false))
def S_167 (N : Nat) : Sum := fnSum 1 0 1 [.one (.d (.str))] [.one (.d (.bool))] (fun x1 => f_167 N x1)
theorem s_167 (N : Nat) : SumOk Tryz.prog laidL 167 (S_167 N) := fn_x h0 (fk trimS_ok fz) Tryz.func167 (lookOk_nil)
def f_168 (_ : Nat) (x1 : Int) : Option (TAs [.one (.d (.bool))]) :=
 (bif (decide (x1 ≥ (-86399))) then (some (decide (x1 ≤ 86399))) else (some false))
def S_168 (N : Nat) : Sum := fnSum 1 0 1 [.one (.d (.int .i64))] [.one (.d (.bool))] (fun x1 => f_168 N x1)
theorem s_168 (N : Nat) : SumOk Tryz.prog laidL 168 (S_168 N) := fn_x h0 fz Tryz.func168 (lookOk_nil)
def f_185 (N : Nat) (x1 x2 : Int) : Option (TAs [.one (.d (.int .i64)), .one (.d (.err 129))]) :=
 ((f_107 N x2).bind fun r3 => (bif (!(Option.isNone r3)) then (some (0, r3)) else ((f_94 N x1 x2).bind fun r4 => (some (r4.1, r4.2.2)))))
def S_185 (N : Nat) : Sum := fnSum 2 0 2 [.one (.d (.int .i64)), .one (.d (.int .i64))] [.one (.d (.int .i64)), .one (.d (.err 129))] (fun (x1, x2) => f_185 N x1 x2)
theorem s_185 (N : Nat) : SumOk Tryz.prog laidL 185 (S_185 N) := fn_x h0 (fk (s_107 N) (fk (s_94 N) fz)) Tryz.func185 (lookOk_nil)
def f_186 (_ : Nat) (x1 x2 : Int) : Option (TAs [.one (.d (.int .i64)), .one (.d (.err 129))]) :=
 (bif (x1 == 0) then (some (0, none)) else (bif (x2 == 0) then (some (0, none)) else (bif (x1 == (-1)) then (bif (x2 == (-9223372036854775808)) then (some (0, (some 2))) else (bif (x2 == (-1)) then (bif (x1 == (-9223372036854775808)) then (some (0, (some 2))) else (bif (decide (x2 = 0)) then none else (bif ((IntKind.i64.wrap (Int.tdiv (IntKind.i64.wrap (x1 * x2)) x2)) != x1) then (some (0, (some 2))) else (some ((IntKind.i64.wrap (x1 * x2)), none))))) else (bif (decide (x2 = 0)) then none else (bif ((IntKind.i64.wrap (Int.tdiv (IntKind.i64.wrap (x1 * x2)) x2)) != x1) then (some (0, (some 2))) else (some ((IntKind.i64.wrap (x1 * x2)), none)))))) else (bif (x2 == (-1)) then (bif (x1 == (-9223372036854775808)) then (some (0, (some 2))) else (bif (decide (x2 = 0)) then none else (bif ((IntKind.i64.wrap (Int.tdiv (IntKind.i64.wrap (x1 * x2)) x2)) != x1) then (some (0, (some 2))) else (some ((IntKind.i64.wrap (x1 * x2)), none))))) else (bif (decide (x2 = 0)) then none else (bif ((IntKind.i64.wrap (Int.tdiv (IntKind.i64.wrap (x1 * x2)) x2)) != x1) then (some (0, (some 2))) else (some ((IntKind.i64.wrap (x1 * x2)), none))))))))
def S_186 (N : Nat) : Sum := fnSum 2 0 2 [.one (.d (.int .i64)), .one (.d (.int .i64))] [.one (.d (.int .i64)), .one (.d (.err 129))] (fun (x1, x2) => f_186 N x1 x2)
theorem s_186 (N : Nat) : SumOk Tryz.prog laidL 186 (S_186 N) := fn_x h0 fz Tryz.func186 (lookOk_nil)
def X_187 (_ : Nat) : List (Nat × Sum) := []
theorem x_187 (N : Nat) : FnsOk Tryz.prog laidL (X_187 N) := fz
def sh_187_0 : List ShA := [.one (.ptr 144 0), .one (.d (.sl [.int .i64])), .one (.d (.int .i64)), .one (.d (.int .i64)), zg8]
abbrev T_187_0 := ((TAs [.one (.d (.err 129))]) ⊕ (TAs []))
def o_187_0 : OutK 0 T_187_0 := (outTwo (outOne 0 .ret [2] [] [.one (.d (.err 129))]) (outOne 0 (.exit 0) [] [] []))
def b_187_0 (_ : Nat) (ih : TAs sh_187_0 → Option T_187_0) : TAs sh_187_0 → Option T_187_0 := fun (_, y4, y5, y6, (y7, y8, y9)) =>
 (bif (decide (y6 < y5)) then (bif (decide (0 ≤ y6 ∧ y6 < (List.length y4 : Int))) then (bif (decide ((List.getD y4 (Int.toNat y6) 0) < (-50000))) then (some (.inl (some 1))) else (bif (decide ((List.getD y4 (Int.toNat y6) 0) ≥ y8)) then (some (.inl (some 1))) else (bif (decide (y6 > 0)) then (bif (decide (0 ≤ (IntKind.i64.wrap (y6 - 1)) ∧ (IntKind.i64.wrap (y6 - 1)) < (List.length y9 : Int))) then (bif (decide ((List.getD y9 (Int.toNat (IntKind.i64.wrap (y6 - 1))) 0) ≥ (List.getD y4 (Int.toNat y6) 0))) then (some (.inl (some 1))) else (ih ((), y4, y5, (IntKind.i64.wrap (y6 + 1)), (y7, y8, y9)))) else none) else (ih ((), y4, y5, (IntKind.i64.wrap (y6 + 1)), (y7, y8, y9)))))) else none) else (some (.inr ())))
def l_187_0 (N : Nat) : TAs sh_187_0 → Option T_187_0 := iter (b_187_0 N) N
def L_187_0 (N : Nat) : LSum := loopSum [1, 31, 32, 33] [144] sh_187_0 o_187_0 (l_187_0 N)
theorem L_ok_187_0 (N : Nat) : SegOk Tryz.prog laidL 0 Tryz.f187.ntmps (loopAt 0 0 (bodyOf Tryz.f187)) (L_187_0 N) :=
 lp_x h0 (x_187 N) (lookOk_nil)
def f_187 (N : Nat) (x1 x2 : Int) (x3 : List Int) : Option (TAs [.one (.d (.err 129))]) :=
 (bif (decide (x1 < 0)) then (some (some 1)) else (bif (decide (x1 > 100)) then (some (some 1)) else (bif (decide (x2 < (-50000))) then (some (some 1)) else (bif (decide (x2 > 50000)) then (some (some 1)) else (bif (decide ((List.length x3 : Int) > 32)) then (some (some 1)) else ((l_187_0 N ((), x3, (List.length x3 : Int), 0, (x1, x2, x3))).bind fun q => (match q with | .inl q10 => (some q10) | .inr _ => (some none))))))))
def S_187 (N : Nat) : Sum := fnSum 1 0 1 [zg8] [.one (.d (.err 129))] (fun (x1, x2, x3) => f_187 N x1 x2 x3)
theorem s_187 (N : Nat) : SumOk Tryz.prog laidL 187 (S_187 N) := fn_x h0 (x_187 N) Tryz.func187 ((lookOk_cons (L_ok_187_0 N) lookOk_nil))
def f_190 (_ : Nat) (_x1 x2 x3 : Int) : Option (TAs [.one (.d (.int .i64))]) :=
 (some (IntKind.i64.wrap ((IntKind.i64.wrap ((IntKind.i64.wrap (x2 + 1)) + x3)) * 1000000000)))
def S_190 (N : Nat) : Sum := fnSum 1 0 1 [zg9] [.one (.d (.int .i64))] (fun (x1, x2, x3) => f_190 N x1 x2 x3)
theorem s_190 (N : Nat) : SumOk Tryz.prog laidL 190 (S_190 N) := fn_x h0 fz Tryz.func190 (lookOk_nil)
def f_191 (_ : Nat) (x1 x2 : Int) : Option (TAs [.one (.d (.int .i64)), .one (.d (.int .i64)), .one (.d (.err 129))]) :=
 ((mdF 2000000000 x1 x2).bind fun r3 => (bif (!(Option.isNone r3.2)) then (some (0, 0, r3.2)) else ((wmulF x1 r3.1).bind fun r4 => ((wdivF ((r4.1, r4.2), x2)).bind fun r5 => (bif (!(Option.isNone r5.2.2)) then (some (0, 0, r5.2.2)) else ((wintF (r5.1.1, r5.1.2)).bind fun r6 => (some (r6.1, r5.2.1, r6.2))))))))
def S_191 (N : Nat) : Sum := fnSum 2 0 3 [.one (.d (.int .i64)), .one (.d (.int .i64))] [.one (.d (.int .i64)), .one (.d (.int .i64)), .one (.d (.err 129))] (fun (x1, x2) => f_191 N x1 x2)
theorem s_191 (N : Nat) : SumOk Tryz.prog laidL 191 (S_191 N) := fn_x h0 (fk mdS_ok (fk wmulS_ok (fk wdivS_ok (fk wintS_ok fz)))) Tryz.func191 (lookOk_nil)
def f_203 (N : Nat) (x1 x2 : Int) (x3 : List Int) (x4 : Int) : Option (TAs [.one (.d (.err 129))]) :=
 ((f_187 N x1 x2 x3).bind fun r5 => (bif (!(Option.isNone r5)) then (some (some 1)) else (bif (decide (x4 < (-50000))) then (some (some 2)) else (bif (decide (x4 ≥ x2)) then (some (some 10)) else (some none)))))
def S_203 (N : Nat) : Sum := fnSum 2 0 1 [zg8, .one (.d (.int .i64))] [.one (.d (.err 129))] (fun ((x1, x2, x3), x4) => f_203 N x1 x2 x3 x4)
theorem s_203 (N : Nat) : SumOk Tryz.prog laidL 203 (S_203 N) := fn_x h0 (fk (s_187 N) fz) Tryz.func203 (lookOk_nil)
def f_220 (_ : Nat) (x1 : Int) : Option (TAs [.one (.d (.bool))]) :=
 (some (x1 != x1))
def S_220 (N : Nat) : Sum := fnSum 1 0 1 [.one (.d (.int .i64))] [.one (.d (.bool))] (fun x1 => f_220 N x1)
theorem s_220 (N : Nat) : SumOk Tryz.prog laidL 220 (S_220 N) := fn_x h0 fz Tryz.func220 (lookOk_nil)
def f_226 (N : Nat) (x1 x2 : Int) : Option (TAs [.one (.d (.bool))]) :=
 ((f_220 N x1).bind fun r3 => (bif r3 then ((f_220 N x2).bind fun r4 => (bif (!r4) then (some true) else (some (decide (x1 < x2))))) else (some (decide (x1 < x2)))))
def S_226 (N : Nat) : Sum := fnSum 2 0 1 [.one (.d (.int .i64)), .one (.d (.int .i64))] [.one (.d (.bool))] (fun (x1, x2) => f_226 N x1 x2)
theorem s_226 (N : Nat) : SumOk Tryz.prog laidL 226 (S_226 N) := fn_x h0 (fk (s_220 N) fz) Tryz.func226 (lookOk_nil)
def f_227 (_ : Nat) (x1 : Int) : Option (TAs [.one (.d (.bool))]) :=
 (some (x1 != x1))
def S_227 (N : Nat) : Sum := fnSum 1 0 1 [.one (.d (.int .i64))] [.one (.d (.bool))] (fun x1 => f_227 N x1)
theorem s_227 (N : Nat) : SumOk Tryz.prog laidL 227 (S_227 N) := fn_x h0 fz Tryz.func227 (lookOk_nil)
def f_232 (_ : Nat) (x1 : List Int) (x2 : Bool) : Option (TAs [.one (.d (.int .i64)), zg11]) :=
 ((rdF 8 x1 x2).bind fun r3 => (some ((IntKind.i64.wrap r3.1), (r3.2.1, r3.2.2))))
def S_232 (N : Nat) : Sum := fnSum 1 1 1 [.one (.ptr 0 0), zg11] [.one (.d (.int .i64)), zg11] (fun (_, (x1, x2)) => f_232 N x1 x2)
theorem s_232 (N : Nat) : SumOk Tryz.prog laidL 232 (S_232 N) := fn_x h0 (fk rdS_ok fz) Tryz.func232 (lookOk_nil)
def Xc_234 : Ctx := ⟨tyT, lookF [], eqT, fun _ => false⟩
theorem xc_234 : CtxOk Go.Proofs.Tryz.prog laidL Xc_234 := ⟨tyOk, eqOk, fun _ _ => fnsOk_nil.get, by kernel_rfl⟩
def cl_234 : Sum := fnSum 1 0 1 [.one (.d (.sl [.int .u8]))] [.one (.slt [.int .u8] 5 1)] (cloneF [.int .u8] 1)
theorem cl_234_ok : SumOk Go.Proofs.Tryz.prog laidL 234 cl_234 :=
 clone_ok (t := 305) (bt := 4) (e := 5) xc_234 Go.Proofs.Tryz.func234 (by kernel_rfl) rfl rfl rfl (by kernel_rfl) (fun b xs h => by
  cases b with
  | false => kernel_rfl
  | true => obtain rfl := h rfl; kernel_rfl)
def f_236 (_ : Nat) (x1 x2 : Int) : Option (TAs [.one (.d (.int .u64))]) :=
 (bif (decide ((ibits .and .u64 (IntKind.u64.wrap x2) 63) < 0)) then none else (bif (decide ((IntKind.u64.wrap (64 - (ibits .and .u64 (IntKind.u64.wrap x2) 63))) < 0)) then none else (some (ibits .or .u64 (IntKind.u64.wrap (x1 * 2 ^ (min (Int.toNat (ibits .and .u64 (IntKind.u64.wrap x2) 63)) IntKind.u64.bits))) (x1 / 2 ^ (min (Int.toNat (IntKind.u64.wrap (64 - (ibits .and .u64 (IntKind.u64.wrap x2) 63)))) IntKind.u64.bits))))))
def S_236 (N : Nat) : Sum := fnSum 2 0 1 [.one (.d (.int .u64)), .one (.d (.int .i64))] [.one (.d (.int .u64))] (fun (x1, x2) => f_236 N x1 x2)
theorem s_236 (N : Nat) : SumOk Tryz.prog laidL 236 (S_236 N) := fn_x h0 fz Tryz.func236 (lookOk_nil)
def f_21 (N : Nat) (x1 : ByteArray) (_x2 : List Int) (_x3 _x4 _x5 _x6 _x7 _x8 : Int) (_x9 : Bool) (x10 : ByteArray) (x11 : Int) (x12 : List (Int × Int × ByteArray)) (_x13 : Bool) (_x14 _x15 : Int) (_x16 : Bool) (_x17 _x18 : Int) : Option (TAs [.one (.d (.bool))]) :=
 ((f_26 N x10 x11 x12).bind fun r19 => (bif r19 then (some true) else (some (decide ((ByteArray.size x1 : Int) > 100)))))
def S_21 (N : Nat) : Sum := fnSum 1 0 1 [zg1] [.one (.d (.bool))] (fun (x1, x2, x3, x4, x5, x6, x7, x8, x9, x10, x11, x12, x13, x14, x15, x16, x17, x18) => f_21 N x1 x2 x3 x4 x5 x6 x7 x8 x9 x10 x11 x12 x13 x14 x15 x16 x17 x18)
theorem s_21 (N : Nat) : SumOk Tryz.prog laidL 21 (S_21 N) := fn_x h0 (fk (s_26 N) fz) Tryz.func21 (lookOk_nil)
def f_30 (N : Nat) (x1 x2 x3 x4 x5 x6 : Int) (x7 : Bool) (x8 : ByteArray) (x9 : Int) (x10 : List (Int × Int × ByteArray)) : Option (TAs [zg2]) :=
 ((f_87 N x8 x9 x10).bind fun r11 => (some (x1, x2, x3, x4, x5, x6, x7, r11.1, r11.2.1, r11.2.2)))
def S_30 (N : Nat) : Sum := fnSum 1 0 1 [zg3] [zg2] (fun (x1, x2, x3, x4, x5, x6, x7, x8, x9, x10) => f_30 N x1 x2 x3 x4 x5 x6 x7 x8 x9 x10)
theorem s_30 (N : Nat) : SumOk Tryz.prog laidL 30 (S_30 N) := fn_x h0 (fk (s_87 N) fz) Tryz.func30 (lookOk_nil)
def f_52 (N : Nat) (x1 x2 : Int) : Option (TAs [.one (.d (.int .i64))]) :=
 ((f_114 N x1 x2).bind fun r3 => (bif (!(Option.isNone r3.2)) then ((f_115 N (decide (x2 > 0))).bind fun r4 => (some r4)) else (some r3.1)))
def S_52 (N : Nat) : Sum := fnSum 2 0 1 [.one (.d (.int .i64)), .one (.d (.int .i64))] [.one (.d (.int .i64))] (fun (x1, x2) => f_52 N x1 x2)
theorem s_52 (N : Nat) : SumOk Tryz.prog laidL 52 (S_52 N) := fn_x h0 (fk (s_114 N) (fk (s_115 N) fz)) Tryz.func52 (lookOk_nil)
def f_72 (N : Nat) (x1 : Bool) (x2 x3 : Int) : Option (TAs [.one (.d (.bool))]) :=
 (bif (!x1) then (some (x2 == 0)) else ((f_142 N x2 x3).bind fun r4 => (some r4)))
def S_72 (N : Nat) : Sum := fnSum 2 0 1 [zg14, .one (.d (.int .i64))] [.one (.d (.bool))] (fun ((x1, x2), x3) => f_72 N x1 x2 x3)
theorem s_72 (N : Nat) : SumOk Tryz.prog laidL 72 (S_72 N) := fn_x h0 (fk (s_142 N) fz) Tryz.func72 (lookOk_nil)
def f_76 (N : Nat) (x1 : Bool) (x2 x3 : Int) : Option (TAs [.one (.d (.int .i64)), .one (.d (.int .i64)), zg14]) :=
 ((f_145 N x1 x2 x3).bind fun r4 => ((f_52 N r4.2 x3).bind fun r5 => (some (r4.2, r5, (r4.1, r4.2)))))
def S_76 (N : Nat) : Sum := fnSum 2 0 3 [zg14, .one (.d (.int .i64))] [.one (.d (.int .i64)), .one (.d (.int .i64)), zg14] (fun ((x1, x2), x3) => f_76 N x1 x2 x3)
theorem s_76 (N : Nat) : SumOk Tryz.prog laidL 76 (S_76 N) := fn_x h0 (fk (s_145 N) (fk (s_52 N) fz)) Tryz.func76 (lookOk_nil)
def f_101 (N : Nat) (x1 : Int) : Option (TAs [.one (.d (.int .i64))]) :=
 (bif (decide (x1 < 0)) then ((f_52 N 0 x1).bind fun r2 => (some r2)) else (some x1))
def S_101 (N : Nat) : Sum := fnSum 1 0 1 [.one (.d (.int .i64))] [.one (.d (.int .i64))] (fun x1 => f_101 N x1)
theorem s_101 (N : Nat) : SumOk Tryz.prog laidL 101 (S_101 N) := fn_x h0 (fk (s_52 N) fz) Tryz.func101 (lookOk_nil)
def X_109 (N : Nat) : List (Nat × Sum) := [(167, (S_167 N)), (168, (S_168 N))]
theorem x_109 (N : Nat) : FnsOk Tryz.prog laidL (X_109 N) := fk (s_167 N) (fk (s_168 N) fz)
def sh_109_0 : List ShA := [.one (.ptr 144 0), .one (.d (.sl [.int .i64, .int .i64, .str])), .one (.d (.int .i64)), .one (.d (.int .i64)), zg5]
abbrev T_109_0 := ((TAs [.one (.d (.err 129))]) ⊕ (TAs []))
def o_109_0 : OutK 0 T_109_0 := (outTwo (outOne 0 .ret [2] [] [.one (.d (.err 129))]) (outOne 0 (.exit 0) [] [] []))
def b_109_0 (N : Nat) (ih : TAs sh_109_0 → Option T_109_0) : TAs sh_109_0 → Option T_109_0 := fun (_, y6, y7, y8, (y9, y10, y11)) =>
 (bif (decide (y8 < y7)) then (bif (decide (0 ≤ y8 ∧ y8 < (List.length y6 : Int))) then ((f_167 N ((List.getD y6 (Int.toNat y8) (0, 0, ByteArray.empty)).2.2)).bind fun r12 => (bif (!r12) then (some (.inl (some 1))) else ((f_168 N ((List.getD y6 (Int.toNat y8) (0, 0, ByteArray.empty)).2.1)).bind fun r13 => (bif (!r13) then (some (.inl (some 1))) else (bif (decide ((List.getD y6 (Int.toNat y8) (0, 0, ByteArray.empty)).1 < (-1099511627776))) then (some (.inl (some 1))) else (bif (decide ((List.getD y6 (Int.toNat y8) (0, 0, ByteArray.empty)).1 > 1099511627776)) then (some (.inl (some 1))) else (bif (decide (y8 > 0)) then (bif (decide (0 ≤ (IntKind.i64.wrap (y8 - 1)) ∧ (IntKind.i64.wrap (y8 - 1)) < (List.length y11 : Int))) then (bif (decide ((List.getD y11 (Int.toNat (IntKind.i64.wrap (y8 - 1))) (0, 0, ByteArray.empty)).1 ≥ (List.getD y6 (Int.toNat y8) (0, 0, ByteArray.empty)).1)) then (some (.inl (some 1))) else (ih ((), y6, y7, (IntKind.i64.wrap (y8 + 1)), (y9, y10, y11)))) else none) else (ih ((), y6, y7, (IntKind.i64.wrap (y8 + 1)), (y9, y10, y11)))))))))) else none) else (some (.inr ())))
def l_109_0 (N : Nat) : TAs sh_109_0 → Option T_109_0 := iter (b_109_0 N) N
def L_109_0 (N : Nat) : LSum := loopSum [1, 23, 24, 25] [144] sh_109_0 o_109_0 (l_109_0 N)
theorem L_ok_109_0 (N : Nat) : SegOk Tryz.prog laidL 0 Tryz.f109.ntmps (loopAt 0 0 (bodyOf Tryz.f109)) (L_109_0 N) :=
 lp_x h0 (x_109 N) (lookOk_nil)
def f_109 (N : Nat) (x1 : ByteArray) (x2 : Int) (x3 : List (Int × Int × ByteArray)) : Option (TAs [.one (.d (.err 129))]) :=
 ((f_167 N x1).bind fun r4 => (bif (!r4) then (some (some 1)) else ((f_168 N x2).bind fun r5 => (bif (!r5) then (some (some 1)) else (bif (decide ((List.length x3 : Int) > 32)) then (some (some 1)) else ((l_109_0 N ((), x3, (List.length x3 : Int), 0, (x1, x2, x3))).bind fun q => (match q with | .inl q14 => (some q14) | .inr _ => (some none))))))))
def S_109 (N : Nat) : Sum := fnSum 1 0 1 [zg5] [.one (.d (.err 129))] (fun (x1, x2, x3) => f_109 N x1 x2 x3)
theorem s_109 (N : Nat) : SumOk Tryz.prog laidL 109 (S_109 N) := fn_x h0 (x_109 N) Tryz.func109 ((lookOk_cons (L_ok_109_0 N) lookOk_nil))
def f_136 (N : Nat) (x1 x2 : Int) : Option (TAs [.one (.d (.int .i64))]) :=
 ((f_164 N x1 x2).bind fun r3 => (bif (!(Option.isNone r3.2)) then ((f_115 N (decide (x2 < 0))).bind fun r4 => (some r4)) else (some r3.1)))
def S_136 (N : Nat) : Sum := fnSum 2 0 1 [.one (.d (.int .i64)), .one (.d (.int .i64))] [.one (.d (.int .i64))] (fun (x1, x2) => f_136 N x1 x2)
theorem s_136 (N : Nat) : SumOk Tryz.prog laidL 136 (S_136 N) := fn_x h0 (fk (s_164 N) (fk (s_115 N) fz)) Tryz.func136 (lookOk_nil)
def f_141 (N : Nat) (x1 : Int) : Option (TAs [.one (.d (.bool))]) :=
 ((f_101 N x1).bind fun r2 => (some (decide (r2 < 4611686018427387904))))
def S_141 (N : Nat) : Sum := fnSum 1 0 1 [.one (.d (.int .i64))] [.one (.d (.bool))] (fun x1 => f_141 N x1)
theorem s_141 (N : Nat) : SumOk Tryz.prog laidL 141 (S_141 N) := fn_x h0 (fk (s_101 N) fz) Tryz.func141 (lookOk_nil)
def f_144 (N : Nat) (x1 x2 : Int) : Option (TAs [.one (.d (.int .i64)), .one (.d (.err 129))]) :=
 ((f_185 N x1 x2).bind fun r3 => (bif (!(Option.isNone r3.2)) then (some (0, r3.2)) else ((f_186 N r3.1 x2).bind fun r4 => (some (r4.1, r4.2)))))
def S_144 (N : Nat) : Sum := fnSum 2 0 2 [.one (.d (.int .i64)), .one (.d (.int .i64))] [.one (.d (.int .i64)), .one (.d (.err 129))] (fun (x1, x2) => f_144 N x1 x2)
theorem s_144 (N : Nat) : SumOk Tryz.prog laidL 144 (S_144 N) := fn_x h0 (fk (s_185 N) (fk (s_186 N) fz)) Tryz.func144 (lookOk_nil)
def X_147 (N : Nat) : List (Nat × Sum) := [(106, (S_106 N)), (187, (S_187 N)), (149, (S_149 N))]
theorem x_147 (N : Nat) : FnsOk Tryz.prog laidL (X_147 N) := fk (s_106 N) (fk (s_187 N) (fk (s_149 N) fz))
def sh_147_0 : List ShA := [.one (.ptr 160 0), .one (.ptr 176 0), .one (.d (.int .i64)), .one (.d (.int .i64)), .one (.d (.int .i64)), zg9, zg8]
abbrev T_147_0 := ((TAs [.one (.d (.err 129))]) ⊕ (TAs []))
def o_147_0 : OutK 0 T_147_0 := (outTwo (outOne 0 .ret [4] [] [.one (.d (.err 129))]) (outOne 0 (.exit 0) [] [] []))
def b_147_0 (N : Nat) (ih : TAs sh_147_0 → Option T_147_0) : TAs sh_147_0 → Option T_147_0 := fun (_, _, y9, y10, y11, (y12, y13, y14), (y15, y16, y17)) =>
 (bif (decide (y11 < y10)) then ((f_149 N y12 y13 y14 y15 y16 y17 y11).bind fun r18 => (bif (y12 != 0) then (bif (decide (r18.1 < y9)) then (some (.inl (some 9))) else (ih ((), (), r18.2, y10, (IntKind.i64.wrap (y11 + 1)), (y12, y13, y14), (y15, y16, y17)))) else (ih ((), (), r18.2, y10, (IntKind.i64.wrap (y11 + 1)), (y12, y13, y14), (y15, y16, y17))))) else (some (.inr ())))
def l_147_0 (N : Nat) : TAs sh_147_0 → Option T_147_0 := iter (b_147_0 N) N
def L_147_0 (N : Nat) : LSum := loopSum [2, 3, 5, 20, 21] [160, 176] sh_147_0 o_147_0 (l_147_0 N)
theorem L_ok_147_0 (N : Nat) : SegOk Tryz.prog laidL 0 Tryz.f147.ntmps (loopAt 0 0 (bodyOf Tryz.f147)) (L_147_0 N) :=
 lp_x h0 (x_147 N) (lookOk_nil)
def f_147 (N : Nat) (x1 x2 x3 x4 x5 : Int) (x6 : List Int) : Option (TAs [.one (.d (.err 129))]) :=
 ((f_106 N x1 x2 x3).bind fun r7 => (bif (!(Option.isNone r7)) then (some (some 1)) else ((f_187 N x4 x5 x6).bind fun r8 => (bif (!(Option.isNone r8)) then (some (some 1)) else ((l_147_0 N ((), (), (-9223372036854775808), (List.length x6 : Int), 0, (x1, x2, x3), (x4, x5, x6))).bind fun q => (match q with | .inl q19 => (some q19) | .inr _ => (some none)))))))
def S_147 (N : Nat) : Sum := fnSum 2 0 1 [zg9, zg8] [.one (.d (.err 129))] (fun ((x1, x2, x3), (x4, x5, x6)) => f_147 N x1 x2 x3 x4 x5 x6)
theorem s_147 (N : Nat) : SumOk Tryz.prog laidL 147 (S_147 N) := fn_x h0 (x_147 N) Tryz.func147 ((lookOk_cons (L_ok_147_0 N) lookOk_nil))
def f_150 (N : Nat) (x1 x2 x3 x4 : Int) : Option (TAs [.one (.d (.int .i64)), .one (.d (.err 129))]) :=
 ((f_190 N x1 x2 x3).bind fun r5 => ((f_106 N x1 x2 x3).bind fun r6 => (bif (!(Option.isNone r6)) then (some (0, (some 1))) else (bif (x1 == 0) then (some (0, (some 1))) else (bif (decide (x4 < 0)) then (some (0, (some 1))) else (bif (decide (x4 > r5)) then (some (0, (some 1))) else (bif (x1 == 1) then ((mdF (IntKind.i64.wrap (r5 - x4)) 1000000000 r5).bind fun r7 => (some ((IntKind.i64.wrap (1000000000 - r7.1)), r7.2))) else (bif (decide (x4 ≥ (IntKind.i64.wrap (Int.tdiv r5 2)))) then ((f_191 N (IntKind.i64.wrap (r5 - x4)) r5).bind fun r8 => (some ((IntKind.i64.wrap (1000000000 - r8.1)), r8.2.2))) else ((f_191 N x4 r5).bind fun r9 => (bif (decide (r9.2.1 > 0)) then (some ((IntKind.i64.wrap (r9.1 + 1)), r9.2.2)) else (some (r9.1, r9.2.2))))))))))))
def S_150 (N : Nat) : Sum := fnSum 2 0 2 [zg9, .one (.d (.int .i64))] [.one (.d (.int .i64)), .one (.d (.err 129))] (fun ((x1, x2, x3), x4) => f_150 N x1 x2 x3 x4)
theorem s_150 (N : Nat) : SumOk Tryz.prog laidL 150 (S_150 N) := fn_x h0 (fk (s_190 N) (fk (s_106 N) (fk mdS_ok (fk (s_191 N) fz)))) Tryz.func150 (lookOk_nil)
def f_209 (N : Nat) (x1 x2 : Int) : Option (TAs [.one (.d (.int .i64))]) :=
 ((f_220 N x1).bind fun r3 => ((f_220 N x2).bind fun r4 => (bif r3 then (bif r4 then (some 0) else (some (-1))) else (bif r4 then (some 1) else (bif (decide (x1 < x2)) then (some (-1)) else (bif (decide (x1 > x2)) then (some 1) else (some 0)))))))
def S_209 (N : Nat) : Sum := fnSum 2 0 1 [.one (.d (.int .i64)), .one (.d (.int .i64))] [.one (.d (.int .i64))] (fun (x1, x2) => f_209 N x1 x2)
theorem s_209 (N : Nat) : SumOk Tryz.prog laidL 209 (S_209 N) := fn_x h0 (fk (s_220 N) fz) Tryz.func209 (lookOk_nil)
def X_217 (N : Nat) : List (Nat × Sum) := [(226, (S_226 N)), (227, (S_227 N))]
theorem x_217 (N : Nat) : FnsOk Tryz.prog laidL (X_217 N) := fk (s_226 N) (fk (s_227 N) fz)
def sh_217_0 : List ShA := [.one (.d (.sl [.int .i64])), .one (.d (.int .i64)), .one (.d (.int .i64)), .one (.d (.int .i64)), .one (.d (.int .i64))]
abbrev T_217_0 := TAs [.one (.d (.sl [.int .i64])), .one (.d (.int .i64)), .one (.d (.int .i64)), .one (.d (.int .i64))]
def o_217_0 : OutK 0 T_217_0 := (outOne 0 (.exit 0) [0, 1, 6, 7] [] [.one (.d (.sl [.int .i64])), .one (.d (.int .i64)), .one (.d (.int .i64)), .one (.d (.int .i64))])
def b_217_0 (N : Nat) (ih : TAs sh_217_0 → Option T_217_0) : TAs sh_217_0 → Option T_217_0 := fun (y3, y4, y5, y6, y7) =>
 (bif (decide (y6 < y7)) then (bif (decide (0 ≤ (IntKind.i64.wrap ((IntKind.u64.wrap (IntKind.i64.wrap (y6 + y7))) / 2 ^ (min (Int.toNat 1) IntKind.u64.bits))) ∧ (IntKind.i64.wrap ((IntKind.u64.wrap (IntKind.i64.wrap (y6 + y7))) / 2 ^ (min (Int.toNat 1) IntKind.u64.bits))) < (List.length y3 : Int))) then ((f_226 N (List.getD y3 (Int.toNat (IntKind.i64.wrap ((IntKind.u64.wrap (IntKind.i64.wrap (y6 + y7))) / 2 ^ (min (Int.toNat 1) IntKind.u64.bits)))) 0) y4).bind fun r8 => (bif r8 then (ih (y3, y4, y5, (IntKind.i64.wrap ((IntKind.i64.wrap ((IntKind.u64.wrap (IntKind.i64.wrap (y6 + y7))) / 2 ^ (min (Int.toNat 1) IntKind.u64.bits))) + 1)), y7)) else (ih (y3, y4, y5, y6, (IntKind.i64.wrap ((IntKind.u64.wrap (IntKind.i64.wrap (y6 + y7))) / 2 ^ (min (Int.toNat 1) IntKind.u64.bits))))))) else none) else (some ((y3, y4, y5, y6))))
def l_217_0 (N : Nat) : TAs sh_217_0 → Option T_217_0 := iter (b_217_0 N) N
def L_217_0 (N : Nat) : LSum := loopSum [0, 1, 6, 7, 8] [] sh_217_0 o_217_0 (l_217_0 N)
theorem L_ok_217_0 (N : Nat) : SegOk Tryz.prog laidL 0 Tryz.f217.ntmps (loopAt 0 0 (bodyOf Tryz.f217)) (L_217_0 N) :=
 lp_x h0 (x_217 N) (lookOk_nil)
def f_217 (N : Nat) (x1 : List Int) (x2 : Int) : Option (TAs [.one (.d (.int .i64)), .one (.d (.bool))]) :=
 ((l_217_0 N (x1, x2, (List.length x1 : Int), 0, (List.length x1 : Int))).bind fun q9 => (bif (decide (q9.2.2.2 < q9.2.2.1)) then (bif (decide (0 ≤ q9.2.2.2 ∧ q9.2.2.2 < (List.length q9.1 : Int))) then (bif ((List.getD q9.1 (Int.toNat q9.2.2.2) 0) == q9.2.1) then (some (q9.2.2.2, true)) else (bif (decide (0 ≤ q9.2.2.2 ∧ q9.2.2.2 < (List.length q9.1 : Int))) then ((f_227 N (List.getD q9.1 (Int.toNat q9.2.2.2) 0)).bind fun r10 => (bif r10 then ((f_227 N q9.2.1).bind fun r11 => (some (q9.2.2.2, r11))) else (some (q9.2.2.2, false)))) else none)) else none) else (some (q9.2.2.2, false))))
def S_217 (N : Nat) : Sum := fnSum 2 0 2 [.one (.d (.sl [.int .i64])), .one (.d (.int .i64))] [.one (.d (.int .i64)), .one (.d (.bool))] (fun (x1, x2) => f_217 N x1 x2)
theorem s_217 (N : Nat) : SumOk Tryz.prog laidL 217 (S_217 N) := fn_x h0 (x_217 N) Tryz.func217 ((lookOk_cons (L_ok_217_0 N) lookOk_nil))
def X_225 (_ : Nat) : List (Nat × Sum) := [(234, cl_234)]
theorem x_225 (N : Nat) : FnsOk Tryz.prog laidL (X_225 N) := fk cl_234_ok fz
def sh_225_0 : List ShA := [.one (.d (.int .u64)), .one (.slt [.int .u8] 5 1), .one (.d (.int .i64)), .one (.d (.int .i64))]
abbrev T_225_0 := TAs [.one (.slt [.int .u8] 5 1)]
def o_225_0 : OutK 0 T_225_0 := (outOne 0 (.exit 0) [7] [] [.one (.slt [.int .u8] 5 1)])
def b_225_0 (_ : Nat) (ih : TAs sh_225_0 → Option T_225_0) : TAs sh_225_0 → Option T_225_0 := fun (y5, y6, y7, y8) =>
 (bif (decide (y8 < y7)) then (bif (decide ((IntKind.i64.wrap (8 * y8)) < 0)) then none else (bif (decide ((List.length y6 + List.length ([(IntKind.u8.wrap (y5 / 2 ^ (min (Int.toNat (IntKind.i64.wrap (8 * y8))) IntKind.u64.bits)))] : List Int)) * 1 ≤ 140737488355328)) then (ih (y5, (y6 ++ ([(IntKind.u8.wrap (y5 / 2 ^ (min (Int.toNat (IntKind.i64.wrap (8 * y8))) IntKind.u64.bits)))] : List Int)), y7, (IntKind.i64.wrap (y8 + 1)))) else none)) else (some (y6)))
def l_225_0 (N : Nat) : TAs sh_225_0 → Option T_225_0 := iter (b_225_0 N) N
def L_225_0 (N : Nat) : LSum := loopSum [1, 7, 11, 12] [] sh_225_0 o_225_0 (l_225_0 N)
theorem L_ok_225_0 (N : Nat) : SegOk Tryz.prog laidL 0 Tryz.f225.ntmps (loopAt 0 0 (bodyOf Tryz.f225)) (L_225_0 N) :=
 lp_x h0 (x_225 N) (lookOk_nil)
def f_225 (N : Nat) (x1 : List Int) (x2 x3 : Int) : Option (TAs [.one (.slt [.int .u8] 5 1)]) :=
 ((cloneF [.int .u8] 1 x1).bind fun r4 => ((l_225_0 N (x2, r4, x3, 0)).bind fun q9 => (some q9)))
def S_225 (N : Nat) : Sum := fnSum 3 0 1 [.one (.d (.sl [.int .u8])), .one (.d (.int .u64)), .one (.d (.int .i64))] [.one (.slt [.int .u8] 5 1)] (fun (x1, x2, x3) => f_225 N x1 x2 x3)
theorem s_225 (N : Nat) : SumOk Tryz.prog laidL 225 (S_225 N) := fn_x h0 (x_225 N) Tryz.func225 ((lookOk_cons (L_ok_225_0 N) lookOk_nil))
def f_231 (_ : Nat) (x1 : List Int) : Option (TAs [.one (.ptr 0 0), zg12]) :=
 ((cloneF [.int .u8] 1 x1).bind fun r2 => (some ((), (r2, false))))
def S_231 (N : Nat) : Sum := fnSum 1 0 1 [.one (.d (.sl [.int .u8]))] [.one (.ptr 0 0), zg12] (fun x1 => f_231 N x1)
theorem s_231 (N : Nat) : SumOk Tryz.prog laidL 231 (S_231 N) := fn_x h0 (fk cl_234_ok fz) Tryz.func231 (lookOk_nil)
def f_233 (N : Nat) (x1 x2 : Int) : Option (TAs [.one (.d (.int .u64))]) :=
 ((f_236 N x1 x2).bind fun r3 => (some r3))
def S_233 (N : Nat) : Sum := fnSum 2 0 1 [.one (.d (.int .u64)), .one (.d (.int .i64))] [.one (.d (.int .u64))] (fun (x1, x2) => f_233 N x1 x2)
theorem s_233 (N : Nat) : SumOk Tryz.prog laidL 233 (S_233 N) := fn_x h0 (fk (s_236 N) fz) Tryz.func233 (lookOk_nil)
def f_20 (N : Nat) (x1 : ByteArray) (x2 : List Int) (x3 x4 x5 x6 x7 x8 : Int) (x9 : Bool) (x10 : ByteArray) (x11 : Int) (x12 : List (Int × Int × ByteArray)) (x13 : Bool) (x14 x15 : Int) (x16 : Bool) (x17 x18 : Int) : Option (TAs [zg0]) :=
 ((f_30 N x3 x4 x5 x6 x7 x8 x9 x10 x11 x12).bind fun r19 => (some (x1, x2, r19.1, r19.2.1, r19.2.2.1, r19.2.2.2.1, r19.2.2.2.2.1, r19.2.2.2.2.2.1, r19.2.2.2.2.2.2.1, r19.2.2.2.2.2.2.2.1, r19.2.2.2.2.2.2.2.2.1, r19.2.2.2.2.2.2.2.2.2, x13, x14, x15, x16, x17, x18)))
def S_20 (N : Nat) : Sum := fnSum 1 0 1 [zg1] [zg0] (fun (x1, x2, x3, x4, x5, x6, x7, x8, x9, x10, x11, x12, x13, x14, x15, x16, x17, x18) => f_20 N x1 x2 x3 x4 x5 x6 x7 x8 x9 x10 x11 x12 x13 x14 x15 x16 x17 x18)
theorem s_20 (N : Nat) : SumOk Tryz.prog laidL 20 (S_20 N) := fn_x h0 (fk (s_30 N) fz) Tryz.func20 (lookOk_nil)
def X_49 (N : Nat) : List (Nat × Sum) := [(106, (S_106 N)), (107, (S_107 N)), (108, (S_108 N)), (109, (S_109 N))]
theorem x_49 (N : Nat) : FnsOk Tryz.prog laidL (X_49 N) := fk (s_106 N) (fk (s_107 N) (fk (s_108 N) (fk (s_109 N) fz)))
def sh_49_0 : List ShA := [.agg [.d (.err 129), .d (.err 129), .d (.err 129), .d (.err 129)], .one (.d (.int .i64))]
abbrev T_49_0 := ((TAs [.one (.d (.err 129))]) ⊕ (TAs []))
def o_49_0 : OutK 0 T_49_0 := (outTwo (outOne 0 .ret [2] [] [.one (.d (.err 129))]) (outOne 0 (.exit 0) [] [] []))
def b_49_0 (_ : Nat) (ih : TAs sh_49_0 → Option T_49_0) : TAs sh_49_0 → Option T_49_0 := fun ((y15, y16, y17, y18), y19) =>
 (bif (decide (y19 < 4)) then (bif (decide (y19 = (0 : Int))) then (bif (!(Option.isNone y15)) then (some (.inl (some 1))) else (ih ((y15, y16, y17, y18), (IntKind.i64.wrap (y19 + 1))))) else (bif (decide (y19 = (1 : Int))) then (bif (!(Option.isNone y16)) then (some (.inl (some 1))) else (ih ((y15, y16, y17, y18), (IntKind.i64.wrap (y19 + 1))))) else (bif (decide (y19 = (2 : Int))) then (bif (!(Option.isNone y17)) then (some (.inl (some 1))) else (ih ((y15, y16, y17, y18), (IntKind.i64.wrap (y19 + 1))))) else (bif (decide (y19 = (3 : Int))) then (bif (!(Option.isNone y18)) then (some (.inl (some 1))) else (ih ((y15, y16, y17, y18), (IntKind.i64.wrap (y19 + 1))))) else none)))) else (some (.inr ())))
def l_49_0 (N : Nat) : TAs sh_49_0 → Option T_49_0 := iter (b_49_0 N) N
def L_49_0 (N : Nat) : LSum := loopSum [17, 18] [] sh_49_0 o_49_0 (l_49_0 N)
theorem L_ok_49_0 (N : Nat) : SegOk Tryz.prog laidL 0 Tryz.f49.ntmps (loopAt 0 0 (bodyOf Tryz.f49)) (L_49_0 N) :=
 lp_x h0 (x_49 N) (lookOk_nil)
def f_49 (N : Nat) (x1 x2 x3 x4 x5 x6 : Int) (_x7 : Bool) (x8 : ByteArray) (x9 : Int) (x10 : List (Int × Int × ByteArray)) : Option (TAs [.one (.d (.err 129))]) :=
 ((f_106 N x1 x2 x3).bind fun r11 => ((f_107 N x4).bind fun r12 => ((f_108 N x5 x6).bind fun r13 => ((f_109 N x8 x9 x10).bind fun r14 => ((l_49_0 N ((r11, r12, r13, r14), 0)).bind fun q => (match q with | .inl q20 => (some q20) | .inr _ => (some none)))))))
def S_49 (N : Nat) : Sum := fnSum 1 0 1 [zg3] [.one (.d (.err 129))] (fun (x1, x2, x3, x4, x5, x6, x7, x8, x9, x10) => f_49 N x1 x2 x3 x4 x5 x6 x7 x8 x9 x10)
theorem s_49 (N : Nat) : SumOk Tryz.prog laidL 49 (S_49 N) := fn_x h0 (x_49 N) Tryz.func49 ((lookOk_cons (L_ok_49_0 N) lookOk_nil))
def f_71 (N : Nat) (x1 : Bool) (x2 x3 : Int) : Option (TAs [.one (.d (.err 129))]) :=
 ((f_141 N x2).bind fun r4 => (bif (!r4) then (some (some 1)) else (bif (!x1) then (bif (x2 != 0) then (some (some 1)) else (bif (decide (x3 < 0)) then (some (some 1)) else (bif (decide (x3 > 2305843009213693952)) then (some (some 1)) else (some none)))) else (bif (decide (x3 < 0)) then (some (some 1)) else (bif (decide (x3 > 2305843009213693952)) then (some (some 1)) else (some none))))))
def S_71 (N : Nat) : Sum := fnSum 1 0 1 [zg10] [.one (.d (.err 129))] (fun (x1, x2, x3) => f_71 N x1 x2 x3)
theorem s_71 (N : Nat) : SumOk Tryz.prog laidL 71 (S_71 N) := fn_x h0 (fk (s_141 N) fz) Tryz.func71 (lookOk_nil)
def f_77 (N : Nat) (_x1 : ByteArray) (_x2 : List Int) (x3 _x4 _x5 x6 x7 _x8 : Int) (_x9 : Bool) (_x10 : ByteArray) (_x11 : Int) (_x12 : List (Int × Int × ByteArray)) (_x13 : Bool) (_x14 _x15 : Int) (_x16 : Bool) (_x17 _x18 x19 x20 : Int) : Option (TAs [.one (.d (.int .i64))]) :=
 ((f_136 N x19 (IntKind.i64.wrap ((IntKind.i64.wrap (x7 + x6)) - 1))).bind fun r21 => (bif (x3 == 0) then ((f_136 N r21 1000000000).bind fun r22 => ((f_136 N r22 x20).bind fun r23 => (some r23))) else ((f_136 N r21 x20).bind fun r24 => (some r24))))
def S_77 (N : Nat) : Sum := fnSum 3 0 1 [zg1, .one (.d (.int .i64)), .one (.d (.int .i64))] [.one (.d (.int .i64))] (fun ((x1, x2, x3, x4, x5, x6, x7, x8, x9, x10, x11, x12, x13, x14, x15, x16, x17, x18), x19, x20) => f_77 N x1 x2 x3 x4 x5 x6 x7 x8 x9 x10 x11 x12 x13 x14 x15 x16 x17 x18 x19 x20)
theorem s_77 (N : Nat) : SumOk Tryz.prog laidL 77 (S_77 N) := fn_x h0 (fk (s_136 N) fz) Tryz.func77 (lookOk_nil)
def f_146 (N : Nat) (x1 : Bool) (x2 x3 x4 : Int) : Option (TAs [.one (.d (.err 129))]) :=
 ((f_141 N x4).bind fun r5 => (bif (!r5) then (some (some 1)) else ((f_71 N x1 x2 x3).bind fun r6 => (some r6))))
def S_146 (N : Nat) : Sum := fnSum 2 0 1 [zg10, .one (.d (.int .i64))] [.one (.d (.err 129))] (fun ((x1, x2, x3), x4) => f_146 N x1 x2 x3 x4)
theorem s_146 (N : Nat) : SumOk Tryz.prog laidL 146 (S_146 N) := fn_x h0 (fk (s_141 N) (fk (s_71 N) fz)) Tryz.func146 (lookOk_nil)
def f_204 (N : Nat) (x1 _x2 : Int) (x3 : List Int) (x4 : Int) : Option (TAs [.one (.d (.int .i64))]) :=
 ((f_217 N x3 x4).bind fun r5 => (some (IntKind.i64.wrap (x1 + r5.1))))
def S_204 (N : Nat) : Sum := fnSum 2 0 1 [zg8, .one (.d (.int .i64))] [.one (.d (.int .i64))] (fun ((x1, x2, x3), x4) => f_204 N x1 x2 x3 x4)
theorem s_204 (N : Nat) : SumOk Tryz.prog laidL 204 (S_204 N) := fn_x h0 (fk (s_217 N) fz) Tryz.func204 (lookOk_nil)
def f_208 (N : Nat) (x1 _x2 : Int) (_x3 : ByteArray) (x4 : Int) : Option (TAs [.one (.d (.int .i64))]) :=
 ((f_209 N x1 x4).bind fun r5 => (some r5))
def S_208 (N : Nat) : Sum := fnSum 2 0 1 [.agg [.d (.int .i64), .d (.int .i64), .d (.str)], .one (.d (.int .i64))] [.one (.d (.int .i64))] (fun ((x1, x2, x3), x4) => f_208 N x1 x2 x3 x4)
theorem s_208 (N : Nat) : SumOk Tryz.prog laidL 208 (S_208 N) := fn_x h0 (fk (s_209 N) fz) Tryz.func208 (lookOk_nil)
def f_216 (N : Nat) (x1 : List Int) (x2 : Int) : Option (TAs [.one (.slt [.int .u8] 5 1)]) :=
 ((f_225 N x1 (IntKind.u64.wrap x2) 8).bind fun r3 => (some r3))
def S_216 (N : Nat) : Sum := fnSum 2 0 1 [.one (.d (.sl [.int .u8])), .one (.d (.int .i64))] [.one (.slt [.int .u8] 5 1)] (fun (x1, x2) => f_216 N x1 x2)
theorem s_216 (N : Nat) : SumOk Tryz.prog laidL 216 (S_216 N) := fn_x h0 (fk (s_225 N) fz) Tryz.func216 (lookOk_nil)
def f_222 (N : Nat) (x1 : List Int) : Option (TAs [.one (.d (.int .u64))]) :=
 ((f_231 N x1).bind fun r2 => ((f_232 N r2.2.1 r2.2.2).bind fun r3 => (some (IntKind.u64.wrap r3.1))))
def S_222 (N : Nat) : Sum := fnSum 1 0 1 [.one (.d (.sl [.int .u8]))] [.one (.d (.int .u64))] (fun x1 => f_222 N x1)
theorem s_222 (N : Nat) : SumOk Tryz.prog laidL 222 (S_222 N) := fn_x h0 (fk (s_231 N) (fk (s_232 N) fz)) Tryz.func222 (lookOk_nil)
def X_224 (N : Nat) : List (Nat × Sum) := [(233, (S_233 N))]
theorem x_224 (N : Nat) : FnsOk Tryz.prog laidL (X_224 N) := fk (s_233 N) fz
def sh_224_0 : List ShA := [.one (.ptr 0 0), .one (.d (.int .i64)), .one (.d (.int .i64)), zg6]
abbrev T_224_0 := TAs [zg6]
def o_224_0 : OutK 1 T_224_0 := (outOne 1 (.exit 0) [] [0] [zg6])
def b_224_0 (N : Nat) (ih : TAs sh_224_0 → Option T_224_0) : TAs sh_224_0 → Option T_224_0 := fun (_, y6, y7, (y8, y9, y10, y11)) =>
 (bif (decide (y7 < y6)) then ((f_233 N y9 13).bind fun r12 => ((f_233 N (IntKind.u64.wrap (y8 + y9)) 32).bind fun r13 => ((f_233 N y11 16).bind fun r14 => ((f_233 N (ibits .xor .u64 r14 (IntKind.u64.wrap (y10 + y11))) 21).bind fun r15 => ((f_233 N (ibits .xor .u64 r12 (IntKind.u64.wrap (y8 + y9))) 17).bind fun r16 => ((f_233 N (IntKind.u64.wrap ((IntKind.u64.wrap (y10 + y11)) + (ibits .xor .u64 r12 (IntKind.u64.wrap (y8 + y9))))) 32).bind fun r17 => (ih ((), y6, (IntKind.i64.wrap (y7 + 1)), ((IntKind.u64.wrap (r13 + (ibits .xor .u64 r14 (IntKind.u64.wrap (y10 + y11))))), (ibits .xor .u64 r16 (IntKind.u64.wrap ((IntKind.u64.wrap (y10 + y11)) + (ibits .xor .u64 r12 (IntKind.u64.wrap (y8 + y9)))))), r17, (ibits .xor .u64 r15 (IntKind.u64.wrap (r13 + (ibits .xor .u64 r14 (IntKind.u64.wrap (y10 + y11))))))))))))))) else (some ((y8, y9, y10, y11))))
def l_224_0 (N : Nat) : TAs sh_224_0 → Option T_224_0 := iter (b_224_0 N) N
def L_224_0 (N : Nat) : LSum := loopSum [0, 4, 5] [0] sh_224_0 o_224_0 (l_224_0 N)
theorem L_ok_224_0 (N : Nat) : SegOk Tryz.prog laidL 1 Tryz.f224.ntmps (loopAt 0 0 (bodyOf Tryz.f224)) (L_224_0 N) :=
 lp_x h0 (x_224 N) (lookOk_nil)
def f_224 (N : Nat) (x1 x2 x3 x4 x5 : Int) : Option (TAs [zg6]) :=
 ((l_224_0 N ((), x1, 0, (x2, x3, x4, x5))).bind fun q18 => (some (q18.1, q18.2.1, q18.2.2.1, q18.2.2.2)))
def S_224 (N : Nat) : Sum := fnSum 2 1 0 [.one (.ptr 0 0), .one (.d (.int .i64)), zg6] [zg6] (fun (_, x1, (x2, x3, x4, x5)) => f_224 N x1 x2 x3 x4 x5)
theorem s_224 (N : Nat) : SumOk Tryz.prog laidL 224 (S_224 N) := fn_x h0 (x_224 N) Tryz.func224 ((lookOk_cons (L_ok_224_0 N) lookOk_nil))
def f_22 (N : Nat) (x1 : ByteArray) (_x2 : List Int) (x3 x4 x5 x6 x7 x8 : Int) (x9 : Bool) (x10 : ByteArray) (x11 : Int) (x12 : List (Int × Int × ByteArray)) (x13 : Bool) (x14 x15 : Int) (x16 : Bool) (x17 x18 : Int) : Option (TAs [.one (.d (.err 129))]) :=
 (bif ((ByteArray.toList x1) == (ByteArray.toList (⟨#[]⟩ : ByteArray))) then (some (some 1)) else (bif (decide ((ByteArray.size x1 : Int) > 12)) then (some (some 1)) else ((trimF x1 (⟨#[97, 98, 99, 100, 101, 102, 103, 104, 105, 106, 107, 108, 109, 110, 111, 112, 113, 114, 115, 116, 117, 118, 119, 120, 121, 122, 48, 49, 50, 51, 52, 53, 54, 55, 56, 57]⟩)).bind fun r19 => (bif (!((ByteArray.toList r19) == (ByteArray.toList (⟨#[]⟩ : ByteArray)))) then (some (some 1)) else ((f_49 N x3 x4 x5 x6 x7 x8 x9 x10 x11 x12).bind fun r20 => (bif (!(Option.isNone r20)) then (some (some 1)) else ((f_71 N x13 x14 x15).bind fun r21 => (bif (!(Option.isNone r21)) then (some (some 1)) else ((f_72 N x16 x17 x6).bind fun r22 => (bif (!r22) then (some (some 1)) else (bif (decide (x18 < 0)) then (some (some 1)) else (bif (decide (x18 > 1099511627776)) then (some (some 1)) else (some none)))))))))))))
def S_22 (N : Nat) : Sum := fnSum 1 0 1 [zg1] [.one (.d (.err 129))] (fun (x1, x2, x3, x4, x5, x6, x7, x8, x9, x10, x11, x12, x13, x14, x15, x16, x17, x18) => f_22 N x1 x2 x3 x4 x5 x6 x7 x8 x9 x10 x11 x12 x13 x14 x15 x16 x17 x18)
theorem s_22 (N : Nat) : SumOk Tryz.prog laidL 22 (S_22 N) := fn_x h0 (fk trimS_ok (fk (s_49 N) (fk (s_71 N) (fk (s_72 N) fz)))) Tryz.func22 (lookOk_nil)
def f_40 (N : Nat) (x1 : ByteArray) (x2 : List Int) (x3 x4 x5 x6 x7 x8 : Int) (x9 : Bool) (x10 : ByteArray) (x11 : Int) (x12 : List (Int × Int × ByteArray)) : Option (TAs [zg0, .one (.d (.err 129))]) :=
 ((f_22 N x1 x2 x3 x4 x5 x6 x7 x8 x9 x10 x11 x12 false 0 0 false 0 0).bind fun r13 => (bif (!(Option.isNone r13)) then (some ((ByteArray.empty, [0, 0, 0, 0, 0, 0, 0, 0, 0, 0, 0, 0, 0, 0, 0, 0], 0, 0, 0, 0, 0, 0, false, ByteArray.empty, 0, ([] : List (Int × Int × ByteArray)), false, 0, 0, false, 0, 0), r13)) else ((f_75 N x1 x2 x3 x4 x5 x6 x7 x8 x9 x10 x11 x12 false 0 0 false 0 0).bind fun r14 => (some ((r14.1, r14.2.1, r14.2.2.1, r14.2.2.2.1, r14.2.2.2.2.1, r14.2.2.2.2.2.1, r14.2.2.2.2.2.2.1, r14.2.2.2.2.2.2.2.1, r14.2.2.2.2.2.2.2.2.1, r14.2.2.2.2.2.2.2.2.2.1, r14.2.2.2.2.2.2.2.2.2.2.1, r14.2.2.2.2.2.2.2.2.2.2.2.1, r14.2.2.2.2.2.2.2.2.2.2.2.2.1, r14.2.2.2.2.2.2.2.2.2.2.2.2.2.1, r14.2.2.2.2.2.2.2.2.2.2.2.2.2.2.1, r14.2.2.2.2.2.2.2.2.2.2.2.2.2.2.2.1, r14.2.2.2.2.2.2.2.2.2.2.2.2.2.2.2.2.1, r14.2.2.2.2.2.2.2.2.2.2.2.2.2.2.2.2.2), none)))))
def S_40 (N : Nat) : Sum := fnSum 3 0 2 [.one (.d (.str)), .agg [.d (.arr .u8 16)], zg3] [zg0, .one (.d (.err 129))] (fun (x1, x2, (x3, x4, x5, x6, x7, x8, x9, x10, x11, x12)) => f_40 N x1 x2 x3 x4 x5 x6 x7 x8 x9 x10 x11 x12)
theorem s_40 (N : Nat) : SumOk Tryz.prog laidL 40 (S_40 N) := fn_x h0 (fk (s_22 N) (fk (s_75 N) fz)) Tryz.func40 (lookOk_nil)
def f_78 (N : Nat) (x1 : Bool) (x2 x3 x4 : Int) : Option (TAs [.one (.d (.int .i64)), .one (.d (.err 129))]) :=
 ((f_146 N x1 x2 x3 x4).bind fun r5 => (bif (!(Option.isNone r5)) then (some (0, r5)) else (bif x1 then ((f_52 N x2 x3).bind fun r6 => ((f_141 N r6).bind fun r7 => (bif (!r7) then (some (0, (some 2))) else (some (r6, none))))) else ((f_52 N x4 x3).bind fun r8 => ((f_141 N r8).bind fun r9 => (bif (!r9) then (some (0, (some 2))) else (some (r8, none))))))))
def S_78 (N : Nat) : Sum := fnSum 2 0 2 [zg10, .one (.d (.int .i64))] [.one (.d (.int .i64)), .one (.d (.err 129))] (fun ((x1, x2, x3), x4) => f_78 N x1 x2 x3 x4)
theorem s_78 (N : Nat) : SumOk Tryz.prog laidL 78 (S_78 N) := fn_x h0 (fk (s_146 N) (fk (s_52 N) (fk (s_141 N) fz))) Tryz.func78 (lookOk_nil)
def f_189 (N : Nat) (x1 x2 : Int) (x3 : List Int) (x4 : Int) : Option (TAs [.one (.d (.int .i64)), .one (.d (.err 129))]) :=
 ((f_203 N x1 x2 x3 x4).bind fun r5 => (bif (!(Option.isNone r5)) then (some (0, r5)) else ((f_204 N x1 x2 x3 x4).bind fun r6 => (some (r6, none)))))
def S_189 (N : Nat) : Sum := fnSum 2 0 2 [zg8, .one (.d (.int .i64))] [.one (.d (.int .i64)), .one (.d (.err 129))] (fun ((x1, x2, x3), x4) => f_189 N x1 x2 x3 x4)
theorem s_189 (N : Nat) : SumOk Tryz.prog laidL 189 (S_189 N) := fn_x h0 (fk (s_203 N) (fk (s_204 N) fz)) Tryz.func189 (lookOk_nil)
def X_207c208 (N : Nat) : List (Nat × Sum) := [(208, (S_208 N))]
theorem x_207c208 (N : Nat) : FnsOk Tryz.prog laidL (X_207c208 N) := fk (s_208 N) fz
def sh_207c208_0 : List ShA := [.one (.d (.sl [.int .i64, .int .i64, .str])), .one (.d (.int .i64)), .one (.fnv 208), .one (.d (.int .i64)), .one (.d (.int .i64)), .one (.d (.int .i64))]
abbrev T_207c208_0 := TAs [.one (.d (.sl [.int .i64, .int .i64, .str])), .one (.d (.int .i64)), .one (.fnv 208), .one (.d (.int .i64)), .one (.d (.int .i64))]
def o_207c208_0 : OutK 0 T_207c208_0 := (outOne 0 (.exit 0) [0, 1, 2, 8, 9] [] [.one (.d (.sl [.int .i64, .int .i64, .str])), .one (.d (.int .i64)), .one (.fnv 208), .one (.d (.int .i64)), .one (.d (.int .i64))])
def b_207c208_0 (N : Nat) (ih : TAs sh_207c208_0 → Option T_207c208_0) : TAs sh_207c208_0 → Option T_207c208_0 := fun (y3, y4, _, y5, y6, y7) =>
 (bif (decide (y6 < y7)) then (bif (decide (0 ≤ (IntKind.i64.wrap ((IntKind.u64.wrap (IntKind.i64.wrap (y6 + y7))) / 2 ^ (min (Int.toNat 1) IntKind.u64.bits))) ∧ (IntKind.i64.wrap ((IntKind.u64.wrap (IntKind.i64.wrap (y6 + y7))) / 2 ^ (min (Int.toNat 1) IntKind.u64.bits))) < (List.length y3 : Int))) then ((f_208 N ((List.getD y3 (Int.toNat (IntKind.i64.wrap ((IntKind.u64.wrap (IntKind.i64.wrap (y6 + y7))) / 2 ^ (min (Int.toNat 1) IntKind.u64.bits)))) (0, 0, ByteArray.empty)).1) ((List.getD y3 (Int.toNat (IntKind.i64.wrap ((IntKind.u64.wrap (IntKind.i64.wrap (y6 + y7))) / 2 ^ (min (Int.toNat 1) IntKind.u64.bits)))) (0, 0, ByteArray.empty)).2.1) ((List.getD y3 (Int.toNat (IntKind.i64.wrap ((IntKind.u64.wrap (IntKind.i64.wrap (y6 + y7))) / 2 ^ (min (Int.toNat 1) IntKind.u64.bits)))) (0, 0, ByteArray.empty)).2.2) y4).bind fun r8 => (bif (decide (r8 < 0)) then (ih (y3, y4, (), y5, (IntKind.i64.wrap ((IntKind.i64.wrap ((IntKind.u64.wrap (IntKind.i64.wrap (y6 + y7))) / 2 ^ (min (Int.toNat 1) IntKind.u64.bits))) + 1)), y7)) else (ih (y3, y4, (), y5, y6, (IntKind.i64.wrap ((IntKind.u64.wrap (IntKind.i64.wrap (y6 + y7))) / 2 ^ (min (Int.toNat 1) IntKind.u64.bits))))))) else none) else (some ((y3, y4, (), y5, y6))))
def l_207c208_0 (N : Nat) : TAs sh_207c208_0 → Option T_207c208_0 := iter (b_207c208_0 N) N
def L_207c208_0 (N : Nat) : LSum := loopSum [0, 1, 2, 8, 9, 10] [] sh_207c208_0 o_207c208_0 (l_207c208_0 N)
theorem L_ok_207c208_0 (N : Nat) : SegOk Tryz.prog laidL 0 Tryz.f207.ntmps (loopAt 0 0 (bodyOf Tryz.f207)) (L_207c208_0 N) :=
 lp_x h0 (x_207c208 N) (lookOk_nil)
def f_207c208 (N : Nat) (x1 : List (Int × Int × ByteArray)) (x2 : Int) : Option (TAs [.one (.d (.int .i64)), .one (.d (.bool))]) :=
 ((l_207c208_0 N (x1, x2, (), (List.length x1 : Int), 0, (List.length x1 : Int))).bind fun q9 => (bif (decide (q9.2.2.2.2 < q9.2.2.2.1)) then (bif (decide (0 ≤ q9.2.2.2.2 ∧ q9.2.2.2.2 < (List.length q9.1 : Int))) then ((f_208 N ((List.getD q9.1 (Int.toNat q9.2.2.2.2) (0, 0, ByteArray.empty)).1) ((List.getD q9.1 (Int.toNat q9.2.2.2.2) (0, 0, ByteArray.empty)).2.1) ((List.getD q9.1 (Int.toNat q9.2.2.2.2) (0, 0, ByteArray.empty)).2.2) q9.2.1).bind fun r10 => (some (q9.2.2.2.2, (r10 == 0)))) else none) else (some (q9.2.2.2.2, false))))
def S_207c208 (N : Nat) : Sum := fnSum 3 0 2 [.one (.d (.sl [.int .i64, .int .i64, .str])), .one (.d (.int .i64)), .one (.fnv 208)] [.one (.d (.int .i64)), .one (.d (.bool))] (fun (x1, x2, _) => f_207c208 N x1 x2)
theorem s_207c208 (N : Nat) : SumOk Tryz.prog laidL 207 (S_207c208 N) := fn_x h0 (x_207c208 N) Tryz.func207 ((lookOk_cons (L_ok_207c208_0 N) lookOk_nil))
def f_196 (N : Nat) (_x1 : ByteArray) (_x2 : Int) (x3 : List (Int × Int × ByteArray)) (x4 : Int) : Option (TAs [.one (.d (.int .i64))]) :=
 ((f_207c208 N x3 x4).bind fun r5 => (bif r5.2 then (some (IntKind.i64.wrap (r5.1 + 1))) else (some r5.1)))
def S_196 (N : Nat) : Sum := fnSum 2 0 1 [zg5, .one (.d (.int .i64))] [.one (.d (.int .i64))] (fun ((x1, x2, x3), x4) => f_196 N x1 x2 x3 x4)
theorem s_196 (N : Nat) : SumOk Tryz.prog laidL 196 (S_196 N) := fn_x h0 (fk (s_207c208 N) fz) Tryz.func196 (lookOk_nil)
def f_202 (N : Nat) (x1 x2 : Int) (x3 : List Int) (x4 : Int) : Option (TAs [.one (.d (.int .i64))]) :=
 ((f_204 N x1 x2 x3 x4).bind fun r5 => (some (IntKind.i64.wrap ((IntKind.i64.wrap (x4 * 86400)) + r5))))
def S_202 (N : Nat) : Sum := fnSum 2 0 1 [zg8, .one (.d (.int .i64))] [.one (.d (.int .i64))] (fun ((x1, x2, x3), x4) => f_202 N x1 x2 x3 x4)
theorem s_202 (N : Nat) : SumOk Tryz.prog laidL 202 (S_202 N) := fn_x h0 (fk (s_204 N) fz) Tryz.func202 (lookOk_nil)
def f_223 (N : Nat) (x1 x2 x3 x4 x5 : Int) : Option (TAs [zg6]) :=
 ((f_224 N 2 x2 x3 x4 (ibits .xor .u64 x5 x1)).bind fun r6 => (some ((ibits .xor .u64 r6.1 x1), r6.2.1, r6.2.2.1, r6.2.2.2)))
def S_223 (N : Nat) : Sum := fnSum 2 1 0 [.one (.ptr 0 0), .one (.d (.int .u64)), zg6] [zg6] (fun (_, x1, (x2, x3, x4, x5)) => f_223 N x1 x2 x3 x4 x5)
theorem s_223 (N : Nat) : SumOk Tryz.prog laidL 223 (S_223 N) := fn_x h0 (fk (s_224 N) fz) Tryz.func223 (lookOk_nil)
def f_162 (N : Nat) (x1 : ByteArray) (x2 : Int) (x3 : List (Int × Int × ByteArray)) (x4 : Int) : Option (TAs [.one (.d (.int .i64)), .one (.d (.str)), .one (.d (.err 129))]) :=
 ((f_109 N x1 x2 x3).bind fun r5 => (bif (!(Option.isNone r5)) then (some (0, ⟨#[]⟩, r5)) else ((f_196 N x1 x2 x3 x4).bind fun r6 => (bif (r6 == 0) then (some (x2, x1, none)) else (bif (decide (0 ≤ (IntKind.i64.wrap (r6 - 1)) ∧ (IntKind.i64.wrap (r6 - 1)) < (List.length x3 : Int))) then (bif (decide (0 ≤ (IntKind.i64.wrap (r6 - 1)) ∧ (IntKind.i64.wrap (r6 - 1)) < (List.length x3 : Int))) then (some ((List.getD x3 (Int.toNat (IntKind.i64.wrap (r6 - 1))) (0, 0, ByteArray.empty)).2.1, (List.getD x3 (Int.toNat (IntKind.i64.wrap (r6 - 1))) (0, 0, ByteArray.empty)).2.2, none)) else none) else none)))))
def S_162 (N : Nat) : Sum := fnSum 2 0 3 [zg5, .one (.d (.int .i64))] [.one (.d (.int .i64)), .one (.d (.str)), .one (.d (.err 129))] (fun ((x1, x2, x3), x4) => f_162 N x1 x2 x3 x4)
theorem s_162 (N : Nat) : SumOk Tryz.prog laidL 162 (S_162 N) := fn_x h0 (fk (s_109 N) (fk (s_196 N) fz)) Tryz.func162 (lookOk_nil)
def X_188 (N : Nat) : List (Nat × Sum) := [(187, (S_187 N)), (94, (S_94 N)), (202, (S_202 N))]
theorem x_188 (N : Nat) : FnsOk Tryz.prog laidL (X_188 N) := fk (s_187 N) (fk (s_94 N) (fk (s_202 N) fz))
def sh_188_0 : List ShA := [.one (.ptr 160 0), .one (.ptr 192 0), .one (.d (.int .i64)), .one (.d (.int .i64)), .one (.d (.int .i64)), zg8, zg9]
abbrev T_188_0 := TAs [.one (.ptr 160 0), .one (.ptr 192 0), .one (.d (.int .i64)), .one (.d (.int .i64)), .one (.d (.int .i64)), zg8, zg9]
def o_188_0 : OutK 0 T_188_0 := (outOne 0 (.exit 0) [2, 4, 7, 8, 10] [160, 192] [.one (.ptr 160 0), .one (.ptr 192 0), .one (.d (.int .i64)), .one (.d (.int .i64)), .one (.d (.int .i64)), zg8, zg9])
def b_188_0 (N : Nat) (ih : TAs sh_188_0 → Option T_188_0) : TAs sh_188_0 → Option T_188_0 := fun (_, _, y10, y11, y12, (y13, y14, y15), (y16, y17, y18)) =>
 ((f_202 N y13 y14 y15 y12).bind fun r19 => (bif (decide (y10 < r19)) then (ih ((), (), y10, y11, (IntKind.i64.wrap (y12 - 1)), (y13, y14, y15), (y16, y17, y18))) else (some (((), (), y10, y11, y12, (y13, y14, y15), (y16, y17, y18))))))
def l_188_0 (N : Nat) : TAs sh_188_0 → Option T_188_0 := iter (b_188_0 N) N
def L_188_0 (N : Nat) : LSum := loopSum [2, 4, 7, 8, 10] [160, 192] sh_188_0 o_188_0 (l_188_0 N)
theorem L_ok_188_0 (N : Nat) : SegOk Tryz.prog laidL 0 Tryz.f188.ntmps (loopAt 0 0 (bodyOf Tryz.f188)) (L_188_0 N) :=
 lp_x h0 (x_188 N) (lookOk_nil)
def f_188 (N : Nat) (x1 x2 : Int) (x3 : List Int) (x4 : Int) : Option (TAs [zg9, .one (.d (.err 129))]) :=
 ((f_187 N x1 x2 x3).bind fun r5 => (bif (!(Option.isNone r5)) then (some ((0, 0, 0), r5)) else ((f_94 N x4 1000000000).bind fun r6 => (bif (!(Option.isNone r6.2.2)) then (some ((0, 0, 0), (some 2))) else (bif (decide (x4 ≤ (-4611686018427387904))) then (some ((0, 0, 0), (some 2))) else (bif (decide (x4 ≥ 4611686018427387904)) then (some ((0, 0, 0), (some 2))) else ((f_202 N x1 x2 x3 (-50000)).bind fun r7 => (bif (decide (r6.1 < r7)) then (some ((0, 0, 0), (some 2))) else ((f_202 N x1 x2 x3 x2).bind fun r8 => (bif (decide (r6.1 ≥ r8)) then (some ((0, 0, 0), (some 10))) else ((f_94 N r6.1 86400).bind fun r9 => (bif (!(Option.isNone r9.2.2)) then (some ((0, 0, 0), r9.2.2)) else ((l_188_0 N ((), (), r6.1, r6.2.1, r9.1, (x1, x2, x3), (0, 0, 0))).bind fun q20 => ((f_202 N q20.2.2.2.2.2.1.1 q20.2.2.2.2.2.1.2.1 q20.2.2.2.2.2.1.2.2 q20.2.2.2.2.1).bind fun r21 => (some ((q20.2.2.2.2.1, (IntKind.i64.wrap (q20.2.2.1 - r21)), q20.2.2.2.1), none))))))))))))))))
def S_188 (N : Nat) : Sum := fnSum 2 0 2 [zg8, .one (.d (.int .i64))] [zg9, .one (.d (.err 129))] (fun ((x1, x2, x3), x4) => f_188 N x1 x2 x3 x4)
theorem s_188 (N : Nat) : SumOk Tryz.prog laidL 188 (S_188 N) := fn_x h0 (x_188 N) Tryz.func188 ((lookOk_cons (L_ok_188_0 N) lookOk_nil))
def X_215 (N : Nat) : List (Nat × Sum) := [(222, (S_222 N)), (223, (S_223 N)), (224, (S_224 N))]
theorem x_215 (N : Nat) : FnsOk Tryz.prog laidL (X_215 N) := fk (s_222 N) (fk (s_223 N) (fk (s_224 N) fz))
def sh_215_0 : List ShA := [.one (.d (.sl [.int .u8])), .one (.ptr 496 0), .one (.d (.int .i64)), zg6]
abbrev T_215_0 := TAs [.one (.d (.sl [.int .u8])), .one (.ptr 496 0), .one (.d (.int .i64)), zg6]
def o_215_0 : OutK 0 T_215_0 := (outOne 0 (.exit 0) [1, 7, 8] [496] [.one (.d (.sl [.int .u8])), .one (.ptr 496 0), .one (.d (.int .i64)), zg6])
def b_215_0 (N : Nat) (ih : TAs sh_215_0 → Option T_215_0) : TAs sh_215_0 → Option T_215_0 := fun (y5, _, y6, (y7, y8, y9, y10)) =>
 (bif (decide ((List.length y5 : Int) ≥ 8)) then (bif (decide (0 ≤ (8 : Int) ∧ (8 : Int) ≤ (List.length y5 : Int))) then (bif (decide (0 ≤ (0 : Int) ∧ (0 : Int) ≤ (8 : Int))) then ((f_222 N (List.drop (Int.toNat (0 : Int)) (List.take (Int.toNat (8 : Int)) y5))).bind fun r11 => ((f_223 N r11 y7 y8 y9 y10).bind fun r12 => (bif (decide (0 ≤ (List.length y5 : Int) ∧ (List.length y5 : Int) ≤ (List.length y5 : Int))) then (bif (decide (0 ≤ (8 : Int) ∧ (8 : Int) ≤ (List.length y5 : Int))) then (ih ((List.drop (Int.toNat (8 : Int)) (List.take (Int.toNat (List.length y5 : Int)) y5)), (), y6, (r12.1, r12.2.1, r12.2.2.1, r12.2.2.2))) else none) else none))) else none) else none) else (some ((y5, (), y6, (y7, y8, y9, y10)))))
def l_215_0 (N : Nat) : TAs sh_215_0 → Option T_215_0 := iter (b_215_0 N) N
def L_215_0 (N : Nat) : LSum := loopSum [1, 7, 8] [496] sh_215_0 o_215_0 (l_215_0 N)
theorem L_ok_215_0 (N : Nat) : SegOk Tryz.prog laidL 0 Tryz.f215.ntmps (loopAt 0 0 (bodyOf Tryz.f215)) (L_215_0 N) :=
 lp_x h0 (x_215 N) (lookOk_nil)
def f_215 (N : Nat) (x1 x2 : List Int) : Option (TAs [.one (.d (.int .u64))]) :=
 ((f_222 N (List.drop 0 (List.take 8 x1))).bind fun r3 => ((f_222 N (List.drop 8 (List.take 16 x1))).bind fun r4 => ((l_215_0 N (x2, (), (List.length x2 : Int), ((ibits .xor .u64 r3 8317987319222330741), (ibits .xor .u64 r4 7237128888997146477), (ibits .xor .u64 r3 7816392313619706465), (ibits .xor .u64 r4 8387220255154660723)))).bind fun q13 => (bif (decide (List.length q13.1 ≤ 8)) then ((f_222 N (List.drop 0 (List.take 8 (List.set (List.take 0 [0, 0, 0, 0, 0, 0, 0, 0] ++ (q13.1 ++ List.drop (0 + List.length q13.1) [0, 0, 0, 0, 0, 0, 0, 0])) (Int.toNat 7) (IntKind.u8.wrap q13.2.2.1))))).bind fun r14 => ((f_223 N r14 q13.2.2.2.1 q13.2.2.2.2.1 q13.2.2.2.2.2.1 q13.2.2.2.2.2.2).bind fun r15 => ((f_224 N 4 r15.1 r15.2.1 (ibits .xor .u64 r15.2.2.1 255) r15.2.2.2).bind fun r16 => (some (ibits .xor .u64 (ibits .xor .u64 (ibits .xor .u64 r16.1 r16.2.1) r16.2.2.1) r16.2.2.2))))) else none))))
def S_215 (N : Nat) : Sum := fnSum 2 0 1 [.agg [.d (.arr .u8 16)], .one (.d (.sl [.int .u8]))] [.one (.d (.int .u64))] (fun (x1, x2) => f_215 N x1 x2)
theorem s_215 (N : Nat) : SumOk Tryz.prog laidL 215 (S_215 N) := fn_x h0 (x_215 N) Tryz.func215 ((lookOk_cons (L_ok_215_0 N) lookOk_nil))
def f_95 (N : Nat) (x1 : ByteArray) (x2 : Int) (x3 : List (Int × Int × ByteArray)) (x4 : Int) : Option (TAs [zg13, .one (.d (.err 129))]) :=
 ((f_162 N x1 x2 x3 x4).bind fun r5 => (bif (!(Option.isNone r5.2.2)) then (some ((0, 0), (some 1))) else (bif (decide (x4 < (-4398046511104))) then (some ((0, 0), (some 1))) else (bif (decide (x4 > 4398046511104)) then (some ((0, 0), (some 1))) else ((f_94 N (IntKind.i64.wrap (x4 + r5.1)) 86400).bind fun r6 => (bif (!(Option.isNone r6.2.2)) then (some ((0, 0), r6.2.2)) else (some ((r6.1, r6.2.1), none))))))))
def S_95 (N : Nat) : Sum := fnSum 2 0 2 [zg5, .one (.d (.int .i64))] [zg13, .one (.d (.err 129))] (fun ((x1, x2, x3), x4) => f_95 N x1 x2 x3 x4)
theorem s_95 (N : Nat) : SumOk Tryz.prog laidL 95 (S_95 N) := fn_x h0 (fk (s_162 N) (fk (s_94 N) fz)) Tryz.func95 (lookOk_nil)
def f_148 (N : Nat) (x1 x2 : Int) (x3 : List Int) (x4 : Int) : Option (TAs [.one (.d (.int .i64)), .one (.d (.err 129))]) :=
 ((f_188 N x1 x2 x3 x4).bind fun r5 => (bif (!(Option.isNone r5.2)) then (some (0, r5.2)) else ((f_189 N x1 x2 x3 r5.1.1).bind fun r6 => (bif (!(Option.isNone r6.2)) then (some (0, r6.2)) else (some ((IntKind.i64.wrap (x4 - (IntKind.i64.wrap (r6.1 * 1000000000)))), none))))))
def S_148 (N : Nat) : Sum := fnSum 2 0 2 [zg8, .one (.d (.int .i64))] [.one (.d (.int .i64)), .one (.d (.err 129))] (fun ((x1, x2, x3), x4) => f_148 N x1 x2 x3 x4)
theorem s_148 (N : Nat) : SumOk Tryz.prog laidL 148 (S_148 N) := fn_x h0 (fk (s_188 N) (fk (s_189 N) fz)) Tryz.func148 (lookOk_nil)
def f_201 (N : Nat) (x1 : List Int) (x2 x3 : Int) : Option (TAs [.one (.d (.int .u64))]) :=
 ((f_216 N ([] : List Int) x2).bind fun r4 => ((f_215 N x1 r4).bind fun r5 => (bif ((IntKind.u64.wrap (x3 + 1)) == 0) then (some r5) else (bif (decide ((IntKind.u64.wrap (x3 + 1)) = 0)) then none else (some (Int.tmod r5 (IntKind.u64.wrap (x3 + 1))))))))
def S_201 (N : Nat) : Sum := fnSum 3 0 1 [.agg [.d (.arr .u8 16)], .one (.d (.int .i64)), .one (.d (.int .u64))] [.one (.d (.int .u64))] (fun (x1, x2, x3) => f_201 N x1 x2 x3)
theorem s_201 (N : Nat) : SumOk Tryz.prog laidL 201 (S_201 N) := fn_x h0 (fk (s_216 N) (fk (s_215 N) fz)) Tryz.func201 (lookOk_nil)
def f_38 (N : Nat) (x1 : ByteArray) (x2 : List Int) (x3 x4 x5 x6 x7 x8 : Int) (x9 : Bool) (x10 : ByteArray) (x11 : Int) (x12 : List (Int × Int × ByteArray)) (x13 : Bool) (x14 x15 : Int) (x16 : Bool) (x17 x18 x19 _x20 _x21 _x22 : Int) : Option (TAs [zg13, .one (.d (.err 129))]) :=
 ((f_22 N x1 x2 x3 x4 x5 x6 x7 x8 x9 x10 x11 x12 x13 x14 x15 x16 x17 x18).bind fun r23 => (bif (!(Option.isNone r23)) then (some ((0, 0), r23)) else ((f_94 N x19 1000000000).bind fun r24 => (bif (!(Option.isNone r24.2.2)) then (some ((0, 0), r24.2.2)) else ((f_95 N x10 x11 x12 r24.1).bind fun r25 => (some ((r25.1.1, r25.1.2), r25.2)))))))
def S_38 (N : Nat) : Sum := fnSum 2 0 2 [zg1, zg7] [zg13, .one (.d (.err 129))] (fun ((x1, x2, x3, x4, x5, x6, x7, x8, x9, x10, x11, x12, x13, x14, x15, x16, x17, x18), (x19, x20, x21, x22)) => f_38 N x1 x2 x3 x4 x5 x6 x7 x8 x9 x10 x11 x12 x13 x14 x15 x16 x17 x18 x19 x20 x21 x22)
theorem s_38 (N : Nat) : SumOk Tryz.prog laidL 38 (S_38 N) := fn_x h0 (fk (s_22 N) (fk (s_94 N) (fk (s_95 N) fz))) Tryz.func38 (lookOk_nil)
def X_79 (N : Nat) : List (Nat × Sum) := [(147, (S_147 N)), (148, (S_148 N)), (149, (S_149 N)), (150, (S_150 N))]
theorem x_79 (N : Nat) : FnsOk Tryz.prog laidL (X_79 N) := fk (s_147 N) (fk (s_148 N) (fk (s_149 N) (fk (s_150 N) fz)))
def sh_79_0 : List ShA := [.one (.d (.int .i64)), .one (.ptr 176 0), .one (.ptr 192 0), .one (.d (.int .i64)), .one (.d (.int .i64)), .one (.d (.int .i64)), zg9, zg8]
abbrev T_79_0 := ((TAs [.one (.d (.int .i64)), .one (.d (.err 129))]) ⊕ (TAs [.one (.d (.int .i64))]))
def o_79_0 : OutK 0 T_79_0 := (outTwo (outOne 0 .ret [6, 7] [] [.one (.d (.int .i64)), .one (.d (.err 129))]) (outOne 0 (.exit 0) [9] [] [.one (.d (.int .i64))]))
def b_79_0 (N : Nat) (ih : TAs sh_79_0 → Option T_79_0) : TAs sh_79_0 → Option T_79_0 := fun (y10, _, _, y11, y12, y13, (y14, y15, y16), (y17, y18, y19)) =>
 (bif (decide (y13 < y12)) then ((f_149 N y14 y15 y16 y17 y18 y19 y13).bind fun r20 => (bif (decide (y10 < (IntKind.i64.wrap (r20.1 * 1000000000)))) then (ih (y10, (), (), y11, y12, (IntKind.i64.wrap (y13 + 1)), (y14, y15, y16), (y17, y18, y19))) else (bif (decide (y10 ≥ (IntKind.i64.wrap (r20.2 * 1000000000)))) then (ih (y10, (), (), y11, y12, (IntKind.i64.wrap (y13 + 1)), (y14, y15, y16), (y17, y18, y19))) else ((f_150 N y14 y15 y16 (IntKind.i64.wrap (y10 - (IntKind.i64.wrap (r20.1 * 1000000000))))).bind fun r21 => (bif (!(Option.isNone r21.2)) then (some (.inl (0, r21.2))) else (some (.inl ((IntKind.i64.wrap ((IntKind.i64.wrap (y10 - (IntKind.i64.wrap ((IntKind.i64.wrap (y17 + y13)) * 1000000000)))) - r21.1)), none)))))))) else (some (.inr y11)))
def l_79_0 (N : Nat) : TAs sh_79_0 → Option T_79_0 := iter (b_79_0 N) N
def L_79_0 (N : Nat) : LSum := loopSum [2, 3, 4, 9, 39, 40] [176, 192] sh_79_0 o_79_0 (l_79_0 N)
theorem L_ok_79_0 (N : Nat) : SegOk Tryz.prog laidL 0 Tryz.f79.ntmps (loopAt 0 0 (bodyOf Tryz.f79)) (L_79_0 N) :=
 lp_x h0 (x_79 N) (lookOk_nil)
def f_79 (N : Nat) (x1 x2 x3 x4 x5 : Int) (x6 : List Int) (x7 : Int) : Option (TAs [.one (.d (.int .i64)), .one (.d (.err 129))]) :=
 ((f_147 N x1 x2 x3 x4 x5 x6).bind fun r8 => (bif (!(Option.isNone r8)) then (some (0, r8)) else ((f_148 N x4 x5 x6 x7).bind fun r9 => (bif (!(Option.isNone r9.2)) then (some (r9.1, r9.2)) else (bif (x1 == 0) then (some (r9.1, r9.2)) else ((l_79_0 N (x7, (), (), r9.1, (List.length x6 : Int), 0, (x1, x2, x3), (x4, x5, x6))).bind fun q => (match q with | .inl q22 => (some (q22.1, q22.2)) | .inr q23 => (some (q23, none)))))))))
def S_79 (N : Nat) : Sum := fnSum 3 0 2 [zg9, zg8, .one (.d (.int .i64))] [.one (.d (.int .i64)), .one (.d (.err 129))] (fun ((x1, x2, x3), (x4, x5, x6), x7) => f_79 N x1 x2 x3 x4 x5 x6 x7)
theorem s_79 (N : Nat) : SumOk Tryz.prog laidL 79 (S_79 N) := fn_x h0 (x_79 N) Tryz.func79 ((lookOk_cons (L_ok_79_0 N) lookOk_nil))
def f_184 (N : Nat) (x1 x2 : Int) (x3 : List Int) (x4 : Int) : Option (TAs [.one (.d (.int .i64)), .one (.d (.err 129))]) :=
 ((f_108 N x1 x2).bind fun r5 => (bif (!(Option.isNone r5)) then (some (0, r5)) else ((f_94 N x4 x2).bind fun r6 => (bif (!(Option.isNone r6.2.2)) then (some (0, r6.2.2)) else ((f_201 N x3 r6.1 (IntKind.u64.wrap x1)).bind fun r7 => (some ((IntKind.i64.wrap r7), none)))))))
def S_184 (N : Nat) : Sum := fnSum 3 0 2 [zg13, .agg [.d (.arr .u8 16)], .one (.d (.int .i64))] [.one (.d (.int .i64)), .one (.d (.err 129))] (fun ((x1, x2), x3, x4) => f_184 N x1 x2 x3 x4)
theorem s_184 (N : Nat) : SumOk Tryz.prog laidL 184 (S_184 N) := fn_x h0 (fk (s_108 N) (fk (s_94 N) (fk (s_201 N) fz))) Tryz.func184 (lookOk_nil)
def f_25 (N : Nat) (x1 : ByteArray) (x2 : List Int) (x3 x4 x5 x6 x7 x8 : Int) (x9 : Bool) (x10 : ByteArray) (x11 : Int) (x12 : List (Int × Int × ByteArray)) (x13 : Bool) (x14 x15 : Int) (x16 : Bool) (x17 x18 x19 x20 : Int) (x21 : List Int) (x22 : Int) : Option (TAs [.one (.d (.int .i64)), .one (.d (.err 129))]) :=
 ((f_22 N x1 x2 x3 x4 x5 x6 x7 x8 x9 x10 x11 x12 x13 x14 x15 x16 x17 x18).bind fun r23 => (bif (!(Option.isNone r23)) then (some (0, r23)) else ((f_78 N x13 x14 x15 x22).bind fun r24 => (bif (!(Option.isNone r24.2)) then (some (0, r24.2)) else ((f_79 N x3 x4 x5 x19 x20 x21 r24.1).bind fun r25 => (some (r25.1, r25.2)))))))
def S_25 (N : Nat) : Sum := fnSum 3 0 2 [zg1, zg8, .one (.d (.int .i64))] [.one (.d (.int .i64)), .one (.d (.err 129))] (fun ((x1, x2, x3, x4, x5, x6, x7, x8, x9, x10, x11, x12, x13, x14, x15, x16, x17, x18), (x19, x20, x21), x22) => f_25 N x1 x2 x3 x4 x5 x6 x7 x8 x9 x10 x11 x12 x13 x14 x15 x16 x17 x18 x19 x20 x21 x22)
theorem s_25 (N : Nat) : SumOk Tryz.prog laidL 25 (S_25 N) := fn_x h0 (fk (s_22 N) (fk (s_78 N) (fk (s_79 N) fz))) Tryz.func25 (lookOk_nil)
def f_143 (N : Nat) (x1 x2 : Int) (x3 : List Int) (x4 : Int) : Option (TAs [.one (.d (.int .i64)), .one (.d (.err 129))]) :=
 ((f_184 N x1 x2 x3 x4).bind fun r5 => (bif (!(Option.isNone r5.2)) then (some (0, r5.2)) else ((f_114 N x4 r5.1).bind fun r6 => (some (r6.1, r6.2)))))
def S_143 (N : Nat) : Sum := fnSum 3 0 2 [zg13, .agg [.d (.arr .u8 16)], .one (.d (.int .i64))] [.one (.d (.int .i64)), .one (.d (.err 129))] (fun ((x1, x2), x3, x4) => f_143 N x1 x2 x3 x4)
theorem s_143 (N : Nat) : SumOk Tryz.prog laidL 143 (S_143 N) := fn_x h0 (fk (s_184 N) (fk (s_114 N) fz)) Tryz.func143 (lookOk_nil)
def f_74 (N : Nat) (_x1 : ByteArray) (x2 : List Int) (_x3 _x4 _x5 x6 x7 x8 : Int) (_x9 : Bool) (_x10 : ByteArray) (_x11 : Int) (_x12 : List (Int × Int × ByteArray)) (_x13 : Bool) (_x14 _x15 : Int) (_x16 : Bool) (_x17 _x18 x19 : Int) : Option (TAs [.one (.d (.int .i64)), .one (.d (.err 129))]) :=
 ((f_143 N x7 x8 x2 x19).bind fun r20 => (bif (!(Option.isNone r20.2)) then (some (0, r20.2)) else ((f_144 N r20.1 x6).bind fun r21 => (some (r21.1, r21.2)))))
def S_74 (N : Nat) : Sum := fnSum 2 0 2 [zg1, .one (.d (.int .i64))] [.one (.d (.int .i64)), .one (.d (.err 129))] (fun ((x1, x2, x3, x4, x5, x6, x7, x8, x9, x10, x11, x12, x13, x14, x15, x16, x17, x18), x19) => f_74 N x1 x2 x3 x4 x5 x6 x7 x8 x9 x10 x11 x12 x13 x14 x15 x16 x17 x18 x19)
theorem s_74 (N : Nat) : SumOk Tryz.prog laidL 74 (S_74 N) := fn_x h0 (fk (s_143 N) (fk (s_144 N) fz)) Tryz.func74 (lookOk_nil)
def f_24 (N : Nat) (x1 : ByteArray) (x2 : List Int) (x3 x4 x5 x6 x7 x8 : Int) (x9 : Bool) (x10 : ByteArray) (x11 : Int) (x12 : List (Int × Int × ByteArray)) (x13 : Bool) (x14 x15 : Int) (x16 : Bool) (x17 x18 x19 x20 : Int) (x21 : List Int) (x22 x23 : Int) : Option (TAs [zg7, zg0, .one (.d (.err 129))]) :=
 ((f_22 N x1 x2 x3 x4 x5 x6 x7 x8 x9 x10 x11 x12 x13 x14 x15 x16 x17 x18).bind fun r24 => (bif (!(Option.isNone r24)) then (some ((0, 0, 0, 0), (ByteArray.empty, [0, 0, 0, 0, 0, 0, 0, 0, 0, 0, 0, 0, 0, 0, 0, 0], 0, 0, 0, 0, 0, 0, false, ByteArray.empty, 0, ([] : List (Int × Int × ByteArray)), false, 0, 0, false, 0, 0), (some 1))) else (bif (decide (x23 < 0)) then (some ((0, 0, 0, 0), (ByteArray.empty, [0, 0, 0, 0, 0, 0, 0, 0, 0, 0, 0, 0, 0, 0, 0, 0], 0, 0, 0, 0, 0, 0, false, ByteArray.empty, 0, ([] : List (Int × Int × ByteArray)), false, 0, 0, false, 0, 0), (some 1))) else (bif x13 then (some ((0, 0, 0, 0), (ByteArray.empty, [0, 0, 0, 0, 0, 0, 0, 0, 0, 0, 0, 0, 0, 0, 0, 0], 0, 0, 0, 0, 0, 0, false, ByteArray.empty, 0, ([] : List (Int × Int × ByteArray)), false, 0, 0, false, 0, 0), (some 16))) else ((f_25 N x1 x2 x3 x4 x5 x6 x7 x8 x9 x10 x11 x12 x13 x14 x15 x16 x17 x18 x19 x20 x21 x22).bind fun r25 => (bif (!(Option.isNone r25.2)) then (some ((0, 0, 0, 0), (ByteArray.empty, [0, 0, 0, 0, 0, 0, 0, 0, 0, 0, 0, 0, 0, 0, 0, 0], 0, 0, 0, 0, 0, 0, false, ByteArray.empty, 0, ([] : List (Int × Int × ByteArray)), false, 0, 0, false, 0, 0), r25.2)) else ((f_74 N x1 x2 x3 x4 x5 x6 x7 x8 x9 x10 x11 x12 x13 x14 x15 x16 x17 x18 r25.1).bind fun r26 => (bif (!(Option.isNone r26.2)) then (some ((0, 0, 0, 0), (ByteArray.empty, [0, 0, 0, 0, 0, 0, 0, 0, 0, 0, 0, 0, 0, 0, 0, 0], 0, 0, 0, 0, 0, 0, false, ByteArray.empty, 0, ([] : List (Int × Int × ByteArray)), false, 0, 0, false, 0, 0), r26.2)) else ((f_75 N x1 x2 x3 x4 x5 x6 x7 x8 x9 x10 x11 x12 x13 x14 x15 x16 x17 x18).bind fun r27 => (bif (x3 != 0) then ((f_76 N x16 x17 r26.1).bind fun r28 => ((f_77 N x1 x2 x3 x4 x5 x6 x7 x8 x9 x10 x11 x12 x13 x14 x15 x16 x17 x18 x23 r28.2.1).bind fun r29 => (some ((r28.1, r29, r28.2.1, x23), (r27.1, r27.2.1, r27.2.2.1, r27.2.2.2.1, r27.2.2.2.2.1, r27.2.2.2.2.2.1, r27.2.2.2.2.2.2.1, r27.2.2.2.2.2.2.2.1, r27.2.2.2.2.2.2.2.2.1, r27.2.2.2.2.2.2.2.2.2.1, r27.2.2.2.2.2.2.2.2.2.2.1, r27.2.2.2.2.2.2.2.2.2.2.2.1, r27.2.2.2.2.2.2.2.2.2.2.2.2.1, r27.2.2.2.2.2.2.2.2.2.2.2.2.2.1, r27.2.2.2.2.2.2.2.2.2.2.2.2.2.2.1, r28.2.2.1, r28.2.2.2, r27.2.2.2.2.2.2.2.2.2.2.2.2.2.2.2.2.2), none)))) else ((f_77 N x1 x2 x3 x4 x5 x6 x7 x8 x9 x10 x11 x12 x13 x14 x15 x16 x17 x18 x23 0).bind fun r30 => (some ((r26.1, r30, 0, x23), (r27.1, r27.2.1, r27.2.2.1, r27.2.2.2.1, r27.2.2.2.2.1, r27.2.2.2.2.2.1, r27.2.2.2.2.2.2.1, r27.2.2.2.2.2.2.2.1, r27.2.2.2.2.2.2.2.2.1, r27.2.2.2.2.2.2.2.2.2.1, r27.2.2.2.2.2.2.2.2.2.2.1, r27.2.2.2.2.2.2.2.2.2.2.2.1, r27.2.2.2.2.2.2.2.2.2.2.2.2.1, r27.2.2.2.2.2.2.2.2.2.2.2.2.2.1, r27.2.2.2.2.2.2.2.2.2.2.2.2.2.2.1, r27.2.2.2.2.2.2.2.2.2.2.2.2.2.2.2.1, r27.2.2.2.2.2.2.2.2.2.2.2.2.2.2.2.2.1, r27.2.2.2.2.2.2.2.2.2.2.2.2.2.2.2.2.2), none)))))))))))))
def S_24 (N : Nat) : Sum := fnSum 4 0 3 [zg1, zg8, .one (.d (.int .i64)), .one (.d (.int .i64))] [zg7, zg0, .one (.d (.err 129))] (fun ((x1, x2, x3, x4, x5, x6, x7, x8, x9, x10, x11, x12, x13, x14, x15, x16, x17, x18), (x19, x20, x21), x22, x23) => f_24 N x1 x2 x3 x4 x5 x6 x7 x8 x9 x10 x11 x12 x13 x14 x15 x16 x17 x18 x19 x20 x21 x22 x23)
theorem s_24 (N : Nat) : SumOk Tryz.prog laidL 24 (S_24 N) := fn_x h0 (fk (s_22 N) (fk (s_25 N) (fk (s_74 N) (fk (s_75 N) (fk (s_76 N) (fk (s_77 N) fz)))))) Tryz.func24 (lookOk_nil)
def f_23 (N : Nat) : Option (TAs [.one (.d (.bool))]) :=
 ((f_47 N).bind fun r1 => ((f_40 N (⟨#[97]⟩) [0, 0, 0, 0, 0, 0, 0, 0, 0, 0, 0, 0, 0, 0, 0, 0] r1.1 r1.2.1 r1.2.2.1 r1.2.2.2.1 r1.2.2.2.2.1 r1.2.2.2.2.2.1 r1.2.2.2.2.2.2.1 r1.2.2.2.2.2.2.2.1 r1.2.2.2.2.2.2.2.2.1 r1.2.2.2.2.2.2.2.2.2).bind fun r2 => ((f_73 N).bind fun r3 => ((f_24 N r2.1.1 r2.1.2.1 r2.1.2.2.1 r2.1.2.2.2.1 r2.1.2.2.2.2.1 r2.1.2.2.2.2.2.1 r2.1.2.2.2.2.2.2.1 r2.1.2.2.2.2.2.2.2.1 r2.1.2.2.2.2.2.2.2.2.1 r2.1.2.2.2.2.2.2.2.2.2.1 r2.1.2.2.2.2.2.2.2.2.2.2.1 r2.1.2.2.2.2.2.2.2.2.2.2.2.1 r2.1.2.2.2.2.2.2.2.2.2.2.2.2.1 r2.1.2.2.2.2.2.2.2.2.2.2.2.2.2.1 r2.1.2.2.2.2.2.2.2.2.2.2.2.2.2.2.1 r2.1.2.2.2.2.2.2.2.2.2.2.2.2.2.2.2.1 r2.1.2.2.2.2.2.2.2.2.2.2.2.2.2.2.2.2.1 r2.1.2.2.2.2.2.2.2.2.2.2.2.2.2.2.2.2.2 r3.1 r3.2.1 r3.2.2 50000000000 7).bind fun r4 => ((f_73 N).bind fun r5 => ((f_24 N ByteArray.empty [0, 0, 0, 0, 0, 0, 0, 0, 0, 0, 0, 0, 0, 0, 0, 0] 0 0 0 0 0 0 false ByteArray.empty 0 ([] : List (Int × Int × ByteArray)) false 0 0 false 0 0 r5.1 r5.2.1 r5.2.2 0 0).bind fun r6 => ((f_38 N r2.1.1 r2.1.2.1 r2.1.2.2.1 r2.1.2.2.2.1 r2.1.2.2.2.2.1 r2.1.2.2.2.2.2.1 r2.1.2.2.2.2.2.2.1 r2.1.2.2.2.2.2.2.2.1 r2.1.2.2.2.2.2.2.2.2.1 r2.1.2.2.2.2.2.2.2.2.2.1 r2.1.2.2.2.2.2.2.2.2.2.2.1 r2.1.2.2.2.2.2.2.2.2.2.2.2.1 r2.1.2.2.2.2.2.2.2.2.2.2.2.2.1 r2.1.2.2.2.2.2.2.2.2.2.2.2.2.2.1 r2.1.2.2.2.2.2.2.2.2.2.2.2.2.2.2.1 r2.1.2.2.2.2.2.2.2.2.2.2.2.2.2.2.2.1 r2.1.2.2.2.2.2.2.2.2.2.2.2.2.2.2.2.2.1 r2.1.2.2.2.2.2.2.2.2.2.2.2.2.2.2.2.2.2 r4.1.1 r4.1.2.1 r4.1.2.2.1 r4.1.2.2.2).bind fun r7 => ((f_73 N).bind fun r8 => ((f_25 N r2.1.1 r2.1.2.1 r2.1.2.2.1 r2.1.2.2.2.1 r2.1.2.2.2.2.1 r2.1.2.2.2.2.2.1 r2.1.2.2.2.2.2.2.1 r2.1.2.2.2.2.2.2.2.1 r2.1.2.2.2.2.2.2.2.2.1 r2.1.2.2.2.2.2.2.2.2.2.1 r2.1.2.2.2.2.2.2.2.2.2.2.1 r2.1.2.2.2.2.2.2.2.2.2.2.2.1 r2.1.2.2.2.2.2.2.2.2.2.2.2.2.1 r2.1.2.2.2.2.2.2.2.2.2.2.2.2.2.1 r2.1.2.2.2.2.2.2.2.2.2.2.2.2.2.2.1 r2.1.2.2.2.2.2.2.2.2.2.2.2.2.2.2.2.1 r2.1.2.2.2.2.2.2.2.2.2.2.2.2.2.2.2.2.1 r2.1.2.2.2.2.2.2.2.2.2.2.2.2.2.2.2.2.2 r8.1 r8.2.1 r8.2.2 50000000000).bind fun r9 => (bif (Option.isNone r2.2) then (bif (Option.isNone r4.2.2) then (bif (Option.isNone r7.2) then (bif (Option.isNone r9.2) then (bif ((r4.1.1 == 40000000000) && ((r4.1.2.1 == 1000000007) && ((r4.1.2.2.1 == 0) && (r4.1.2.2.2 == 7)))) then (bif ((ByteArray.toList r4.2.1.1) == (ByteArray.toList (⟨#[97]⟩ : ByteArray))) then ((f_33 N r6.2.2).bind fun r10 => (bif (r10 == 1) then (bif ((r7.1.1 == 0) && (r7.1.2 == 40)) then (some (r9.1 == 40000000000)) else (some false)) else (some false))) else (some false)) else (some false)) else (some false)) else (some false)) else (some false)) else (some false)))))))))))
def S_23 (N : Nat) : Sum := fnSum 0 0 1 [] [.one (.d (.bool))] (fun _ => f_23 N)
theorem s_23 (N : Nat) : SumOk Tryz.prog laidL 23 (S_23 N) := fn_x h0 (fk (s_47 N) (fk (s_40 N) (fk (s_73 N) (fk (s_24 N) (fk (s_38 N) (fk (s_25 N) (fk (s_33 N) fz))))))) Tryz.func23 (lookOk_nil)
def f_4 (N : Nat) (x1 : ByteArray) (x2 : List Int) (x3 x4 x5 x6 x7 x8 : Int) (x9 : Bool) (x10 : ByteArray) (x11 : Int) (x12 : List (Int × Int × ByteArray)) (x13 : Bool) (x14 x15 : Int) (x16 : Bool) (x17 x18 x19 x20 : Int) (x21 x22 : List Int) : Option (TAs [.one (.d (.bool))]) :=
 ((f_20 N x1 x2 x3 x4 x5 x6 x7 x8 x9 x10 x11 x12 x13 x14 x15 x16 x17 x18).bind fun r23 => ((f_21 N x1 x2 x3 x4 x5 x6 x7 x8 x9 x10 x11 x12 x13 x14 x15 x16 x17 x18).bind fun r24 => (bif r24 then ((f_23 N).bind fun r25 => (some r25)) else (bif (decide ((List.length x21 : Int) > 40)) then ((f_23 N).bind fun r26 => (some r26)) else ((f_22 N r23.1 r23.2.1 r23.2.2.1 r23.2.2.2.1 r23.2.2.2.2.1 r23.2.2.2.2.2.1 r23.2.2.2.2.2.2.1 r23.2.2.2.2.2.2.2.1 r23.2.2.2.2.2.2.2.2.1 r23.2.2.2.2.2.2.2.2.2.1 r23.2.2.2.2.2.2.2.2.2.2.1 r23.2.2.2.2.2.2.2.2.2.2.2.1 r23.2.2.2.2.2.2.2.2.2.2.2.2.1 r23.2.2.2.2.2.2.2.2.2.2.2.2.2.1 r23.2.2.2.2.2.2.2.2.2.2.2.2.2.2.1 r23.2.2.2.2.2.2.2.2.2.2.2.2.2.2.2.1 r23.2.2.2.2.2.2.2.2.2.2.2.2.2.2.2.2.1 r23.2.2.2.2.2.2.2.2.2.2.2.2.2.2.2.2.2).bind fun r27 => (bif (!(Option.isNone r27)) then ((f_23 N).bind fun r28 => (some r28)) else (bif (x3 == 0) then ((f_23 N).bind fun r29 => (some r29)) else (bif (decide ((List.getD x22 (Int.toNat 1) 0) < 0)) then ((f_23 N).bind fun r30 => (some r30)) else (bif (decide ((List.getD x22 (Int.toNat 1) 0) > 1152921504606846976)) then ((f_23 N).bind fun r31 => (some r31)) else (bif (decide ((List.getD x22 (Int.toNat 2) 0) < (IntKind.i64.wrap (0 - (List.getD x22 (Int.toNat 1) 0))))) then ((f_23 N).bind fun r32 => (some r32)) else (bif (decide ((List.getD x22 (Int.toNat 2) 0) > (List.getD x22 (Int.toNat 1) 0))) then ((f_23 N).bind fun r33 => (some r33)) else (bif (decide ((List.getD x22 (Int.toNat 0) 0) < (-2305843009213693952))) then ((f_23 N).bind fun r34 => (some r34)) else (bif (decide ((List.getD x22 (Int.toNat 0) 0) > 2305843009213693952)) then ((f_23 N).bind fun r35 => (some r35)) else ((f_24 N r23.1 r23.2.1 r23.2.2.1 r23.2.2.2.1 r23.2.2.2.2.1 r23.2.2.2.2.2.1 r23.2.2.2.2.2.2.1 r23.2.2.2.2.2.2.2.1 r23.2.2.2.2.2.2.2.2.1 r23.2.2.2.2.2.2.2.2.2.1 r23.2.2.2.2.2.2.2.2.2.2.1 r23.2.2.2.2.2.2.2.2.2.2.2.1 r23.2.2.2.2.2.2.2.2.2.2.2.2.1 r23.2.2.2.2.2.2.2.2.2.2.2.2.2.1 r23.2.2.2.2.2.2.2.2.2.2.2.2.2.2.1 r23.2.2.2.2.2.2.2.2.2.2.2.2.2.2.2.1 r23.2.2.2.2.2.2.2.2.2.2.2.2.2.2.2.2.1 r23.2.2.2.2.2.2.2.2.2.2.2.2.2.2.2.2.2 x19 x20 x21 (List.getD x22 (Int.toNat 0) 0) (List.getD x22 (Int.toNat 1) 0)).bind fun r36 => ((f_25 N r23.1 r23.2.1 r23.2.2.1 r23.2.2.2.1 r23.2.2.2.2.1 r23.2.2.2.2.2.1 r23.2.2.2.2.2.2.1 r23.2.2.2.2.2.2.2.1 r23.2.2.2.2.2.2.2.2.1 r23.2.2.2.2.2.2.2.2.2.1 r23.2.2.2.2.2.2.2.2.2.2.1 r23.2.2.2.2.2.2.2.2.2.2.2.1 r23.2.2.2.2.2.2.2.2.2.2.2.2.1 r23.2.2.2.2.2.2.2.2.2.2.2.2.2.1 r23.2.2.2.2.2.2.2.2.2.2.2.2.2.2.1 r23.2.2.2.2.2.2.2.2.2.2.2.2.2.2.2.1 r23.2.2.2.2.2.2.2.2.2.2.2.2.2.2.2.2.1 r23.2.2.2.2.2.2.2.2.2.2.2.2.2.2.2.2.2 x19 x20 x21 (IntKind.i64.wrap ((List.getD x22 (Int.toNat 0) 0) + (List.getD x22 (Int.toNat 2) 0)))).bind fun r37 => (bif (!(Option.isNone r36.2.2)) then (bif (Option.isNone r36.2.2) then ((f_23 N).bind fun r38 => (some r38)) else (bif ((r36.1.1 == 0) && ((r36.1.2.1 == 0) && ((r36.1.2.2.1 == 0) && (r36.1.2.2.2 == 0)))) then ((f_23 N).bind fun r39 => (some r39)) else (some false))) else (bif (!(Option.isNone r37.2)) then (bif (Option.isNone r36.2.2) then ((f_23 N).bind fun r40 => (some r40)) else (bif ((r36.1.1 == 0) && ((r36.1.2.1 == 0) && ((r36.1.2.2.1 == 0) && (r36.1.2.2.2 == 0)))) then ((f_23 N).bind fun r41 => (some r41)) else (some false))) else (bif (decide ((IntKind.i64.wrap (r36.1.1 - r37.1)) ≤ r36.1.2.1)) then (bif (decide ((IntKind.i64.wrap (0 - (IntKind.i64.wrap (r36.1.1 - r37.1)))) ≤ r36.1.2.1)) then ((f_23 N).bind fun r42 => (some r42)) else (some false)) else (some false)))))))))))))))))))
def S_4 (N : Nat) : Sum := fnSum 3 0 1 [zg1, zg8, .agg [.d (.arr .i64 3)]] [.one (.d (.bool))] (fun ((x1, x2, x3, x4, x5, x6, x7, x8, x9, x10, x11, x12, x13, x14, x15, x16, x17, x18), (x19, x20, x21), x22) => f_4 N x1 x2 x3 x4 x5 x6 x7 x8 x9 x10 x11 x12 x13 x14 x15 x16 x17 x18 x19 x20 x21 x22)
theorem s_4 (N : Nat) : SumOk Tryz.prog laidL 4 (S_4 N) := fn_x h0 (fk (s_20 N) (fk (s_21 N) (fk (s_23 N) (fk (s_22 N) (fk (s_24 N) (fk (s_25 N) fz)))))) Tryz.func4 (lookOk_nil)
end
end Go.Proofs.YthpljlpokmoeeaaGreatDoor.Mir
namespace Go.Proofs.YthpljlpokmoeeaaGreatDoor.Mir
open Go Go.RowKit
set_option maxRecDepth 100000
def fineI (c : Int) : Bool := (decide (c ≥ 97) && decide (c ≤ 122)) || ((decide (c ≥ 65) && decide (c ≤ 90)) || ((decide (c ≥ 48) && decide (c ≤ 57)) || ((c == 47) || ((c == 95) || ((c == 43) || (c == 45))))))
def fineL : List UInt8 := [65, 66, 67, 68, 69, 70, 71, 72, 73, 74, 75, 76, 77, 78, 79, 80, 81, 82, 83, 84, 85, 86, 87, 88, 89, 90, 97, 98, 99, 100, 101, 102, 103, 104, 105, 106, 107, 108, 109, 110, 111, 112, 113, 114, 115, 116, 117, 118, 119, 120, 121, 122, 48, 49, 50, 51, 52, 53, 54, 55, 56, 57, 47, 95, 43, 45]
theorem fine_nat : ∀ n : Fin 256, fineL.contains (UInt8.ofNat n.val) = fineI (n.val : Int) := by decide +kernel
theorem fine_byte (b : UInt8) : fineL.contains b = fineI (b.toNat : Int) := by
 have := fine_nat ⟨b.toNat, b.toNat_lt⟩
 simpa using this
def allFine (l : List UInt8) : Bool := l.all fun b => fineI (b.toNat : Int)
def nameB (s : ByteArray) : Bool := decide (1 ≤ s.size) && (decide (s.size ≤ 12) && allFine s.data.toList)
theorem size_list (s : ByteArray) : s.size = s.data.toList.length := by rw [Array.length_toList]; rfl
theorem beq_nil (l : List UInt8) : (l == []) = l.isEmpty := by cases l <;> rfl
theorem drop_all : ∀ l : List UInt8, ((l.dropWhile (fineL.contains ·)) == []) = allFine l
 | [] => rfl
 | b :: l => by
  have h := drop_all l
  simp only [List.dropWhile, allFine, List.all_cons] at h ⊢
  rw [fine_byte b]
  cases fineI (b.toNat : Int) with
  | true => simpa using h
  | false => simp
theorem named_at (N : Nat) (s : ByteArray) : f_167 N s = some (nameB s) := by
 have ht : trimF s (⟨#[65, 66, 67, 68, 69, 70, 71, 72, 73, 74, 75, 76, 77, 78, 79, 80, 81, 82, 83, 84, 85, 86, 87, 88, 89, 90, 97, 98, 99, 100, 101, 102, 103, 104, 105, 106, 107, 108, 109, 110, 111, 112, 113, 114, 115, 116, 117, 118, 119, 120, 121, 122, 48, 49, 50, 51, 52, 53, 54, 55, 56, 57, 47, 95, 43, 45]⟩) = some ⟨(Lib.trimLeftS s.data.toList fineL).toArray⟩ := rfl
 unfold f_167 nameB
 rw [ht]
 simp only [Lib.toList_data, Option.bind_some]
 show (bif !(s.data.toList == []) then (bif decide ((s.size : Int) ≤ 12) then some ((Lib.trimLeftS s.data.toList fineL) == []) else some false) else some false) = _
 rw [show (Lib.trimLeftS s.data.toList fineL == []) = allFine s.data.toList from drop_all _, beq_nil, size_list]
 generalize s.data.toList = l
 cases l with
 | nil => rfl
 | cons b l =>
  by_cases h : (b :: l).length ≤ 12
  ·rw [decide_eq_true (show (((b :: l).length : Nat) : Int) ≤ 12 by omega), decide_eq_true h, decide_eq_true (show 1 ≤ (b :: l).length by simp)]; rfl
  ·rw [decide_eq_false (show ¬ (((b :: l).length : Nat) : Int) ≤ 12 by omega), decide_eq_false h, decide_eq_true (show 1 ≤ (b :: l).length by simp)]; rfl
def offB (n : Int) : Bool := decide (-86399 ≤ n) && decide (n ≤ 86399)
theorem added_at (N : Nat) (n : Int) : f_168 N n = some (offB n) := by
 unfold f_168 offB
 show (bif decide (-86399 ≤ n) then _ else _) = _
 cases decide (-86399 ≤ n) <;> rfl
abbrev Rul := Int × Int × ByteArray
def gR (L : List Rul) (i : Nat) : Rul := L.getD i (0, 0, ByteArray.empty)
def okAt (L : List Rul) (i : Nat) : Bool := nameB (gR L i).2.2 && (offB (gR L i).2.1 && (!decide ((gR L i).1 < -1099511627776) && (!decide ((gR L i).1 > 1099511627776) && !(decide ((i : Int) > 0) && decide ((gR L (i - 1)).1 ≥ (gR L i).1)))))
def allFrom (L : List Rul) : Nat → Nat → Bool
 | _, 0 => true
 | i, k + 1 => okAt L i && allFrom L (i + 1) k
def mayZ (n : ByteArray) (f : Int) (L : List Rul) : Bool := nameB n && (offB f && (decide ((L.length : Int) ≤ 32) && allFrom L 0 L.length))
theorem check_loop (N : Nat) {n : ByteArray} {f : Int} {L : List Rul} (hL : L.length ≤ 1000000) : ∀ (k M i : Nat), i + k = L.length → k < M → iter (b_109_0 N) M ((), L, (L.length : Int), (i : Int), (n, f, L)) = bif allFrom L i k then some (.inr ()) else some (.inl (some 1)) := by
 intro k
 induction k with
 | zero =>
  intro M i hi hM
  obtain ⟨M, rfl⟩ : ∃ m, M = m + 1 := ⟨M - 1, by omega⟩
  show b_109_0 N (iter (b_109_0 N) M) _ = _
  unfold b_109_0
  simp only
  rw [decide_eq_false (show ¬ (i : Int) < (L.length : Int) by omega)]; rfl
 | succ k ih =>
  intro M i hi hM
  obtain ⟨M, rfl⟩ : ∃ m, M = m + 1 := ⟨M - 1, by omega⟩
  have ih' := ih M (i + 1) (by omega) (by omega)
  show b_109_0 N (iter (b_109_0 N) M) _ = _
  generalize iter (b_109_0 N) M = I at ih' ⊢
  unfold b_109_0
  simp only
  rw [decide_eq_true (show (i : Int) < (L.length : Int) by omega), decide_eq_true (show 0 ≤ (i : Int) ∧ (i : Int) < (L.length : Int) by omega), named_at, added_at, wi64 (n := (i : Int) + 1) (by omega) (by omega), show (i : Int) + 1 = ((i + 1 : Nat) : Int) by omega, ih']
  simp only [cond_true, Option.bind_some, Int.toNat_natCast]
  show _ = bif (okAt L i && allFrom L (i + 1) k) then _ else _
  unfold okAt
  show (bif !nameB (gR L i).2.2 then _ else (bif !offB (gR L i).2.1 then _ else (bif decide ((gR L i).1 < -1099511627776) then _ else (bif decide ((gR L i).1 > 1099511627776) then _ else _)))) = _
  generalize nameB (gR L i).2.2 = t1
  generalize offB (gR L i).2.1 = t2
  generalize decide ((gR L i).1 < -1099511627776) = t3
  generalize decide ((gR L i).1 > 1099511627776) = t4
  by_cases h0 : (i : Int) > 0
  ·rw [decide_eq_true h0, wi64 (n := (i : Int) - 1) (by omega) (by omega), decide_eq_true (show 0 ≤ (i : Int) - 1 ∧ (i : Int) - 1 < (L.length : Int) by omega), show ((i : Int) - 1).toNat = i - 1 by omega]
   show (bif !t1 then _ else (bif !t2 then _ else (bif t3 then _ else (bif t4 then _ else (bif decide ((gR L (i - 1)).1 ≥ (gR L i).1) then _ else _))))) = _
   generalize decide ((gR L (i - 1)).1 ≥ (gR L i).1) = t5
   cases t1 <;> cases t2 <;> cases t3 <;> cases t4 <;> cases t5 <;> rfl
  ·rw [decide_eq_false h0]
   cases t1 <;> cases t2 <;> cases t3 <;> cases t4 <;> rfl
theorem check_at {N : Nat} {n : ByteArray} {f : Int} {L : List Rul} (hL : L.length ≤ 1000000) (hN : L.length < N) : f_109 N n f L = some (bif mayZ n f L then none else some 1) := by
 have h := check_loop N (n := n) (f := f) hL L.length N 0 (by omega) hN
 have h' : l_109_0 N ((), L, (L.length : Int), 0, (n, f, L)) = bif allFrom L 0 L.length then some (.inr ()) else some (.inl (some 1)) := h
 unfold f_109 mayZ
 rw [named_at, added_at, h', show decide ((L.length : Int) > 32) = !decide ((L.length : Int) ≤ 32) by
  by_cases h : (L.length : Int) ≤ 32
  ·rw [decide_eq_true h, decide_eq_false (by omega)]; rfl
  ·rw [decide_eq_false h, decide_eq_true (by omega)]; rfl]
 cases nameB n <;> cases offB f <;> cases decide ((L.length : Int) ≤ 32) <;> cases allFrom L 0 L.length <;> rfl
end Go.Proofs.YthpljlpokmoeeaaGreatDoor.Mir
namespace Go.Proofs.YthpljlpokmoeeaaGreatDoor.Mir
open Go Go.RowKit
set_option maxRecDepth 100000
def tk (n : Nat) (s : List Int × Bool) : Int × (List Int × Bool) := if s.2 = true ∨ s.1.length < n then (0, ([], true)) else (ofLe (s.1.take n), (s.1.drop n, false))
theorem tk_lt {n : Nat} {s : List Int × Bool} (h : By s.1) : 0 ≤ (tk n s).1 ∧ (tk n s).1 < 256 ^ n := by
 unfold tk; split
 ·exact ⟨Int.le_refl _, Int.pow_pos (by decide)⟩
 ·rename_i hn
  have := ofLe_lt (h.take n)
  rw [List.length_take, Nat.min_eq_left (by omega)] at this
  exact this
theorem p256 : ∀ m : Fin 9, (256 : Int) ^ m.val ≤ 18446744073709551616 := by decide +kernel
theorem numV_at {zs : List Int} (h : By zs) (hl : zs.length ≤ 8) : numV zs = ofLe zs := by
 have key : ∀ k, k ≤ zs.length → (upTo (backAt zs zs.length) k).foldl numStep 0 = ofLe (zs.drop (zs.length - k)) := by
  intro k
  induction k with
  | zero => intro _; simp [upTo, ofLe]
  | succ k ih =>
   intro hk
   rw [upTo_succ, List.foldl_append, ih (by omega)]
   have hi : zs.length - (k + 1) < zs.length := by omega
   have e : zs.drop (zs.length - (k + 1)) = zs[zs.length - (k + 1)] :: zs.drop (zs.length - k) := by
    rw [List.drop_eq_getElem_cons hi, show zs.length - (k + 1) + 1 = zs.length - k by omega]
   have hb := ofLe_lt (h.drop (zs.length - (k + 1)))
   rw [e] at hb ⊢
   rw [List.length_cons, List.length_drop, show zs.length - (zs.length - k) + 1 = k + 1 by omega] at hb
   have hp : (256 : Int) ^ (k + 1) ≤ 18446744073709551616 := by
    exact p256 ⟨k + 1, by omega⟩
   have hc := h zs[zs.length - (k + 1)] (List.getElem_mem hi)
   have hv := (ofLe_lt (h.drop (zs.length - k))).1
   simp only [ofLe] at hb ⊢
   show bits .or .u64 (IntKind.u64.wrap (ofLe (zs.drop (zs.length - k)) * 256)) (IntKind.u64.wrap (zs[zs.length - 1 - k]?.getD 0)) = _
   have eg : zs[zs.length - 1 - k]?.getD 0 = zs[zs.length - (k + 1)] := by
    rw [show zs.length - 1 - k = zs.length - (k + 1) by omega, List.getElem?_eq_getElem hi]; rfl
   rw [eg, wu64 (by omega) (by omega), wu64 (by omega) (by omega), or256 _ _ hv hc.1 hc.2 (by omega)]
   omega
 have := key zs.length (Nat.le_refl _)
 rw [Nat.sub_self, List.drop_zero] at this
 exact this
theorem rdF_at {xs : List Int} {bd : Bool} {n : Nat} (h : By xs) (h1 : 1 ≤ n) (h8 : n ≤ 8) : rdF n xs bd = some ((tk n (xs, bd)).1, (tk n (xs, bd)).2.1, (tk n (xs, bd)).2.2) := by
 unfold rdF tk
 rw [decide_eq_true (by omega)]
 simp only [cond_true, Int.toNat_natCast]
 by_cases hb : bd = true ∨ xs.length < n
 ·rw [if_pos hb]
  have : (bd || decide ((xs.length : Int) < (n : Int))) = true := by
   rcases hb with rfl | hb
   ·rfl
   ·rw [decide_eq_true (by omega)]; simp
  rw [this]; rfl
 ·rw [if_neg hb]
  have : (bd || decide ((xs.length : Int) < (n : Int))) = false := by
   have h2 := not_or.1 hb
   rw [decide_eq_false (by omega)]
   simpa using h2.1
  rw [this, cond_false, numV_at (h.take n) (by rw [List.length_take]; omega)]
theorem i64_at (N : Nat) {xs : List Int} {bd : Bool} (h : By xs) : f_232 N xs bd = some (IntKind.i64.wrap (tk 8 (xs, bd)).1, (tk 8 (xs, bd)).2) := by
 unfold f_232
 rw [show (8 : Int) = ((8 : Nat) : Int) from rfl, rdF_at h (by decide) (by decide)]
 rfl
theorem num_loop (N : Nat) {v : Int} {n : Nat} (_ : 0 ≤ v) (h8 : n ≤ 8) : ∀ (k M i : Nat) (b : List Int), i + k = n → k < M → b.length + k ≤ 1000008 →
  iter (b_225_0 N) M (v, b, (n : Int), (i : Int)) = some (b ++ le k (v / 256 ^ i)) := by
 intro k
 induction k with
 | zero =>
  intro M i b hi hM _
  obtain ⟨M, rfl⟩ : ∃ m, M = m + 1 := ⟨M - 1, by omega⟩
  show (bif decide ((i : Int) < (n : Int)) then _ else some b) = _
  rw [decide_eq_false (by omega)]
  simp [le]
 | succ k ih =>
  intro M i b hi hM hb
  obtain ⟨M, rfl⟩ : ∃ m, M = m + 1 := ⟨M - 1, by omega⟩
  have ei : v / 2 ^ (min (Int.toNat (IntKind.i64.wrap (8 * (i : Int)))) IntKind.u64.bits) = v / 256 ^ i := by
   rw [wi64 (by omega) (by omega), show (8 * (i : Int)).toNat = 8 * i by omega, show IntKind.u64.bits = 64 from rfl, Nat.min_eq_left (by omega), Int.pow_mul]
   rfl
  show (bif decide ((i : Int) < (n : Int)) then (bif decide (IntKind.i64.wrap (8 * (i : Int)) < 0) then none else (bif decide ((b.length + ([(IntKind.u8.wrap (v / 2 ^ (min (Int.toNat (IntKind.i64.wrap (8 * (i : Int)))) IntKind.u64.bits)))] : List Int).length) * 1 ≤ 140737488355328) then iter (b_225_0 N) M (v, b ++ [(IntKind.u8.wrap (v / 2 ^ (min (Int.toNat (IntKind.i64.wrap (8 * (i : Int)))) IntKind.u64.bits)))], (n : Int), IntKind.i64.wrap ((i : Int) + 1)) else none)) else some b) = _
  have hlen : ∀ z : Int, (b.length + ([z] : List Int).length) * 1 ≤ 140737488355328 := fun z => by simp only [List.length_singleton]; omega
  have hneg : ¬ IntKind.i64.wrap (8 * (i : Int)) < 0 := by rw [wi64 (by omega) (by omega)]; omega
  rw [ei, decide_eq_true (show (i : Int) < (n : Int) by omega), decide_eq_false hneg, decide_eq_true (hlen _)]
  simp only [cond_true, cond_false]
  rw [wi64 (n := (i : Int) + 1) (by omega) (by omega), IntKind.wrap_u8]
  have := ih M (i + 1) (b ++ [v / 256 ^ i % 256]) (by omega) (by omega) (by rw [List.length_append, List.length_singleton]; omega)
  rw [show ((i + 1 : Nat) : Int) = (i : Int) + 1 by omega] at this
  rw [this, List.append_assoc]
  have e2 : v / 256 ^ (i + 1) = v / 256 ^ i / 256 := by rw [Int.pow_succ, Int.ediv_ediv_of_nonneg (Int.pow_nonneg (by decide))]
  rw [e2]; rfl
theorem clone_at {b : List Int} (hb : b.length ≤ 1000000) : cloneF [.int .u8] 1 b = some b := by
 unfold cloneF
 rw [decide_eq_true (show (0 + List.length (α := Int) b) * 1 ≤ 140737488355328 by omega)]; rfl
theorem num_at {N : Nat} {b : List Int} {v : Int} {n : Nat} (hN : 10 ≤ N) (hb : b.length ≤ 1000000) (h0 : 0 ≤ v) (h8 : n ≤ 8) : f_225 N b v n = some (b ++ le n v) := by
 unfold f_225
 rw [clone_at hb]
 have := num_loop N (v := v) h0 h8 n N 0 b (by omega) (by omega) (by omega)
 simp only [Int.pow_zero, Int.ediv_one] at this
 simp only [Option.bind_some]
 have h' : l_225_0 N (v, b, (n : Int), 0) = some (b ++ le n v) := this
 rw [h']; rfl
theorem pi64_at {N : Nat} {b : List Int} {v : Int} (hN : 10 ≤ N) (hb : b.length ≤ 1000000) : f_216 N b v = some (b ++ le 8 (IntKind.u64.wrap v)) := by
 unfold f_216
 rw [show (8 : Int) = ((8 : Nat) : Int) from rfl, num_at hN hb (wu64_lt v).1 (by decide)]; rfl
end Go.Proofs.YthpljlpokmoeeaaGreatDoor.Mir
namespace Go.Proofs.YthpljlpokmoeeaaGreatDoor.Mir
open Go Go.RowKit
set_option maxRecDepth 100000
def c1 (v : Nat) : Nat := if v % 2 = 1 then (v / 2) ^^^ 3988292384 else v / 2
end Go.Proofs.YthpljlpokmoeeaaGreatDoor.Mir
namespace Go.Proofs.YthpljlpokmoeeaaGreatDoor.Mir
open Go Go.RowKit
set_option maxRecDepth 100000
end Go.Proofs.YthpljlpokmoeeaaGreatDoor.Mir
namespace Go.Proofs.YthpljlpokmoeeaaGreatDoor.Mir
open Go Go.RowKit
set_option maxRecDepth 100000
theorem new_at (N : Nat) {b : List Int} (hb : b.length ≤ 1000000) : f_231 N b = some ((), (b, false)) := by
 unfold f_231
 rw [clone_at hb]; rfl
end Go.Proofs.YthpljlpokmoeeaaGreatDoor.Mir
namespace Go.Proofs.YthpljlpokmoeeaaGreatDoor.Mir
open Go Go.RowKit
set_option maxRecDepth 100000
end Go.Proofs.YthpljlpokmoeeaaGreatDoor.Mir
namespace Go.Proofs.YthpljlpokmoeeaaGreatDoor.Mir
open Go Go.RowKit
set_option maxRecDepth 100000
end Go.Proofs.YthpljlpokmoeeaaGreatDoor.Mir
namespace Go.Proofs.YthpljlpokmoeeaaGreatDoor.Mir
open Go Go.RowKit
set_option maxRecDepth 100000
end Go.Proofs.YthpljlpokmoeeaaGreatDoor.Mir
namespace Go.Proofs.YthpljlpokmoeeaaGreatDoor.Mir
open Go Go.RowKit
set_option maxRecDepth 100000
def smayB (k b a : Int) : Bool := bif decide (b < 0) then false else (bif decide (b > 43200) then false else (bif decide (a < 0) then false else (bif decide (a > 43200) then false else (bif k == 0 then (IntKind.i64.wrap (b + a)) == 0 else (bif k == 1 then decide ((IntKind.i64.wrap (b + a)) > 0) else (bif k == 2 then decide ((IntKind.i64.wrap (b + a)) ≥ 3600) else false))))))
theorem schk_at (N : Nat) (k b a : Int) : f_106 N k b a = some (bif smayB k b a then none else some 1) := by
 unfold f_106 smayB
 generalize decide (b < 0) = d1
 generalize decide (b > 43200) = d2
 generalize decide (a < 0) = d3
 generalize decide (a > 43200) = d4
 generalize (k == 0) = d5
 generalize (k == 1) = d6
 generalize (k == 2) = d7
 generalize (IntKind.i64.wrap (b + a) == 0) = d8
 generalize decide (IntKind.i64.wrap (b + a) > 0) = d9
 generalize decide (IntKind.i64.wrap (b + a) ≥ 3600) = d0
 cases d1 <;> cases d2 <;> cases d3 <;> cases d4 <;> cases d5 <;> cases d6 <;> cases d7 <;> cases d8 <;> cases d9 <;> cases d0 <;> rfl
def qmayB (q : Int) : Bool := !decide (q < 1) && !decide (q > 68719476736)
theorem qchk_at (N : Nat) (q : Int) : f_107 N q = some (bif qmayB q then none else some 1) := by
 unfold f_107 qmayB
 cases decide (q < 1) <;> cases decide (q > 68719476736) <;> rfl
def umayB (w c : Int) : Bool := !decide (w < 0) && (!decide (w > 1099511627776) && (!decide (c < 1) && !decide (c > 1125899906842624)))
theorem uchk_at (N : Nat) (w c : Int) : f_108 N w c = some (bif umayB w c then none else some 1) := by
 unfold f_108 umayB
 cases decide (w < 0) <;> cases decide (w > 1099511627776) <;> cases decide (c < 1) <;> cases decide (c > 1125899906842624) <;> rfl
def mayP (k b a q w c : Int) (n : ByteArray) (f : Int) (L : List Rul) : Bool := smayB k b a && (qmayB q && (umayB w c && mayZ n f L))
theorem pchk_loop (M : Nat) (N : Nat) (e1 e2 e3 e4 : Bool) : iter (b_49_0 N) (M + 5) (((bif e1 then none else some 1), (bif e2 then none else some 1), (bif e3 then none else some 1), (bif e4 then none else some 1)), 0) = bif e1 && (e2 && (e3 && e4)) then some (.inr ()) else some (.inl (some 1)) := by
 rw [show iter (b_49_0 N) (M + 5) = b_49_0 N (b_49_0 N (b_49_0 N (b_49_0 N (b_49_0 N (iter (b_49_0 N) M))))) from rfl]
 generalize iter (b_49_0 N) M = T
 unfold b_49_0
 have w1 : IntKind.i64.wrap ((0 : Int) + 1) = 1 := by rw [wi64 (by omega) (by omega)]; rfl
 have w2 : IntKind.i64.wrap ((1 : Int) + 1) = 2 := by rw [wi64 (by omega) (by omega)]; rfl
 have w3 : IntKind.i64.wrap ((2 : Int) + 1) = 3 := by rw [wi64 (by omega) (by omega)]; rfl
 have w4 : IntKind.i64.wrap ((3 : Int) + 1) = 4 := by rw [wi64 (by omega) (by omega)]; rfl
 simp only [w1, w2, w3, w4]
 cases e1 <;> cases e2 <;> cases e3 <;> cases e4 <;> rfl
theorem pchk_at {N : Nat} (hN : 3000 ≤ N) (k b a q w c : Int) (j : Bool) {n : ByteArray} {f : Int} {L : List Rul} (hL : L.length ≤ 1000) : f_49 N k b a q w c j n f L = some (bif mayP k b a q w c n f L then none else some 1) := by
 unfold f_49 l_49_0 mayP
 rw [schk_at, qchk_at, uchk_at, check_at (by omega) (by omega)]
 simp only [Option.bind_some]
 obtain ⟨M, rfl⟩ : ∃ m, N = m + 5 := ⟨N - 5, by omega⟩
 rw [pchk_loop M]
 cases smayB k b a && (qmayB q && (umayB w c && mayZ n f L)) <;> rfl
end Go.Proofs.YthpljlpokmoeeaaGreatDoor.Mir
namespace Go.Proofs.YthpljlpokmoeeaaGreatDoor.Mir
open Go Go.RowKit
set_option maxRecDepth 100000
theorem tk_ok {n : Nat} {xs : List Int} (h : n ≤ xs.length) : tk n (xs, false) = (ofLe (xs.take n), (xs.drop n, false)) := by
 unfold tk
 rw [if_neg (by simp; omega)]
end Go.Proofs.YthpljlpokmoeeaaGreatDoor.Mir
namespace Go.Proofs.YthpljlpokmoeeaaGreatDoor.Mir
open Go Go.RowKit
set_option maxRecDepth 100000
end Go.Proofs.YthpljlpokmoeeaaGreatDoor.Mir
namespace Go.Proofs.YthpljlpokmoeeaaGreatDoor.Mir
open Go Go.RowKit
set_option maxRecDepth 100000
def fineT (c : Int) : Bool := (decide (c ≥ 97) && decide (c ≤ 122)) || (decide (c ≥ 48) && decide (c ≤ 57))
def fineTL : List UInt8 := [97, 98, 99, 100, 101, 102, 103, 104, 105, 106, 107, 108, 109, 110, 111, 112, 113, 114, 115, 116, 117, 118, 119, 120, 121, 122, 48, 49, 50, 51, 52, 53, 54, 55, 56, 57]
theorem fineT_nat : ∀ n : Fin 256, fineTL.contains (UInt8.ofNat n.val) = fineT (n.val : Int) := by decide +kernel
theorem fineT_byte (b : UInt8) : fineTL.contains b = fineT (b.toNat : Int) := by
 have := fineT_nat ⟨b.toNat, b.toNat_lt⟩
 simpa using this
def allFineT (l : List UInt8) : Bool := l.all fun b => fineT (b.toNat : Int)
def nameT (s : ByteArray) : Bool := decide (1 ≤ s.size) && (decide (s.size ≤ 12) && allFineT s.data.toList)
theorem dropT_all : ∀ l : List UInt8, ((l.dropWhile (fineTL.contains ·)) == []) = allFineT l
 | [] => rfl
 | b :: l => by
  have h := dropT_all l
  simp only [List.dropWhile, allFineT, List.all_cons] at h ⊢
  rw [fineT_byte b]
  cases fineT (b.toNat : Int) with
  | true => simpa using h
  | false => simp
def R64 (n : Int) : Prop := -9223372036854775808 ≤ n ∧ n < 9223372036854775808
def timeB (at_ : Int) : Bool := decide (-4611686018427387904 < at_) && decide (at_ < 4611686018427387904)
theorem paut_at (N : Nat) {a : Int} (h : R64 a) : f_141 N a = some (timeB a) := by
 obtain ⟨h1, h2⟩ := h
 unfold f_141 f_101 f_52 f_114 f_115 timeB
 by_cases h0 : a < 0
 ·rw [decide_eq_true h0]
  by_cases hm : a = -9223372036854775808
  ·subst hm
   rfl
  ·rw [wi64 (n := 0 - a) (by omega) (by omega), decide_eq_true (show 0 - a > 0 by omega)]
   simp only [cond_true, beq_self_eq_true, Bool.not_true, cond_false, Option.bind_some, Option.isNone_none]
   congr 1
   rw [decide_eq_true (show a < 4611686018427387904 by omega), Bool.and_true]
   exact decide_eq_decide.2 (show ((0 : Int) - a < (4611686018427387904 : Int)) ↔ ((-4611686018427387904 : Int) < a) by omega)
 ·rw [decide_eq_false h0]
  simp only [cond_false, Option.bind_some]
  congr 1
  rw [decide_eq_true (show -4611686018427387904 < a by omega), Bool.true_and]
def pauseB (on : Bool) (a lost : Int) : Bool := timeB a && ((on || a == 0) && (!decide (lost < 0) && !decide (lost > 2305843009213693952)))
theorem pauchk_at (N : Nat) (on : Bool) {a : Int} (lost : Int) (h : R64 a) : f_71 N on a lost = some (bif pauseB on a lost then none else some 1) := by
 unfold f_71 pauseB
 rw [paut_at N h]
 simp only [Option.bind_some, bne]
 generalize timeB a = t1
 generalize (a == 0) = t2
 generalize decide (lost < 0) = t3
 generalize decide (lost > 2305843009213693952) = t4
 cases t1 <;> cases on <;> cases t2 <;> cases t3 <;> cases t4 <;> rfl
def floorB (set : Bool) (low q : Int) : Bool := bif set then Int.tmod low q == 0 else low == 0
theorem qmayB_rng {q : Int} (h : qmayB q = true) : 1 ≤ q ∧ q ≤ 68719476736 := by
 simp only [qmayB, Bool.and_eq_true, Bool.not_eq_true', decide_eq_false_iff_not] at h
 omega
theorem floored_at (N : Nat) (set : Bool) (low : Int) {q : Int} (h : qmayB q = true) : f_72 N set low q = some (floorB set low q) := by
 have hq := qmayB_rng h
 unfold f_72 floorB
 cases set with
 | false => rfl
 | true =>
  unfold f_142
  rw [qchk_at, h]
  simp only [Bool.not_true, cond_false, cond_true, Option.bind_some, Option.isNone_none]
  rw [decide_eq_false (show ¬ q = 0 by omega)]; rfl
def epB (e : Int) : Bool := !decide (e < 0) && !decide (e > 1099511627776)
def mayT (n : ByteArray) (k b a q w c : Int) (zn : ByteArray) (zf : Int) (zL : List Rul) (on : Bool) (at_ lost : Int) (set : Bool) (low ep : Int) : Bool :=
 nameT n && (mayP k b a q w c zn zf zL && (pauseB on at_ lost && (floorB set low q && epB ep)))
theorem beq_empty (s : ByteArray) : (s.toList == (⟨#[]⟩ : ByteArray).toList) = decide (s.size < 1) := by
 rw [Lib.toList_data, Lib.toList_data, size_list]
 show (s.data.toList == []) = _
 rw [beq_nil]
 cases s.data.toList <;> simp
theorem mayP_q {k b a q w c : Int} {zn : ByteArray} {zf : Int} {zL : List Rul} (h : mayP k b a q w c zn zf zL = true) : qmayB q = true := by
 simp only [mayP, Bool.and_eq_true] at h; exact h.2.1
theorem tchk_at {N : Nat} (hN : 3000 ≤ N) (n : ByteArray) (key : List Int) (k b a q w c : Int) (j : Bool) (zn : ByteArray) (zf : Int) {zL : List Rul} (on : Bool) {at_ : Int} (lost : Int) (set : Bool) (low ep : Int) (hL : zL.length ≤ 1000) (ha : R64 at_) :
  f_22 N n key k b a q w c j zn zf zL on at_ lost set low ep = some (bif mayT n k b a q w c zn zf zL on at_ lost set low ep then none else some 1) := by
 have ht : trimF n (⟨#[97, 98, 99, 100, 101, 102, 103, 104, 105, 106, 107, 108, 109, 110, 111, 112, 113, 114, 115, 116, 117, 118, 119, 120, 121, 122, 48, 49, 50, 51, 52, 53, 54, 55, 56, 57]⟩) = some ⟨(Lib.trimLeftS n.data.toList fineTL).toArray⟩ := rfl
 have hd : ((⟨(Lib.trimLeftS n.data.toList fineTL).toArray⟩ : ByteArray).toList == (⟨#[]⟩ : ByteArray).toList) = allFineT n.data.toList := by
  rw [Lib.toList_data, Lib.toList_data]
  exact dropT_all _
 unfold f_22 mayT nameT
 rw [beq_empty, ht]
 by_cases h1 : n.size < 1
 ·rw [decide_eq_true h1, decide_eq_false (show ¬ 1 ≤ n.size by omega)]; rfl
 ·by_cases h12 : n.size ≤ 12
  ·rw [decide_eq_false h1, decide_eq_true (show 1 ≤ n.size by omega), decide_eq_true h12, decide_eq_false (show ¬ (n.size : Int) > 12 by omega)]
   simp only [cond_false, Option.bind_some, hd, Bool.true_and]
   cases allFineT n.data.toList with
   | false => rfl
   | true =>
    simp only [Bool.not_true, cond_false, Bool.true_and]
    rw [pchk_at hN k b a q w c j hL]
    simp only [Option.bind_some]
    cases hm : mayP k b a q w c zn zf zL with
    | false => rfl
    | true =>
     simp only [cond_true, Option.isNone_none, Bool.not_true, cond_false, Bool.true_and]
     rw [pauchk_at N on lost ha, floored_at N set low (mayP_q hm)]
     unfold epB
     generalize pauseB on at_ lost = t1
     generalize floorB set low q = t2
     generalize decide (ep < 0) = t3
     generalize decide (ep > 1099511627776) = t4
     cases t1 <;> cases t2 <;> cases t3 <;> cases t4 <;> rfl
  ·rw [decide_eq_false h1, decide_eq_false h12, decide_eq_true (show (n.size : Int) > 12 by omega)]
   simp
end Go.Proofs.YthpljlpokmoeeaaGreatDoor.Mir
namespace Go.Proofs.YthpljlpokmoeeaaGreatDoor.Mir
open Go Go.RowKit
set_option maxRecDepth 100000
abbrev TenT := ByteArray × List Int × Int × Int × Int × Int × Int × Int × Bool × ByteArray × Int × List Rul × Bool × Int × Int × Bool × Int × Int
def ten0 : TenT := (ByteArray.empty, [0, 0, 0, 0, 0, 0, 0, 0, 0, 0, 0, 0, 0, 0, 0, 0], 0, 0, 0, 0, 0, 0, false, ByteArray.empty, 0, [], false, 0, 0, false, 0, 0)
def mayTT (t : TenT) : Bool := mayT t.1 t.2.2.1 t.2.2.2.1 t.2.2.2.2.1 t.2.2.2.2.2.1 t.2.2.2.2.2.2.1 t.2.2.2.2.2.2.2.1 t.2.2.2.2.2.2.2.2.2.1 t.2.2.2.2.2.2.2.2.2.2.1 t.2.2.2.2.2.2.2.2.2.2.2.1 t.2.2.2.2.2.2.2.2.2.2.2.2.1 t.2.2.2.2.2.2.2.2.2.2.2.2.2.1 t.2.2.2.2.2.2.2.2.2.2.2.2.2.2.1 t.2.2.2.2.2.2.2.2.2.2.2.2.2.2.2.1 t.2.2.2.2.2.2.2.2.2.2.2.2.2.2.2.2.1 t.2.2.2.2.2.2.2.2.2.2.2.2.2.2.2.2.2
structure TFit (t : TenT) : Prop where
 n : (t.1).size ≤ 1000
 zn : (t.2.2.2.2.2.2.2.2.2.1).size ≤ 1000
 zL : (t.2.2.2.2.2.2.2.2.2.2.2.1).length ≤ 1000
 rn : ∀ i, i < (t.2.2.2.2.2.2.2.2.2.2.2.1).length → (gR (t.2.2.2.2.2.2.2.2.2.2.2.1) i).2.2.size ≤ 1000
 ta : R64 (t.2.2.2.2.2.2.2.2.2.2.2.2.2.1)
 tl : R64 (t.2.2.2.2.2.2.2.2.2.2.2.2.2.2.2.2.1)
structure TKey (t : TenT) : Prop where
 len : (t.2.1).length = 16
 by_ : By (t.2.1)
end Go.Proofs.YthpljlpokmoeeaaGreatDoor.Mir
namespace Go.Proofs.YthpljlpokmoeeaaGreatDoor.Mir
open Go Go.RowKit
set_option maxRecDepth 100000
def rB (s : Int) : Bool := decide (-9223372036854775808 ≤ s ∧ s < 9223372036854775808)
def fit64 (s : Int) : Int × Option Int := bif rB s then (s, none) else (0, some 2)
def satI (s : Int) : Int := if s < -9223372036854775808 then -9223372036854775808 else if s > 9223372036854775807 then 9223372036854775807 else s
theorem rB_t {s : Int} (h : R64 s) : rB s = true := decide_eq_true h
theorem rB_f {s : Int} (h : ¬ R64 s) : rB s = false := decide_eq_false h
theorem rB_iff {s : Int} : rB s = true ↔ R64 s := by unfold rB R64; simp
theorem satI_in {s : Int} (h : R64 s) : satI s = s := by
 obtain ⟨h1, h2⟩ := h
 unfold satI; rw [if_neg (by omega), if_neg (by omega)]
theorem satI_rng (s : Int) : R64 (satI s) := by
 unfold satI R64
 split
 ·omega
 ·split <;> omega
theorem nadd_at (N : Nat) {a b : Int} (ha : R64 a) (hb : R64 b) : f_164 N a b = some (fit64 (a + b)) := by
 obtain ⟨a1, a2⟩ := ha
 obtain ⟨b1, b2⟩ := hb
 unfold f_164 fit64 rB
 by_cases h : -9223372036854775808 ≤ a + b ∧ a + b < 9223372036854775808
 ·rw [wi64 h.1 h.2, decide_eq_true h, show decide (a + b < a) = decide (b < 0) from decide_eq_decide.2 (by omega)]
  simp
 ·rw [decide_eq_false h]
  rcases (show a + b ≥ 9223372036854775808 ∨ a + b < -9223372036854775808 by omega) with h1 | h1
  ·have e : IntKind.i64.wrap (a + b) = a + b - 18446744073709551616 := by rw [IntKind.wrap_i64]; omega
   rw [e, decide_eq_true (show a + b - 18446744073709551616 < a by omega), decide_eq_false (show ¬ b < 0 by omega)]; rfl
  ·have e : IntKind.i64.wrap (a + b) = a + b + 18446744073709551616 := by rw [IntKind.wrap_i64]; omega
   rw [e, decide_eq_false (show ¬ a + b + 18446744073709551616 < a by omega), decide_eq_true (show b < 0 by omega)]; rfl
theorem nsub_at (N : Nat) {a b : Int} (ha : R64 a) (hb : R64 b) : f_114 N a b = some (fit64 (a - b)) := by
 obtain ⟨a1, a2⟩ := ha
 obtain ⟨b1, b2⟩ := hb
 unfold f_114 fit64 rB
 by_cases h : -9223372036854775808 ≤ a - b ∧ a - b < 9223372036854775808
 ·rw [wi64 h.1 h.2, decide_eq_true h, show decide (a - b > a) = decide (b < 0) from decide_eq_decide.2 (by omega)]
  simp
 ·rw [decide_eq_false h]
  rcases (show a - b ≥ 9223372036854775808 ∨ a - b < -9223372036854775808 by omega) with h1 | h1
  ·have e : IntKind.i64.wrap (a - b) = a - b - 18446744073709551616 := by rw [IntKind.wrap_i64]; omega
   rw [e, decide_eq_false (show ¬ a - b - 18446744073709551616 > a by omega), decide_eq_true (show b < 0 by omega)]; rfl
  ·have e : IntKind.i64.wrap (a - b) = a - b + 18446744073709551616 := by rw [IntKind.wrap_i64]; omega
   rw [e, decide_eq_true (show a - b + 18446744073709551616 > a by omega), decide_eq_false (show ¬ b < 0 by omega)]; rfl
theorem nedge_at (N : Nat) (b : Bool) : f_115 N b = some (bif b then -9223372036854775808 else 9223372036854775807) := by cases b <;> rfl
theorem naddsat_at (N : Nat) {a b : Int} (ha : R64 a) (hb : R64 b) : f_136 N a b = some (satI (a + b)) := by
 unfold f_136
 rw [nadd_at N ha hb, nedge_at]
 obtain ⟨a1, a2⟩ := ha
 obtain ⟨b1, b2⟩ := hb
 simp only [Option.bind_some]
 by_cases h : R64 (a + b)
 ·unfold fit64; rw [rB_t h, satI_in h]; rfl
 ·unfold fit64; rw [rB_f h]
  simp only [cond_false, Option.isNone_some, Bool.not_false, cond_true]
  unfold R64 at h
  unfold satI
  by_cases h0 : b < 0
  ·rw [decide_eq_true h0, if_pos (by omega)]; rfl
  ·rw [decide_eq_false h0, if_neg (by omega), if_pos (by omega)]; rfl
theorem nsubsat_at (N : Nat) {a b : Int} (ha : R64 a) (hb : R64 b) : f_52 N a b = some (satI (a - b)) := by
 unfold f_52
 rw [nsub_at N ha hb, nedge_at]
 obtain ⟨a1, a2⟩ := ha
 obtain ⟨b1, b2⟩ := hb
 simp only [Option.bind_some]
 by_cases h : R64 (a - b)
 ·unfold fit64; rw [rB_t h, satI_in h]; rfl
 ·unfold fit64; rw [rB_f h]
  simp only [cond_false, Option.isNone_some, Bool.not_false, cond_true]
  unfold R64 at h
  unfold satI
  by_cases h0 : b > 0
  ·rw [decide_eq_true h0, if_pos (by omega)]; rfl
  ·rw [decide_eq_false h0, if_neg (by omega), if_pos (by omega)]; rfl
theorem tmod_rng {a b : Int} (hb : 0 < b) : -b < Int.tmod a b ∧ Int.tmod a b < b ∧ (0 ≤ a → 0 ≤ Int.tmod a b) ∧ (a ≤ 0 → Int.tmod a b ≤ 0) := by
 rcases Int.lt_or_le a 0 with h | h
 ·have a1 := Int.tmod_nonneg b (show 0 ≤ -a by omega)
  have a2 := Int.tmod_lt_of_pos (-a) hb
  rw [Int.neg_tmod] at a1 a2
  exact ⟨by omega, by omega, fun h' => by omega, fun _ => by omega⟩
 ·have a1 := Int.tmod_nonneg b h
  have a2 := Int.tmod_lt_of_pos a hb
  refine ⟨by omega, by omega, fun _ => a1, fun h' => ?_⟩
  obtain rfl : a = 0 := by omega
  simp
theorem floor_t {a b : Int} (hb : 0 < b) : a / b = (if Int.tmod a b < 0 then Int.tdiv a b - 1 else Int.tdiv a b) ∧ a % b = (if Int.tmod a b < 0 then Int.tmod a b + b else Int.tmod a b) := by
 have e := Int.mul_tdiv_add_tmod a b
 obtain ⟨l1, l2, _⟩ := tmod_rng (a := a) hb
 split
 ·exact (Int.ediv_emod_unique hb).2 ⟨by rw [Int.mul_sub, Int.mul_one]; omega, by omega, by omega⟩
 ·exact (Int.ediv_emod_unique hb).2 ⟨by omega, by omega, by omega⟩
theorem fdiv_rng {a b : Int} (hb : 1 ≤ b) : (0 ≤ a → 0 ≤ a / b ∧ a / b ≤ a) ∧ (a < 0 → a ≤ a / b ∧ a / b < 0) := by
 have e := Int.mul_ediv_add_emod a b
 have e1 := Int.emod_nonneg a (show b ≠ 0 by omega)
 have e2 := Int.emod_lt_of_pos a (show 0 < b by omega)
 refine ⟨fun h => ⟨Int.ediv_nonneg h (by omega), Int.ediv_le_self b h⟩, fun h => ⟨?_, Int.ediv_neg_of_neg_of_pos h (by omega)⟩⟩
 refine Int.le_ediv_of_mul_le (by omega) ?_
 have := Int.mul_le_mul_of_nonpos_left (show a ≤ 0 by omega) hb
 omega
theorem ndiv_at (N : Nat) {a b : Int} (ha : R64 a) (hb : 1 ≤ b) (hb2 : b < 9223372036854775808) : f_94 N a b = some (a / b, a % b, none) := by
 obtain ⟨a1, a2⟩ := ha
 obtain ⟨f1, f2⟩ := floor_t (a := a) (b := b) (by omega)
 obtain ⟨g1, g2⟩ := fdiv_rng (a := a) hb
 obtain ⟨l1, l2, l3, l4⟩ := tmod_rng (a := a) (b := b) (by omega)
 unfold f_94
 rw [decide_eq_false (show ¬ b < 1 by omega), decide_eq_false (show ¬ b = 0 by omega)]
 simp only [cond_false]
 by_cases h : Int.tmod a b < 0
 ·rw [if_pos h] at f1 f2
  have h0 : a < 0 := by
   rcases Int.lt_or_le a 0 with h0 | h0
   ·exact h0
   ·have := l3 h0; omega
  have g := g2 h0
  rw [decide_eq_true h, wi64 (n := Int.tdiv a b) (by omega) (by omega), wi64 (n := Int.tdiv a b - 1) (by omega) (by omega), wi64 (n := Int.tmod a b + b) (by omega) (by omega), f1, f2]; rfl
 ·rw [if_neg h] at f1 f2
  rw [decide_eq_false h, wi64 (n := Int.tdiv a b) (by omega) (by omega), f1, f2]; rfl
theorem nmul_at (N : Nat) {a b : Int} (ha : R64 a) (hb : R64 b) (hb0 : 0 < b) : f_186 N a b = some (fit64 (a * b)) := by
 obtain ⟨a1, a2⟩ := ha
 obtain ⟨b1, b2⟩ := hb
 unfold f_186
 by_cases h0 : a = 0
 ·subst h0
  rw [Int.zero_mul]; rfl
 rw [show (a == 0) = false by simpa using h0, show (b == 0) = false by simp; omega, show (b == (-1)) = false by simp; omega, show (b == (-9223372036854775808)) = false by simp; omega]
 have hb1 : decide (b = 0) = false := decide_eq_false (by omega)
 unfold fit64
 by_cases h : R64 (a * b)
 ·rw [rB_t h]
  obtain ⟨h1, h2⟩ := h
  have e : Int.tdiv (a * b) b = a := Int.mul_tdiv_cancel a (by omega)
  simp only [wi64 h1 h2, hb1, e, wi64 a1 a2, cond_false, cond_true, bne_self_eq_false]
  cases (a == -1) <;> rfl
 ·rw [rB_f h]
  have hne : (IntKind.i64.wrap (Int.tdiv (IntKind.i64.wrap (a * b)) b) != a) = true := by
   rw [bne_iff_ne]
   intro hc
   have e := Int.mul_tdiv_add_tmod (IntKind.i64.wrap (a * b)) b
   obtain ⟨l1, l2, _⟩ := tmod_rng (a := IntKind.i64.wrap (a * b)) (b := b) hb0
   have hw : -9223372036854775808 ≤ IntKind.i64.wrap (a * b) ∧ IntKind.i64.wrap (a * b) < 9223372036854775808 := by rw [IntKind.wrap_i64]; omega
   obtain ⟨g1, g2⟩ := fdiv_rng (a := IntKind.i64.wrap (a * b)) (b := b) (by omega)
   obtain ⟨f1, _⟩ := floor_t (a := IntKind.i64.wrap (a * b)) (b := b) hb0
   have ht : R64 (Int.tdiv (IntKind.i64.wrap (a * b)) b) := by
    unfold R64
    rcases Int.lt_or_le (IntKind.i64.wrap (a * b)) 0 with q | q
    ·have := g2 q; split at f1 <;> omega
    ·have := g1 q; split at f1 <;> omega
   rw [wi64 ht.1 ht.2] at hc
   rw [hc, Int.mul_comm] at e
   have hm : ∃ k, IntKind.i64.wrap (a * b) = a * b + 18446744073709551616 * k := by
    rw [IntKind.wrap_i64]
    exact ⟨-((a * b + 9223372036854775808) / 18446744073709551616), by omega⟩
   obtain ⟨k, hk⟩ := hm
   unfold R64 at h
   generalize a * b = p at *
   generalize Int.tmod (IntKind.i64.wrap p) b = r at *
   generalize IntKind.i64.wrap p = v at *
   omega
  simp only [hb1, hne, cond_false, cond_true]
  cases (a == -1) <;> rfl
end Go.Proofs.YthpljlpokmoeeaaGreatDoor.Mir
namespace Go.Proofs.YthpljlpokmoeeaaGreatDoor.Mir
open Go Go.RowKit
set_option maxRecDepth 100000
theorem qplace_at (N : Nat) {t q : Int} (ht : R64 t) : f_185 N t q = some (if qmayB q = true then (t / q, none) else (0, some 1)) := by
 unfold f_185
 rw [qchk_at]
 simp only [Option.bind_some]
 cases h : qmayB q with
 | false => rfl
 | true =>
  have hq := qmayB_rng h
  simp only [cond_true, Option.isNone_none, Bool.not_true, cond_false, if_true]
  rw [ndiv_at N ht hq.1 (by omega)]; rfl
theorem fdiv_r64 {t q : Int} (ht : R64 t) (hq : 1 ≤ q) : R64 (t / q) := by
 obtain ⟨g1, g2⟩ := fdiv_rng (a := t) hq
 obtain ⟨t1, t2⟩ := ht
 unfold R64
 rcases Int.lt_or_le t 0 with h | h
 ·have := g2 h; omega
 ·have := g1 h; omega
theorem qdown_at (N : Nat) {t q : Int} (ht : R64 t) : f_144 N t q = some (if qmayB q = true then fit64 (t / q * q) else (0, some 1)) := by
 unfold f_144
 rw [qplace_at N ht]
 simp only [Option.bind_some]
 cases h : qmayB q with
 | false => rfl
 | true =>
  have hq := qmayB_rng h
  simp only [if_true, Option.isNone_none, Bool.not_true, cond_false]
  rw [nmul_at N (fdiv_r64 ht hq.1) ⟨by omega, by omega⟩ (by omega)]; rfl
def raiseD (set : Bool) (at_ t : Int) : Int := bif set then max t at_ else t
theorem max_if (x y : Int) : (if y > x then y else x) = max x y := by
 rw [Int.max_def]
 split <;> split <;> omega
theorem fraise_at (N : Nat) (set : Bool) (at_ t : Int) : f_145 N set at_ t = some (true, raiseD set at_ t) := by
 unfold f_145 raiseD
 cases set with
 | false => rfl
 | true =>
  simp only [cond_true]
  rw [max_if]
theorem raiseD_rng {set : Bool} {at_ t : Int} (ha : R64 at_) (ht : R64 t) : R64 (raiseD set at_ t) := by
 unfold raiseD
 cases set with
 | false => exact ht
 | true =>
  show R64 (max t at_)
  rw [Int.max_def]; split <;> assumption
theorem raiseD_ge (set : Bool) (at_ t : Int) : t ≤ raiseD set at_ t := by
 unfold raiseD
 cases set with
 | false => exact Int.le_refl _
 | true => exact Int.le_max_left _ _
theorem ftake_at (N : Nat) (set : Bool) {at_ t : Int} (ha : R64 at_) (ht : R64 t) : f_76 N set at_ t = some (raiseD set at_ t, satI (raiseD set at_ t - t), (true, raiseD set at_ t)) := by
 unfold f_76
 rw [fraise_at]
 simp only [Option.bind_some]
 rw [nsubsat_at N (raiseD_rng ha ht) ht]; rfl
theorem timeB_rng {t : Int} (h : timeB t = true) : -4611686018427387904 < t ∧ t < 4611686018427387904 := by simpa [timeB] using h
theorem pauseB_rng {on : Bool} {a lost : Int} (h : pauseB on a lost = true) : (-4611686018427387904 < a ∧ a < 4611686018427387904) ∧ 0 ≤ lost ∧ lost ≤ 2305843009213693952 := by
 simp only [pauseB, Bool.and_eq_true, Bool.not_eq_true', decide_eq_false_iff_not] at h
 exact ⟨timeB_rng h.1, by omega, by omega⟩
theorem paumay_at (N : Nat) (on : Bool) {a : Int} (lost : Int) {t : Int} (ha : R64 a) (ht : R64 t) : f_146 N on a lost t = some (bif timeB t && pauseB on a lost then none else some 1) := by
 unfold f_146
 rw [paut_at N ht, pauchk_at N on lost ha]
 simp only [Option.bind_some]
 cases timeB t <;> rfl
def viewD (on : Bool) (a lost t : Int) : Int × Option Int :=
 if (timeB t && pauseB on a lost) = false then (0, some 1) else
 if timeB ((bif on then a else t) - lost) = true then ((bif on then a else t) - lost, none) else (0, some 2)
theorem pauview_at (N : Nat) (on : Bool) {a lost t : Int} (ha : R64 a) (ht : R64 t) (hl : R64 lost) : f_78 N on a lost t = some (viewD on a lost t) := by
 unfold f_78 viewD
 rw [paumay_at N on lost ha ht]
 simp only [Option.bind_some]
 cases hm : timeB t && pauseB on a lost with
 | false => rfl
 | true =>
  rw [Bool.and_eq_true] at hm
  obtain ⟨⟨a1, a2⟩, l1, l2⟩ := pauseB_rng hm.2
  obtain ⟨t1, t2⟩ := timeB_rng hm.1
  simp only [cond_true, Option.isNone_none, Bool.not_true, cond_false]
  rw [if_neg (show ¬ true = false by decide)]
  cases on with
  | false =>
   simp only [cond_false]
   rw [nsubsat_at N ht hl, satI_in (s := t - lost) ⟨by omega, by omega⟩]
   simp only [Option.bind_some]
   rw [paut_at N ⟨by omega, by omega⟩]
   simp only [Option.bind_some]
   cases timeB (t - lost) <;> rfl
  | true =>
   simp only [cond_true]
   rw [nsubsat_at N ha hl, satI_in (s := a - lost) ⟨by omega, by omega⟩]
   simp only [Option.bind_some]
   rw [paut_at N ⟨by omega, by omega⟩]
   simp only [Option.bind_some]
   cases timeB (a - lost) <;> rfl
end Go.Proofs.YthpljlpokmoeeaaGreatDoor.Mir
namespace Go.Proofs.YthpljlpokmoeeaaGreatDoor.Mir
open Go Go.RowKit
set_option maxRecDepth 100000
theorem bindP {A B : Type} (o : Option A) (a : A) (k : A → Option B) (h : o = some a) : Option.bind o k = k a := by subst h; exact id rfl
def U64 (x : Int) : Prop := 0 ≤ x ∧ x < 18446744073709551616
theorem wu_U (x : Int) : U64 (IntKind.u64.wrap x) := wu64_lt x
def xr (a b : Int) : Int := ibits .xor .u64 a b
theorem xr_U (a b : Int) : U64 (xr a b) := wu64_lt _
def rotI (x : Int) (n : Nat) : Int := IntKind.u64.wrap (IntKind.u64.wrap (x * 2 ^ n) + x / 2 ^ (64 - n))
theorem rotI_U (x : Int) (n : Nat) : U64 (rotI x n) := wu64_lt _
theorem o64 {a b : Nat} (ha : a < 18446744073709551616) (hb : b < 18446744073709551616) : ibits .or .u64 (a : Int) (b : Int) = ((a ||| b : Nat) : Int) := by
 have h : a ||| b < 18446744073709551616 := Nat.or_lt_two_pow (n := 64) ha hb
 show IntKind.u64.wrap (((BitVec.ofInt 64 (a : Int) ||| BitVec.ofInt 64 (b : Int)).toNat : Nat) : Int) = _
 rw [BitVec.ofInt_natCast, BitVec.ofInt_natCast, BitVec.toNat_or, BitVec.toNat_ofNat, BitVec.toNat_ofNat, Nat.mod_eq_of_lt (by simpa using ha), Nat.mod_eq_of_lt (by simpa using hb)]
 exact wu64 (by omega) (by omega)
theorem rot_or {x n : Nat} (hx : x < 2 ^ 64) (hn : n ≤ 64) : ((x * 2 ^ n) % 2 ^ 64 ||| x / 2 ^ (64 - n) = (x * 2 ^ n) % 2 ^ 64 + x / 2 ^ (64 - n)) ∧ (x * 2 ^ n) % 2 ^ 64 + x / 2 ^ (64 - n) < 2 ^ 64 := by
 have h1 : 2 ^ n * 2 ^ (64 - n) = 2 ^ 64 := by rw [← Nat.pow_add]; congr 1; omega
 have h2 : (x * 2 ^ n) % 2 ^ 64 = 2 ^ n * (x % 2 ^ (64 - n)) := by rw [← h1, Nat.mul_comm x, Nat.mul_mod_mul_left]
 have h3 : x / 2 ^ (64 - n) < 2 ^ n := by
  rw [Nat.div_lt_iff_lt_mul (Nat.two_pow_pos _), h1]; exact hx
 rw [h2]
 refine ⟨(Nat.two_pow_add_eq_or_of_lt h3 _).symm, ?_⟩
 have h4 : x % 2 ^ (64 - n) + 1 ≤ 2 ^ (64 - n) := Nat.mod_lt _ (Nat.two_pow_pos _)
 have h5 := Nat.mul_le_mul_left (2 ^ n) h4
 rw [h1, Nat.mul_add, Nat.mul_one] at h5
 omega
theorem rotl_at (N : Nat) {x : Int} (h : U64 x) {n : Nat} (h1 : n ≤ 63) (hn : ibits .and .u64 (IntKind.u64.wrap (n : Int)) 63 = (n : Int)) : f_236 N x (n : Int) = some (rotI x n) := by
 unfold f_236 rotI
 rw [hn, decide_eq_false (show ¬ (n : Int) < 0 by omega), wu64 (n := 64 - (n : Int)) (by omega) (by omega), decide_eq_false (show ¬ 64 - (n : Int) < 0 by omega), show (64 : Int) - (n : Int) = ((64 - n : Nat) : Int) by omega]
 simp only [cond_false, Int.toNat_natCast]
 rw [show min n IntKind.u64.bits = n from Nat.min_eq_left (show n ≤ 64 by omega), show min (64 - n) IntKind.u64.bits = 64 - n from Nat.min_eq_left (show 64 - n ≤ 64 by omega)]
 obtain ⟨X, rfl⟩ : ∃ X : Nat, x = (X : Int) := ⟨x.toNat, by have := h.1; omega⟩
 have hX : X < 2 ^ 64 := by have := h.2; omega
 obtain ⟨e1, e2⟩ := rot_or hX (show n ≤ 64 by omega)
 have c1 : ((X * 2 ^ n : Nat) : Int) = (X : Int) * 2 ^ n := by rw [Int.natCast_mul, Int.natCast_pow]; rfl
 have c2 : ((X / 2 ^ (64 - n) : Nat) : Int) = (X : Int) / 2 ^ (64 - n) := by rw [Int.natCast_ediv, Int.natCast_pow]; rfl
 rw [← c1, ← c2]
 generalize X * 2 ^ n = Y at e1 e2 ⊢
 generalize X / 2 ^ (64 - n) = Z at e1 e2 ⊢
 have a1 : IntKind.u64.wrap (Y : Int) = ((Y % 2 ^ 64 : Nat) : Int) := by rw [IntKind.wrap_u64]; omega
 rw [a1, o64 (by omega) (by omega), e1, ← Int.natCast_add, wu64 (by omega) (by omega)]
theorem turn_at (N : Nat) {x : Int} (h : U64 x) {n : Nat} (h1 : n ≤ 63) (hn : ibits .and .u64 (IntKind.u64.wrap (n : Int)) 63 = (n : Int)) : f_233 N x (n : Int) = some (rotI x n) := by
 unfold f_233
 rw [rotl_at N h h1 hn]; rfl
abbrev SipT := Int × Int × Int × Int
def SipOk (s : SipT) : Prop := U64 s.1 ∧ U64 s.2.1 ∧ U64 s.2.2.1 ∧ U64 s.2.2.2
def sipA (s : SipT) : Int := IntKind.u64.wrap (s.1 + s.2.1)
def sipB1 (s : SipT) : Int := xr (rotI s.2.1 13) (sipA s)
def sipC (s : SipT) : Int := IntKind.u64.wrap (s.2.2.1 + s.2.2.2)
def sipD1 (s : SipT) : Int := xr (rotI s.2.2.2 16) (sipC s)
def sipA3 (s : SipT) : Int := IntKind.u64.wrap (rotI (sipA s) 32 + sipD1 s)
def sipD2 (s : SipT) : Int := xr (rotI (sipD1 s) 21) (sipA3 s)
def sipC2 (s : SipT) : Int := IntKind.u64.wrap (sipC s + sipB1 s)
def sipB2 (s : SipT) : Int := xr (rotI (sipB1 s) 17) (sipC2 s)
def sipR (s : SipT) : SipT := (sipA3 s, sipB2 s, rotI (sipC2 s) 32, sipD2 s)
theorem sipR_ok (s : SipT) : SipOk (sipR s) := ⟨wu_U _, xr_U _ _, rotI_U _ _, xr_U _ _⟩
def sipN : Nat → SipT → SipT
 | 0, s => s
 | n + 1, s => sipN n (sipR s)
theorem sipN_ok : ∀ (n : Nat) {s : SipT}, SipOk s → SipOk (sipN n s)
 | 0, _, h => h
 | n + 1, _, _ => sipN_ok n (sipR_ok _)
theorem rounds_loop (N n : Nat) (hn : n ≤ 100) : ∀ (k M i : Nat) (s : SipT), i + k = n → k < M → SipOk s → iter (b_224_0 N) M ((), (n : Int), (i : Int), s) = some (sipN k s) := by
 intro k
 induction k with
 | zero =>
  intro M i s hi hM _
  obtain ⟨M, rfl⟩ : ∃ m, M = m + 1 := ⟨M - 1, by omega⟩
  obtain ⟨a, b, c, d⟩ := s
  show b_224_0 N (iter (b_224_0 N) M) _ = _
  generalize iter (b_224_0 N) M = T
  unfold b_224_0
  simp only
  rw [decide_eq_false (show ¬ (i : Int) < (n : Int) by omega)]; rfl
 | succ k ih =>
  intro M i s hi hM hs
  obtain ⟨M, rfl⟩ : ∃ m, M = m + 1 := ⟨M - 1, by omega⟩
  have key := ih M (i + 1) (sipR s) (by omega) (by omega) (sipR_ok s)
  obtain ⟨a, b, c, d⟩ := s
  obtain ⟨ha, hb, hc, hd⟩ := hs
  show b_224_0 N (iter (b_224_0 N) M) _ = _
  generalize iter (b_224_0 N) M = T at key ⊢
  unfold b_224_0
  simp only
  rw [decide_eq_true (show (i : Int) < (n : Int) by omega)]
  simp only [cond_true]
  refine (bindP _ _ _ (turn_at N (n := 13) hb (by decide) (by decide))).trans ?_
  refine (bindP _ _ _ (turn_at N (n := 32) (wu_U _) (by decide) (by decide))).trans ?_
  refine (bindP _ _ _ (turn_at N (n := 16) hd (by decide) (by decide))).trans ?_
  refine (bindP _ _ _ (turn_at N (n := 21) (xr_U _ _) (by decide) (by decide))).trans ?_
  refine (bindP _ _ _ (turn_at N (n := 17) (xr_U _ _) (by decide) (by decide))).trans ?_
  refine (bindP _ _ _ (turn_at N (n := 32) (wu_U _) (by decide) (by decide))).trans ?_
  rw [wi64 (n := (i : Int) + 1) (by omega) (by omega), show (i : Int) + 1 = ((i + 1 : Nat) : Int) by omega]
  exact key
theorem rounds_at {N n : Nat} (hn : n ≤ 100) (hN : n < N) {s : SipT} (h : SipOk s) : f_224 N (n : Int) s.1 s.2.1 s.2.2.1 s.2.2.2 = some (sipN n s) := by
 unfold f_224 l_224_0
 have hl := rounds_loop N n hn n N 0 s (by omega) hN h
 rw [show iter (b_224_0 N) N ((), (n : Int), 0, (s.1, s.2.1, s.2.2.1, s.2.2.2)) = _ from hl]; rfl
def sipT (s : SipT) (w : Int) : SipT := (xr (sipN 2 (s.1, s.2.1, s.2.2.1, xr s.2.2.2 w)).1 w, (sipN 2 (s.1, s.2.1, s.2.2.1, xr s.2.2.2 w)).2)
theorem sipT_ok {s : SipT} (h : SipOk s) (w : Int) : SipOk (sipT s w) := by
 have := sipN_ok 2 (s := (s.1, s.2.1, s.2.2.1, xr s.2.2.2 w)) ⟨h.1, h.2.1, h.2.2.1, xr_U _ _⟩
 exact ⟨xr_U _ _, this.2⟩
theorem take_at {N : Nat} (hN : 3 ≤ N) {s : SipT} (h : SipOk s) (w : Int) : f_223 N w s.1 s.2.1 s.2.2.1 s.2.2.2 = some (sipT s w) := by
 unfold f_223
 refine (bindP _ _ _ (rounds_at (N := N) (n := 2) (by omega) (by omega) (s := (s.1, s.2.1, s.2.2.1, xr s.2.2.2 w)) ⟨h.1, h.2.1, h.2.2.1, xr_U _ _⟩)).trans ?_
 rfl
theorem ofLe8_U {zs : List Int} (h : By zs) (hl : zs.length = 8) : U64 (ofLe zs) := by
 have := tk_lt (n := 8) (s := (zs, false)) h
 rw [tk_ok (by omega), List.take_of_length_le (by omega)] at this
 exact ⟨this.1, by simpa using this.2⟩
theorem wu_wi {v : Int} (h : U64 v) : IntKind.u64.wrap (IntKind.i64.wrap v) = v := by
 obtain ⟨h1, h2⟩ := h
 rw [IntKind.wrap_u64, IntKind.wrap_i64]; omega
theorem word_at (N : Nat) {zs : List Int} (h : By zs) (hl : zs.length = 8) : f_222 N zs = some (ofLe zs) := by
 unfold f_222
 refine (bindP _ _ _ (new_at N (by omega))).trans ?_
 refine (bindP _ _ _ (i64_at N h)).trans ?_
 rw [tk_ok (by omega), List.take_of_length_le (by omega)]
 simp only
 rw [wu_wi (ofLe8_U h hl)]
end Go.Proofs.YthpljlpokmoeeaaGreatDoor.Mir
namespace Go.Proofs.YthpljlpokmoeeaaGreatDoor.Mir
open Go Go.RowKit
set_option maxRecDepth 100000
def sip0 (k : List Int) : SipT := (xr (ofLe (k.take 8)) 8317987319222330741, xr (ofLe ((k.take 16).drop 8)) 7237128888997146477, xr (ofLe (k.take 8)) 7816392313619706465, xr (ofLe ((k.take 16).drop 8)) 8387220255154660723)
def sipE (s : SipT) : Int := xr (xr (xr (sipN 4 (s.1, s.2.1, xr s.2.2.1 255, s.2.2.2)).1 (sipN 4 (s.1, s.2.1, xr s.2.2.1 255, s.2.2.2)).2.1) (sipN 4 (s.1, s.2.1, xr s.2.2.1 255, s.2.2.2)).2.2.1) (sipN 4 (s.1, s.2.1, xr s.2.2.1 255, s.2.2.2)).2.2.2
def sip8 (k b : List Int) : Int := sipE (sipT (sipT (sip0 k) (ofLe b)) (ofLe [0, 0, 0, 0, 0, 0, 0, 8]))
theorem sipOk_mk {a b c d : Int} (ha : U64 a) (hb : U64 b) (hc : U64 c) (hd : U64 d) : SipOk (a, b, c, d) := ⟨ha, hb, hc, hd⟩
theorem sip0_ok (k : List Int) : SipOk (sip0 k) := ⟨xr_U _ _, xr_U _ _, xr_U _ _, xr_U _ _⟩
theorem sip8_U (k b : List Int) : U64 (sip8 k b) := xr_U _ _
theorem by08 : By [0, 0, 0, 0, 0, 0, 0, 8] := fun x hx => by simp at hx; omega
theorem rounds4 {N : Nat} (hN : 20 ≤ N) {a b c d : Int} (h : SipOk (a, b, c, d)) : f_224 N 4 a b c d = some (sipN 4 (a, b, c, d)) := rounds_at (N := N) (n := 4) (by omega) (by omega) h
theorem psum_end (q : Option SipT) (R : SipT) (h : q = some R) : (q.bind fun r => some (ibits .xor .u64 (ibits .xor .u64 (ibits .xor .u64 r.1 r.2.1) r.2.2.1) r.2.2.2)) = some (xr (xr (xr R.1 R.2.1) R.2.2.1) R.2.2.2) := by
 subst h
 unfold xr
 rfl
theorem psum_at {N : Nat} (hN : 20 ≤ N) {k b : List Int} (hk : By k) (hkl : k.length = 16) (hb : By b) (hbl : b.length = 8) : f_215 N k b = some (sip8 k b) := by
 unfold f_215
 refine (bindP _ _ _ (word_at N (zs := (k.take 8).drop 0) ((hk.take 8).drop 0) (by simp; omega))).trans ?_
 refine (bindP _ _ _ (word_at N (zs := (k.take 16).drop 8) ((hk.take 16).drop 8) (by simp; omega))).trans ?_
 rw [List.drop_zero]
 have hlp : l_215_0 N (b, (), (b.length : Int), sip0 k) = some ([], (), (b.length : Int), sipT (sip0 k) (ofLe b)) := by
  unfold l_215_0
  obtain ⟨M, rfl⟩ : ∃ m, N = m + 2 := ⟨N - 2, by omega⟩
  show b_215_0 (M + 2) (b_215_0 (M + 2) (iter (b_215_0 (M + 2)) M)) _ = _
  generalize iter (b_215_0 (M + 2)) M = T
  have hend : ∀ s : SipT, b_215_0 (M + 2) T ([], (), (b.length : Int), s) = some ([], (), (b.length : Int), s) := fun s => by
   obtain ⟨s1, s2, s3, s4⟩ := s
   unfold b_215_0
   rfl
  generalize hT : b_215_0 (M + 2) T = T2 at hend ⊢
  have h0 := sip0_ok k
  generalize sip0 k = s at h0 ⊢
  obtain ⟨s1, s2, s3, s4⟩ := s
  unfold b_215_0
  simp only
  rw [decide_eq_true (show (b.length : Int) ≥ 8 by omega), decide_eq_true (show 0 ≤ (8 : Int) ∧ (8 : Int) ≤ (b.length : Int) by omega), decide_eq_true (show 0 ≤ (0 : Int) ∧ (0 : Int) ≤ (8 : Int) by omega), decide_eq_true (show 0 ≤ (b.length : Int) ∧ (b.length : Int) ≤ (b.length : Int) by omega)]
  simp only [cond_true]
  rw [show Int.toNat 8 = 8 from rfl, show Int.toNat 0 = 0 from rfl, List.drop_zero, List.take_of_length_le (show b.length ≤ 8 by omega)]
  refine (bindP _ _ _ (word_at (M + 2) hb hbl)).trans ?_
  refine (bindP _ _ _ (take_at (by omega) h0 (ofLe b))).trans ?_
  rw [Int.toNat_natCast, List.take_length, List.drop_eq_nil_of_le (by omega)]
  exact hend _
 refine (bindP _ _ _ hlp).trans ?_
 simp only
 rw [decide_eq_true (show ([] : List Int).length ≤ 8 by decide)]
 simp only [cond_true]
 have e8 : List.drop 0 (List.take 8 (List.set (List.take 0 [0, 0, 0, 0, 0, 0, 0, 0] ++ ([] ++ List.drop (0 + ([] : List Int).length) [0, 0, 0, 0, 0, 0, 0, 0])) (Int.toNat 7) (IntKind.u8.wrap (b.length : Int)))) = [0, 0, 0, 0, 0, 0, 0, 8] := by rw [hbl]; rfl
 rw [e8]
 refine (bindP _ _ _ (word_at N by08 rfl)).trans ?_
 have h1 := sipT_ok (sip0_ok k) (ofLe b)
 unfold sip8
 generalize sipT (sip0 k) (ofLe b) = s1 at h1 ⊢
 refine (bindP _ _ _ (take_at (by omega) h1 (ofLe [0, 0, 0, 0, 0, 0, 0, 8]))).trans ?_
 have h2 := sipT_ok h1 (ofLe [0, 0, 0, 0, 0, 0, 0, 8])
 generalize sipT s1 (ofLe [0, 0, 0, 0, 0, 0, 0, 8]) = s2 at h2 ⊢
 obtain ⟨a, b, c, d⟩ := s2
 obtain ⟨ha, hb, hc, hd⟩ := h2
 simp only at ha hb hc hd ⊢
 rw [show ibits .xor .u64 c 255 = xr c 255 from (xr.eq_1 _ _).symm]
 have hz : U64 (xr c 255) := xr_U _ _
 unfold sipE
 simp only
 generalize xr c 255 = z at hz ⊢
 have h4 := rounds4 hN (sipOk_mk ha hb hz hd)
 generalize f_224 N 4 a b z d = q at h4 ⊢
 generalize sipN 4 (a, b, z, d) = R at h4 ⊢
 clear hlp e8 h1 hk hkl hbl
 exact psum_end q R h4
def numS (k : List Int) (place limit : Int) : Int := sip8 k (le 8 (IntKind.u64.wrap place)) % (limit + 1)
theorem numS_rng (k : List Int) (place : Int) {limit : Int} (h : 0 ≤ limit) : 0 ≤ numS k place limit ∧ numS k place limit ≤ limit := by
 unfold numS
 have h1 := Int.emod_nonneg (sip8 k (le 8 (IntKind.u64.wrap place))) (show limit + 1 ≠ 0 by omega)
 have h2 := Int.emod_lt_of_pos (sip8 k (le 8 (IntKind.u64.wrap place))) (show 0 < limit + 1 by omega)
 omega
theorem pnumber_at {N : Nat} (hN : 20 ≤ N) {k : List Int} (hk : By k) (hkl : k.length = 16) (place : Int) {limit : Int} (h0 : 0 ≤ limit) (h1 : limit < 1000000000000000) : f_201 N k place limit = some (numS k place limit) := by
 unfold f_201
 refine (bindP _ _ _ (pi64_at (N := N) (b := []) (v := place) (by omega) (by simp))).trans ?_
 rw [List.nil_append]
 refine (bindP _ _ _ (psum_at hN hk hkl (le_by 8 _) (le_len 8 _))).trans ?_
 have hU := sip8_U k (le 8 (IntKind.u64.wrap place))
 rw [wu64 (n := limit + 1) (by omega) (by omega), show (limit + 1 == 0) = false by simp; omega, decide_eq_false (show ¬ limit + 1 = 0 by omega)]
 simp only [cond_false]
 rw [Int.tmod_eq_emod_of_nonneg hU.1]; rfl
theorem umayB_rng {w c : Int} (h : umayB w c = true) : (0 ≤ w ∧ w ≤ 1099511627776) ∧ 1 ≤ c ∧ c ≤ 1125899906842624 := by
 simp only [umayB, Bool.and_eq_true, Bool.not_eq_true', decide_eq_false_iff_not] at h
 omega
def fuzzD (w c : Int) (k : List Int) (t : Int) : Int × Option Int := if umayB w c = true then fit64 (t - numS k (t / c) w) else (0, some 1)
theorem uat_at {N : Nat} (hN : 20 ≤ N) (w c : Int) {k : List Int} (hk : By k) (hkl : k.length = 16) {t : Int} (ht : R64 t) : f_143 N w c k t = some (fuzzD w c k t) := by
 unfold f_143 f_184 fuzzD
 rw [uchk_at]
 simp only [Option.bind_some]
 cases h : umayB w c with
 | false => rfl
 | true =>
  obtain ⟨h1, h2⟩ := umayB_rng h
  simp only [cond_true, Option.isNone_none, Bool.not_true, cond_false, if_true]
  rw [ndiv_at N ht h2.1 (by omega)]
  simp only [Option.bind_some, Option.isNone_none, Bool.not_true, cond_false]
  rw [wu64 (n := w) (by omega) (by omega), pnumber_at hN hk hkl (t / c) h1.1 (by omega)]
  simp only [Option.bind_some, Option.isNone_none, Bool.not_true, cond_false]
  have hr := numS_rng k (t / c) h1.1
  rw [wi64 (n := numS k (t / c) w) (by omega) (by omega), nsub_at N ht ⟨by omega, by omega⟩]; rfl
end Go.Proofs.YthpljlpokmoeeaaGreatDoor.Mir
namespace Go.Proofs.YthpljlpokmoeeaaGreatDoor.Mir
open Go Go.RowKit
set_option maxRecDepth 100000
end Go.Proofs.YthpljlpokmoeeaaGreatDoor.Mir
namespace Go.Proofs.YthpljlpokmoeeaaGreatDoor.Mir
open Go Go.RowKit
set_option maxRecDepth 100000
end Go.Proofs.YthpljlpokmoeeaaGreatDoor.Mir
namespace Go.Proofs.YthpljlpokmoeeaaGreatDoor.Mir
open Go Go.RowKit
set_option maxRecDepth 100000
def gI (L : List Int) (i : Nat) : Int := L.getD i 0
def okD (l : Int) (L : List Int) (i : Nat) : Bool := !decide (gI L i < -50000) && (!decide (gI L i ≥ l) && !(decide ((i : Int) > 0) && decide (gI L (i - 1) ≥ gI L i)))
def allD (l : Int) (L : List Int) : Nat → Nat → Bool
 | _, 0 => true
 | i, k + 1 => okD l L i && allD l L (i + 1) k
def tabB (b l : Int) (L : List Int) : Bool := (decide (b ≥ 0) && (decide (b ≤ 100) && (decide (l ≥ -50000) && (decide (l ≤ 50000) && decide ((L.length : Int) ≤ 32))))) && allD l L 0 L.length
theorem lcheck_loop (N : Nat) {b l : Int} {L : List Int} (hL : L.length ≤ 1000000) : ∀ (k M i : Nat), i + k = L.length → k < M → iter (b_187_0 N) M ((), L, (L.length : Int), (i : Int), (b, l, L)) = bif allD l L i k then some (.inr ()) else some (.inl (some 1)) := by
 intro k
 induction k with
 | zero =>
  intro M i hi hM
  obtain ⟨M, rfl⟩ : ∃ m, M = m + 1 := ⟨M - 1, by omega⟩
  show b_187_0 N (iter (b_187_0 N) M) _ = _
  unfold b_187_0
  simp only
  rw [decide_eq_false (show ¬ (i : Int) < (L.length : Int) by omega)]; rfl
 | succ k ih =>
  intro M i hi hM
  obtain ⟨M, rfl⟩ : ∃ m, M = m + 1 := ⟨M - 1, by omega⟩
  have ih' := ih M (i + 1) (by omega) (by omega)
  show b_187_0 N (iter (b_187_0 N) M) _ = _
  generalize iter (b_187_0 N) M = I at ih' ⊢
  unfold b_187_0
  simp only
  rw [decide_eq_true (show (i : Int) < (L.length : Int) by omega), decide_eq_true (show 0 ≤ (i : Int) ∧ (i : Int) < (L.length : Int) by omega), wi64 (n := (i : Int) + 1) (by omega) (by omega), show (i : Int) + 1 = ((i + 1 : Nat) : Int) by omega, ih']
  simp only [cond_true, Int.toNat_natCast]
  show _ = bif (okD l L i && allD l L (i + 1) k) then _ else _
  unfold okD
  show (bif decide (gI L i < -50000) then _ else (bif decide (gI L i ≥ l) then _ else _)) = _
  generalize decide (gI L i < -50000) = t3
  generalize decide (gI L i ≥ l) = t4
  by_cases h0 : (i : Int) > 0
  ·rw [decide_eq_true h0, wi64 (n := (i : Int) - 1) (by omega) (by omega), decide_eq_true (show 0 ≤ (i : Int) - 1 ∧ (i : Int) - 1 < (L.length : Int) by omega), show ((i : Int) - 1).toNat = i - 1 by omega]
   show (bif t3 then _ else (bif t4 then _ else (bif decide (gI L (i - 1) ≥ gI L i) then _ else _))) = _
   generalize decide (gI L (i - 1) ≥ gI L i) = t5
   cases t3 <;> cases t4 <;> cases t5 <;> rfl
  ·rw [decide_eq_false h0]
   cases t3 <;> cases t4 <;> rfl
theorem not_le_dec (x y : Int) : decide (x < y) = !decide (x ≥ y) := by
 by_cases h : x < y
 ·rw [decide_eq_true h, decide_eq_false (by omega)]; rfl
 ·rw [decide_eq_false h, decide_eq_true (by omega)]; rfl
theorem not_ge_dec (x y : Int) : decide (x > y) = !decide (x ≤ y) := by
 by_cases h : x > y
 ·rw [decide_eq_true h, decide_eq_false (by omega)]; rfl
 ·rw [decide_eq_false h, decide_eq_true (by omega)]; rfl
theorem lcheck_at {N : Nat} {b l : Int} {L : List Int} (hL : L.length ≤ 1000000) (hN : L.length < N) : f_187 N b l L = some (bif tabB b l L then none else some 1) := by
 have h := lcheck_loop N (b := b) (l := l) hL L.length N 0 (by omega) hN
 have h' : l_187_0 N ((), L, (L.length : Int), 0, (b, l, L)) = bif allD l L 0 L.length then some (.inr ()) else some (.inl (some 1)) := h
 unfold f_187 tabB
 rw [h', not_le_dec b 0, not_ge_dec b 100, not_le_dec l (-50000), not_ge_dec l 50000, not_ge_dec (L.length : Int) 32]
 cases decide (b ≥ 0) <;> cases decide (b ≤ 100) <;> cases decide (l ≥ -50000) <;> cases decide (l ≤ 50000) <;> cases decide ((L.length : Int) ≤ 32) <;> cases allD l L 0 L.length <;> rfl
structure Tab (b l : Int) (L : List Int) : Prop where
 b0 : 0 ≤ b
 b1 : b ≤ 100
 l0 : -50000 ≤ l
 l1 : l ≤ 50000
 len : L.length ≤ 32
 lo : ∀ i, i < L.length → -50000 ≤ gI L i
 hi : ∀ i, i < L.length → gI L i < l
 srt : ∀ i j, i < j → j < L.length → gI L i < gI L j
theorem allD_at {l : Int} {L : List Int} : ∀ {k i : Nat}, allD l L i k = true → ∀ j, i ≤ j → j < i + k → okD l L j = true
 | 0, _, _, j, h1, h2 => by omega
 | k + 1, i, h, j, h1, h2 => by
  simp only [allD, Bool.and_eq_true] at h
  by_cases hj : j = i
  ·subst hj; exact h.1
  ·exact allD_at h.2 j (by omega) (by omega)
theorem okD_step {l : Int} {L : List Int} {i : Nat} (h : okD l L (i + 1) = true) : gI L i < gI L (i + 1) := by
 unfold okD at h
 simp only [Bool.and_eq_true] at h
 have h5 := h.2.2
 rw [decide_eq_true (show ((i + 1 : Nat) : Int) > 0 by omega), Nat.add_sub_cancel] at h5
 simp only [Bool.true_and, Bool.not_eq_true', decide_eq_false_iff_not] at h5
 omega
theorem tab_of {b l : Int} {L : List Int} (h : tabB b l L = true) : Tab b l L := by
 unfold tabB at h
 simp only [Bool.and_eq_true, decide_eq_true_eq] at h
 obtain ⟨⟨h1, h2, h3, h4, h5⟩, h6⟩ := h
 have ok : ∀ i, i < L.length → okD l L i = true := fun i hi => allD_at h6 i (by omega) (by omega)
 refine ⟨by omega, by omega, by omega, by omega, by omega, fun i hi => ?_, fun i hi => ?_, fun i j => ?_⟩
 ·have := ok i hi
  unfold okD at this
  simp only [Bool.and_eq_true, Bool.not_eq_true', decide_eq_false_iff_not] at this
  omega
 ·have := ok i hi
  unfold okD at this
  simp only [Bool.and_eq_true, Bool.not_eq_true', decide_eq_false_iff_not] at this
  omega
 ·induction j with
  | zero => intro h1; omega
  | succ j ih =>
   intro h1 h2
   have a := okD_step (ok (j + 1) h2)
   by_cases hj : i = j
   ·subst hj; exact a
   ·exact Int.lt_trans (ih (by omega) (by omega)) a
def cntD (d : Int) : List Int → Nat
 | [] => 0
 | x :: r => (if x < d then 1 else 0) + cntD d r
theorem cntD_le (d : Int) : ∀ L, cntD d L ≤ L.length
 | [] => Nat.le_refl _
 | x :: r => by
  have := cntD_le d r
  simp only [cntD, List.length_cons]
  split <;> omega
def secD (b : Int) (L : List Int) (d : Int) : Int := 86400 * d + b + cntD d L
theorem cnt_uniq (d : Int) : ∀ (L : List Int) (m : Nat), m ≤ L.length → (∀ i, i < m → gI L i < d) → (∀ i, m ≤ i → i < L.length → d ≤ gI L i) → cntD d L = m
 | [], m, h, _, _ => by simp at h; simp [cntD, h]
 | x :: r, 0, h, _, h2 => by
  have hx := h2 0 (Nat.le_refl _) (by simp)
  have ih := cnt_uniq d r 0 (Nat.zero_le _) (fun i hi => by omega) (fun i _ hi => h2 (i + 1) (Nat.zero_le _) (by simp; omega))
  have hx' : d ≤ x := hx
  simp only [cntD]
  rw [if_neg (by omega), ih]
 | x :: r, m + 1, h, h1, h2 => by
  have hx := h1 0 (by omega)
  have ih := cnt_uniq d r m (by simp at h; omega) (fun i hi => h1 (i + 1) (by omega)) (fun i h3 hi => h2 (i + 1) (by omega) (by simp; omega))
  have hx' : x < d := hx
  simp only [cntD]
  rw [if_pos hx', ih]; omega
theorem cnt_mono {d e : Int} (h : d ≤ e) : ∀ L, cntD d L ≤ cntD e L
 | [] => Nat.le_refl _
 | x :: r => by
  have := cnt_mono h r
  simp only [cntD]
  split <;> split <;> omega
theorem secD_step (b : Int) (L : List Int) (d : Int) : secD b L d + 86400 ≤ secD b L (d + 1) := by
 have := cnt_mono (show d ≤ d + 1 by omega) L
 unfold secD; omega
theorem secD_mono (b : Int) (L : List Int) {d e : Int} (h : d ≤ e) : secD b L d ≤ secD b L e := by
 have := cnt_mono h L
 unfold secD; omega
theorem secD_lt {b : Int} {L : List Int} {d e : Int} (h : secD b L d < secD b L e) : d < e := by
 rcases Int.lt_or_le d e with h1 | h1
 ·exact h1
 ·have := secD_mono b L h1; omega
theorem less_at (N : Nat) (a b : Int) : f_226 N a b = some (decide (a < b)) := by
 unfold f_226 f_220
 simp only [bne_self_eq_false, Option.bind_some, cond_false]
theorem lmid_eq {i j : Nat} (h : i + j < 4000000) : IntKind.i64.wrap ((IntKind.u64.wrap (IntKind.i64.wrap ((i : Int) + (j : Int)))) / 2 ^ (min (Int.toNat 1) IntKind.u64.bits)) = (((i + j) / 2 : Nat) : Int) := by
 have e : (2 : Int) ^ (min (Int.toNat 1) IntKind.u64.bits) = 2 := by decide
 rw [e, wi64 (n := (i : Int) + (j : Int)) (by omega) (by omega), wu64 (by omega) (by omega), wi64 (by omega) (by omega)]
 omega
theorem bsi_loop (N : Nat) {L : List Int} {t : Int} (hL : L.length ≤ 1000000) (hs : ∀ i j, i < j → j < L.length → gI L i < gI L j) : ∀ (k M i j : Nat), i + k = j → j ≤ L.length → k < M → (∀ q, q < i → gI L q < t) → (∀ q, j ≤ q → q < L.length → t ≤ gI L q) →
  iter (b_217_0 N) M (L, t, (L.length : Int), (i : Int), (j : Int)) = some (L, t, (L.length : Int), (cntD t L : Int)) := by
 intro k
 induction k using Nat.strongRecOn with
 | ind k ih =>
  intro M i j hk hj hM hlo hhi
  obtain ⟨M, rfl⟩ : ∃ m, M = m + 1 := ⟨M - 1, by omega⟩
  by_cases hij : i < j
  rotate_left
  ·obtain rfl : i = j := by omega
   rw [cnt_uniq t L i hj hlo hhi]
   show b_217_0 N (iter (b_217_0 N) M) _ = _
   unfold b_217_0
   simp only
   rw [decide_eq_false (show ¬ (i : Int) < (i : Int) by omega)]; rfl
  ·have hm1 : i ≤ (i + j) / 2 := by omega
   have hm2 : (i + j) / 2 < j := by omega
   have e0 : ∀ I, b_217_0 N I (L, t, (L.length : Int), (i : Int), (j : Int)) = bif decide (gI L ((i + j) / 2) < t) then I (L, t, (L.length : Int), (((i + j) / 2 + 1 : Nat) : Int), (j : Int)) else I (L, t, (L.length : Int), (i : Int), (((i + j) / 2 : Nat) : Int)) := fun I => by
    unfold b_217_0
    simp only
    rw [lmid_eq (by omega), decide_eq_true (show (i : Int) < (j : Int) by omega), decide_eq_true (show 0 ≤ (((i + j) / 2 : Nat) : Int) ∧ (((i + j) / 2 : Nat) : Int) < (L.length : Int) by omega), less_at, wi64 (n := (((i + j) / 2 : Nat) : Int) + 1) (by omega) (by omega), Int.toNat_natCast]
    rfl
   show b_217_0 N (iter (b_217_0 N) M) (L, t, (L.length : Int), (i : Int), (j : Int)) = _
   rw [e0]
   by_cases h : gI L ((i + j) / 2) < t
   ·rw [decide_eq_true h]
    exact ih (j - ((i + j) / 2 + 1)) (by omega) M ((i + j) / 2 + 1) j (by omega) hj (by omega) (fun q hq => by
     by_cases hq2 : q = (i + j) / 2
     ·subst hq2; exact h
     ·exact Int.lt_trans (hs q ((i + j) / 2) (by omega) (by omega)) h) hhi
   ·rw [decide_eq_false h]
    exact ih ((i + j) / 2 - i) (by omega) M i ((i + j) / 2) (by omega) (by omega) (by omega) hlo (fun q h1 h2 => by
     by_cases hq2 : q = (i + j) / 2
     ·subst hq2; omega
     ·have := hs ((i + j) / 2) q (by omega) h2
      omega)
theorem bsi_at {N : Nat} {L : List Int} (t : Int) (hL : L.length ≤ 1000000) (hN : L.length < N) (hs : ∀ i j, i < j → j < L.length → gI L i < gI L j) : ∃ f, f_217 N L t = some ((cntD t L : Int), f) := by
 have h := bsi_loop N (t := t) hL hs L.length N 0 L.length (by omega) (Nat.le_refl _) hN (fun q hq => by omega) (fun q h1 h2 => by omega)
 have h' : l_217_0 N (L, t, (L.length : Int), 0, (L.length : Int)) = some (L, t, (L.length : Int), (cntD t L : Int)) := h
 unfold f_217
 rw [h']
 simp only [Option.bind_some]
 by_cases hm : (cntD t L : Int) < (L.length : Int)
 ·rw [decide_eq_true hm, decide_eq_true (show 0 ≤ (cntD t L : Int) ∧ (cntD t L : Int) < (L.length : Int) by omega)]
  simp only [cond_true]
  cases (L.getD (Int.toNat (cntD t L : Int)) 0 == t) with
  | true => exact ⟨true, rfl⟩
  | false =>
   unfold f_227
   simp only [bne_self_eq_false, Option.bind_some, cond_false]
   exact ⟨false, rfl⟩
 ·rw [decide_eq_false hm]; exact ⟨false, rfl⟩
theorem ahd_at {N : Nat} {b l : Int} {L : List Int} (T : Tab b l L) (hN : 33 ≤ N) (d : Int) : f_204 N b l L d = some (b + cntD d L) := by
 have h1 := T.len
 have h2 := T.b0
 have h3 := T.b1
 obtain ⟨f, hf⟩ := bsi_at (N := N) d (by omega) (by omega) T.srt
 have h4 := cntD_le d L
 unfold f_204
 rw [hf]
 simp only [Option.bind_some]
 rw [wi64 (by omega) (by omega)]
theorem begin_at {N : Nat} {b l : Int} {L : List Int} (T : Tab b l L) (hN : 33 ≤ N) {d : Int} (d0 : -1000000 ≤ d) (d1 : d ≤ 1000000) : f_202 N b l L d = some (secD b L d) := by
 have h1 := T.len
 have h2 := T.b0
 have h3 := T.b1
 have h4 := cntD_le d L
 unfold f_202
 rw [ahd_at T hN]
 simp only [Option.bind_some]
 have e : d * 86400 + (b + (cntD d L : Int)) = secD b L d := by unfold secD; omega
 rw [wi64 (n := d * 86400) (by omega) (by omega), wi64 (by omega) (by omega), e]
theorem div9_at (N : Nat) {a : Int} (h : -9223372036854775808 ≤ a) (h2 : a < 9223372036854775808) : f_94 N a 1000000000 = some (a / 1000000000, a % 1000000000, none) := by
 unfold f_94
 rcases Int.lt_or_le a 0 with h0 | h0
 ·obtain ⟨n, rfl⟩ : ∃ n, a = -n := ⟨-a, by omega⟩
  rw [Int.neg_tdiv, Int.neg_tmod, Int.tdiv_eq_ediv_of_nonneg (by omega), Int.tmod_eq_emod_of_nonneg (by omega)]
  by_cases h3 : n % 1000000000 = 0
  ·rw [decide_eq_false (show ¬ -(n % 1000000000) < 0 by omega), wi64 (n := -(n / 1000000000)) (by omega) (by omega)]
   show some (_, _, none) = _
   rw [show -(n / 1000000000) = -n / 1000000000 by omega, show -(n % 1000000000) = -n % 1000000000 by omega]
  ·rw [decide_eq_true (show -(n % 1000000000) < 0 by omega), wi64 (n := -(n / 1000000000)) (by omega) (by omega), wi64 (n := -(n / 1000000000) - 1) (by omega) (by omega), wi64 (n := -(n % 1000000000) + 1000000000) (by omega) (by omega)]
   show some (_, _, none) = _
   rw [show -(n / 1000000000) - 1 = -n / 1000000000 by omega, show -(n % 1000000000) + 1000000000 = -n % 1000000000 by omega]
 ·rw [Int.tdiv_eq_ediv_of_nonneg h0, Int.tmod_eq_emod_of_nonneg h0, decide_eq_false (show ¬ a % 1000000000 < 0 by omega), wi64 (n := a / 1000000000) (by omega) (by omega)]
  rfl
theorem div864_at (N : Nat) {a : Int} (h : -9223372036854775808 ≤ a) (h2 : a < 9223372036854775808) : f_94 N a 86400 = some (a / 86400, a % 86400, none) := by
 unfold f_94
 rcases Int.lt_or_le a 0 with h0 | h0
 ·obtain ⟨n, rfl⟩ : ∃ n, a = -n := ⟨-a, by omega⟩
  rw [Int.neg_tdiv, Int.neg_tmod, Int.tdiv_eq_ediv_of_nonneg (by omega), Int.tmod_eq_emod_of_nonneg (by omega)]
  by_cases h3 : n % 86400 = 0
  ·rw [decide_eq_false (show ¬ -(n % 86400) < 0 by omega), wi64 (n := -(n / 86400)) (by omega) (by omega)]
   show some (_, _, none) = _
   rw [show -(n / 86400) = -n / 86400 by omega, show -(n % 86400) = -n % 86400 by omega]
  ·rw [decide_eq_true (show -(n % 86400) < 0 by omega), wi64 (n := -(n / 86400)) (by omega) (by omega), wi64 (n := -(n / 86400) - 1) (by omega) (by omega), wi64 (n := -(n % 86400) + 86400) (by omega) (by omega)]
   show some (_, _, none) = _
   rw [show -(n / 86400) - 1 = -n / 86400 by omega, show -(n % 86400) + 86400 = -n % 86400 by omega]
 ·rw [Int.tdiv_eq_ediv_of_nonneg h0, Int.tmod_eq_emod_of_nonneg h0, decide_eq_false (show ¬ a % 86400 < 0 by omega), wi64 (n := a / 86400) (by omega) (by omega)]
  rfl
def dayS (b : Int) (L : List Int) (s : Int) : Int := if secD b L (s / 86400) ≤ s then s / 86400 else s / 86400 - 1
theorem dayS_spec {b l : Int} {L : List Int} (T : Tab b l L) (s : Int) : secD b L (dayS b L s) ≤ s ∧ s < secD b L (dayS b L s + 1) := by
 have h1 := T.len
 have h2 := T.b0
 have h3 := T.b1
 have h5 := cntD_le (s / 86400 - 1) L
 unfold dayS
 by_cases h : secD b L (s / 86400) ≤ s
 ·rw [if_pos h]
  refine ⟨h, ?_⟩
  unfold secD; omega
 ·rw [if_neg h]
  refine ⟨?_, by rw [Int.sub_add_cancel]; omega⟩
  unfold secD; omega
theorem utc_loop (N : Nat) (hN : 33 ≤ N) {b l : Int} {L : List Int} (T : Tab b l L) {s : Int} (nano : Int) (z : Int × Int × Int) {e : Int} (e0 : -900000 ≤ e) (e1 : secD b L e ≤ s) (e2 : s < secD b L (e + 1)) : ∀ (k M : Nat) (d : Int), d = e + k → d ≤ 900000 → k < M →
  iter (b_188_0 N) M ((), (), s, nano, d, (b, l, L), z) = some ((), (), s, nano, e, (b, l, L), z) := by
 intro k
 induction k with
 | zero =>
  intro M d hd h2 hM
  obtain ⟨M, rfl⟩ : ∃ m, M = m + 1 := ⟨M - 1, by omega⟩
  obtain rfl : d = e := by omega
  show b_188_0 N (iter (b_188_0 N) M) _ = _
  unfold b_188_0
  simp only
  rw [begin_at T hN (by omega) (by omega)]
  simp only [Option.bind_some]
  rw [decide_eq_false (show ¬ s < secD b L d by omega)]; rfl
 | succ k ih =>
  intro M d hd h2 hM
  obtain ⟨M, rfl⟩ : ∃ m, M = m + 1 := ⟨M - 1, by omega⟩
  have ih' := ih M (d - 1) (by omega) (by omega) (by omega)
  have hs : s < secD b L d := Int.lt_of_lt_of_le e2 (secD_mono b L (by omega))
  show b_188_0 N (iter (b_188_0 N) M) _ = _
  generalize iter (b_188_0 N) M = I at ih' ⊢
  unfold b_188_0
  simp only
  rw [begin_at T hN (by omega) (by omega)]
  simp only [Option.bind_some]
  rw [decide_eq_true hs, wi64 (n := d - 1) (by omega) (by omega), ih']; rfl
def utcE (b l : Int) (L : List Int) (tai : Int) : Int :=
 if tai ≤ -4611686018427387904 ∨ tai ≥ 4611686018427387904 then 2 else if tai / 1000000000 < secD b L (-50000) then 2 else if tai / 1000000000 ≥ secD b L l then 10 else 0
theorem utc_at {N : Nat} (hN : 33 ≤ N) {b l : Int} {L : List Int} (h : tabB b l L = true) {tai : Int} (t0 : -9223372036854775808 ≤ tai) (t1 : tai < 9223372036854775808) :
  f_188 N b l L tai = some (if utcE b l L tai = 0 then ((dayS b L (tai / 1000000000), tai / 1000000000 - secD b L (dayS b L (tai / 1000000000)), tai % 1000000000), none) else ((0, 0, 0), some (utcE b l L tai))) := by
 have T := tab_of h
 have h1 := T.len
 have l0 := T.l0
 have l1 := T.l1
 unfold f_188
 rw [lcheck_at (by omega) (by omega), h, div9_at N t0 t1]
 simp only [cond_true, Option.bind_some, Option.isNone_none, Bool.not_true, cond_false]
 by_cases g1 : tai ≤ -4611686018427387904
 ·have hE : utcE b l L tai = 2 := by unfold utcE; rw [if_pos (.inl g1)]
  rw [decide_eq_true g1, hE]; rfl
 rw [decide_eq_false g1, cond_false]
 by_cases g2 : tai ≥ 4611686018427387904
 ·have hE : utcE b l L tai = 2 := by unfold utcE; rw [if_pos (.inr g2)]
  rw [decide_eq_true g2, hE]; rfl
 rw [decide_eq_false g2, cond_false, begin_at T hN (by omega) (by omega)]
 simp only [Option.bind_some]
 by_cases g3 : tai / 1000000000 < secD b L (-50000)
 ·have hE : utcE b l L tai = 2 := by unfold utcE; rw [if_neg (by omega), if_pos g3]
  rw [decide_eq_true g3, hE]; rfl
 rw [decide_eq_false g3, cond_false, begin_at T hN (by omega) (by omega)]
 simp only [Option.bind_some]
 by_cases g4 : tai / 1000000000 ≥ secD b L l
 ·have hE : utcE b l L tai = 10 := by unfold utcE; rw [if_neg (by omega), if_neg g3, if_pos g4]
  rw [decide_eq_true g4, hE]; rfl
 have hE : utcE b l L tai = 0 := by unfold utcE; rw [if_neg (by omega), if_neg g3, if_neg g4]
 rw [hE, decide_eq_false g4, cond_false, div864_at N (by omega) (by omega)]
 simp only [Option.bind_some, Option.isNone_none, Bool.not_true, cond_false]
 obtain ⟨s1, s2⟩ := dayS_spec T (tai / 1000000000)
 have hd : dayS b L (tai / 1000000000) = tai / 1000000000 / 86400 ∨ dayS b L (tai / 1000000000) = tai / 1000000000 / 86400 - 1 := by unfold dayS; split <;> omega
 have hb : -900000 ≤ tai / 1000000000 / 86400 ∧ tai / 1000000000 / 86400 ≤ 800000 := by omega
 have hlp := utc_loop N hN T (tai % 1000000000) (0, 0, 0) (by omega) s1 s2 (tai / 1000000000 / 86400 - dayS b L (tai / 1000000000)).toNat N (tai / 1000000000 / 86400) (by omega) (by omega) (by omega)
 have hlp' : l_188_0 N ((), (), tai / 1000000000, tai % 1000000000, tai / 1000000000 / 86400, (b, l, L), (0, 0, 0)) = some ((), (), tai / 1000000000, tai % 1000000000, dayS b L (tai / 1000000000), (b, l, L), (0, 0, 0)) := hlp
 rw [hlp']
 simp only [Option.bind_some]
 rw [begin_at T hN (by omega) (by omega)]
 simp only [Option.bind_some]
 have hw := secD_step b L (dayS b L (tai / 1000000000))
 have c1 := cntD_le (dayS b L (tai / 1000000000)) L
 have c2 := T.b0
 have c3 := T.b1
 rw [wi64 (n := tai / 1000000000 - _) (by unfold secD; omega) (by unfold secD; omega), if_pos trivial]
theorem known_at {N : Nat} {b l : Int} {L : List Int} (hN : 33 ≤ N) (h : tabB b l L = true) (d : Int) : f_203 N b l L d = some (if d < -50000 then some 2 else if d ≥ l then some 10 else none) := by
 have T := tab_of h
 have h1 := T.len
 unfold f_203
 rw [lcheck_at (by omega) (by omega), h]
 simp only [cond_true, Option.bind_some, Option.isNone_none, Bool.not_true, cond_false]
 by_cases g1 : d < -50000
 ·rw [decide_eq_true g1, if_pos g1]; rfl
 rw [decide_eq_false g1, if_neg g1]
 by_cases g2 : d ≥ l
 ·rw [decide_eq_true g2, if_pos g2]; rfl
 rw [decide_eq_false g2, if_neg g2]; rfl
theorem ahead_at {N : Nat} {b l : Int} {L : List Int} (hN : 33 ≤ N) (h : tabB b l L = true) {d : Int} (d0 : -50000 ≤ d) (d1 : d < l) : f_189 N b l L d = some (b + cntD d L, none) := by
 unfold f_189
 rw [known_at hN h, if_neg (by omega), if_neg (by omega), ahd_at (tab_of h) hN]; rfl
end Go.Proofs.YthpljlpokmoeeaaGreatDoor.Mir
namespace Go.Proofs.YthpljlpokmoeeaaGreatDoor.Mir
open Go Go.RowKit
set_option maxRecDepth 100000
def SmOk (k bf af : Int) : Prop := (0 ≤ bf ∧ bf ≤ 43200 ∧ 0 ≤ af ∧ af ≤ 43200) ∧ ((k = 0 ∧ bf + af = 0) ∨ (k = 1 ∧ bf + af ≥ 1) ∨ (k = 2 ∧ bf + af ≥ 3600))
instance (k bf af : Int) : Decidable (SmOk k bf af) := by unfold SmOk; infer_instance
theorem scheck_at (N : Nat) (k bf af : Int) : f_106 N k bf af = some (if SmOk k bf af then none else some 1) := by
 unfold f_106
 by_cases g1 : bf < 0
 ·rw [decide_eq_true g1, if_neg (by unfold SmOk; omega)]; rfl
 rw [decide_eq_false g1, cond_false]
 by_cases g2 : bf > 43200
 ·rw [decide_eq_true g2, if_neg (by unfold SmOk; omega)]; rfl
 rw [decide_eq_false g2, cond_false]
 by_cases g3 : af < 0
 ·rw [decide_eq_true g3, if_neg (by unfold SmOk; omega)]; rfl
 rw [decide_eq_false g3, cond_false]
 by_cases g4 : af > 43200
 ·rw [decide_eq_true g4, if_neg (by unfold SmOk; omega)]; rfl
 rw [decide_eq_false g4, cond_false, wi64 (n := bf + af) (by omega) (by omega)]
 by_cases k0 : k = 0
 ·subst k0
  rw [beq_self_eq_true, cond_true]
  by_cases h : bf + af = 0
  ·rw [h, beq_self_eq_true, if_pos (by unfold SmOk; omega)]; rfl
  ·rw [beq_false_of_ne h, if_neg (by unfold SmOk; omega)]; rfl
 rw [beq_false_of_ne k0, cond_false]
 by_cases k1 : k = 1
 ·subst k1
  rw [beq_self_eq_true, cond_true]
  by_cases h : bf + af > 0
  ·rw [decide_eq_true h, if_pos (by unfold SmOk; omega)]; rfl
  ·rw [decide_eq_false h, if_neg (by unfold SmOk; omega)]; rfl
 rw [beq_false_of_ne k1, cond_false]
 by_cases k2 : k = 2
 ·subst k2
  rw [beq_self_eq_true, cond_true]
  by_cases h : bf + af ≥ 3600
  ·rw [decide_eq_true h, if_pos (by unfold SmOk; omega)]; rfl
  ·rw [decide_eq_false h, if_neg (by unfold SmOk; omega)]; rfl
 rw [beq_false_of_ne k2, if_neg (by unfold SmOk; omega)]; rfl
def endW (b : Int) (L : List Int) (i : Nat) : Int := (gI L i + 1) * 86400 + b + i + 1
theorem endW_lim {b l : Int} {L : List Int} (T : Tab b l L) {i : Nat} (hi : i < L.length) : -4321000000 ≤ endW b L i ∧ endW b L i ≤ 4321000000 := by
 have a := T.lo i hi
 have c := T.hi i hi
 have := T.l1
 have := T.len
 have := T.b0
 have := T.b1
 unfold endW; omega
theorem swind_at (N : Nat) {b l : Int} {L : List Int} (T : Tab b l L) (k : Int) {bf af : Int} (f0 : 0 ≤ bf) (f1 : bf ≤ 43200) (a0 : 0 ≤ af) (a1 : af ≤ 43200) {i : Nat} (hi : i < L.length) : f_149 N k bf af b l L (i : Int) = some (endW b L i - 1 - bf, endW b L i + af) := by
 have a := T.lo i hi
 have c := T.hi i hi
 have d1 := T.l1
 have d2 := T.len
 have d3 := T.b0
 have d4 := T.b1
 unfold f_149
 rw [decide_eq_true (show 0 ≤ (i : Int) ∧ (i : Int) < (L.length : Int) by omega), cond_true, Int.toNat_natCast]
 show some (IntKind.i64.wrap (IntKind.i64.wrap (IntKind.i64.wrap (IntKind.i64.wrap (IntKind.i64.wrap (IntKind.i64.wrap (IntKind.i64.wrap (gI L i + 1) * 86400) + b) + (i : Int)) + 1) - 1) - bf), IntKind.i64.wrap (IntKind.i64.wrap (IntKind.i64.wrap (IntKind.i64.wrap (IntKind.i64.wrap (IntKind.i64.wrap (gI L i + 1) * 86400) + b) + (i : Int)) + 1) + af)) = _
 have e : IntKind.i64.wrap (IntKind.i64.wrap (IntKind.i64.wrap (IntKind.i64.wrap (IntKind.i64.wrap (gI L i + 1) * 86400) + b) + (i : Int)) + 1) = endW b L i := by
  rw [wi64 (n := gI L i + 1) (by omega) (by omega), wi64 (n := (gI L i + 1) * 86400) (by omega) (by omega), wi64 (n := (gI L i + 1) * 86400 + b) (by omega) (by omega), wi64 (n := (gI L i + 1) * 86400 + b + (i : Int)) (by omega) (by omega), wi64 (by omega) (by omega)]
  rfl
 have hl := endW_lim T hi
 rw [e, wi64 (n := endW b L i - 1) (by omega) (by omega), wi64 (n := endW b L i - 1 - bf) (by omega) (by omega), wi64 (n := endW b L i + af) (by omega) (by omega)]
theorem cnt_next {b l : Int} {L : List Int} (T : Tab b l L) {i : Nat} (hi : i < L.length) : cntD (gI L i + 1) L = i + 1 := by
 refine cnt_uniq _ L (i + 1) (by omega) (fun q hq => ?_) (fun q h1 h2 => ?_)
 ·by_cases h : q = i
  ·subst h; omega
  ·have := T.srt q i (by omega) hi; omega
 ·have := T.srt i q (by omega) h2; omega
theorem cnt_here {b l : Int} {L : List Int} (T : Tab b l L) {i : Nat} (hi : i < L.length) : cntD (gI L i) L = i := by
 refine cnt_uniq _ L i (by omega) (fun q hq => T.srt q i hq hi) (fun q h1 h2 => ?_)
 by_cases h : q = i
 ·subst h; omega
 ·have := T.srt i q (by omega) h2; omega
def badW (k bf af b : Int) (L : List Int) (i : Nat) : Bool := decide (k ≠ 0) && decide (endW b L i - 1 - bf < endW b L (i - 1) + af)
def fitW_ (k bf af b : Int) (L : List Int) : Nat → Nat → Bool
 | _, 0 => true
 | i, n + 1 => !badW k bf af b L i && fitW_ k bf af b L (i + 1) n
theorem sfits_loop (N : Nat) {b l : Int} {L : List Int} (T : Tab b l L) {k bf af : Int} (f0 : 0 ≤ bf) (f1 : bf ≤ 43200) (a0 : 0 ≤ af) (a1 : af ≤ 43200) : ∀ (n M i : Nat), 1 ≤ i → i + n = L.length → n < M →
  iter (b_147_0 N) M ((), (), endW b L (i - 1) + af, (L.length : Int), (i : Int), (k, bf, af), (b, l, L)) = bif fitW_ k bf af b L i n then some (.inr ()) else some (.inl (some 9)) := by
 intro n
 have hlen := T.len
 induction n with
 | zero =>
  intro M i h1 hi hM
  obtain ⟨M, rfl⟩ : ∃ m, M = m + 1 := ⟨M - 1, by omega⟩
  show b_147_0 N (iter (b_147_0 N) M) _ = _
  unfold b_147_0
  simp only
  rw [decide_eq_false (show ¬ (i : Int) < (L.length : Int) by omega)]; rfl
 | succ n ih =>
  intro M i h1 hi hM
  obtain ⟨M, rfl⟩ : ∃ m, M = m + 1 := ⟨M - 1, by omega⟩
  have ih' := ih M (i + 1) (by omega) (by omega) (by omega)
  rw [Nat.add_sub_cancel] at ih'
  show b_147_0 N (iter (b_147_0 N) M) _ = _
  generalize iter (b_147_0 N) M = I at ih' ⊢
  unfold b_147_0
  simp only
  rw [decide_eq_true (show (i : Int) < (L.length : Int) by omega), swind_at N T k f0 f1 a0 a1 (by omega), wi64 (n := (i : Int) + 1) (by omega) (by omega), show (i : Int) + 1 = ((i + 1 : Nat) : Int) by omega]
  simp only [cond_true, Option.bind_some]
  rw [ih']
  show _ = bif (!(decide (k ≠ 0) && decide (endW b L i - 1 - bf < endW b L (i - 1) + af)) && fitW_ k bf af b L (i + 1) n) then _ else _
  by_cases hk : k = 0
  ·subst hk
   rw [bne_self_eq_false, decide_eq_false (show ¬ ((0 : Int) ≠ 0) by simp)]; rfl
  ·rw [bne_iff_ne.2 hk, decide_eq_true hk]
   cases decide (endW b L i - 1 - bf < endW b L (i - 1) + af) <;> rfl
def fitsE (k bf af b l : Int) (L : List Int) : Int := if SmOk k bf af ∧ tabB b l L = true then (bif fitW_ k bf af b L 1 (L.length - 1) then 0 else 9) else 1
theorem sfits_at {N : Nat} (hN : 100 ≤ N) {b l : Int} {L : List Int} (hL : L.length ≤ 40) (k bf af : Int) : f_147 N k bf af b l L = some (if fitsE k bf af b l L = 0 then none else some (fitsE k bf af b l L)) := by
 unfold f_147
 rw [scheck_at]
 by_cases hs : SmOk k bf af
 rotate_left
 ·have hE : fitsE k bf af b l L = 1 := by unfold fitsE; rw [if_neg (fun h => hs h.1)]
  rw [if_neg hs, hE]; rfl
 rw [if_pos hs]
 simp only [Option.bind_some, Option.isNone_none, Bool.not_true, cond_false]
 rw [lcheck_at (by omega) (by omega)]
 cases ht : tabB b l L with
 | false =>
  have hE : fitsE k bf af b l L = 1 := by unfold fitsE; rw [if_neg (fun h => by rw [ht] at h; cases h.2)]
  rw [hE]; rfl
 | true =>
  have T := tab_of ht
  have hlen := T.len
  have hE : fitsE k bf af b l L = bif fitW_ k bf af b L 1 (L.length - 1) then 0 else 9 := by unfold fitsE; rw [if_pos ⟨hs, ht⟩]
  rw [hE]
  simp only [cond_true, Option.bind_some, Option.isNone_none, Bool.not_true, cond_false]
  have hs' := hs
  unfold SmOk at hs'
  obtain ⟨⟨f0, f1, a0, a1⟩, _⟩ := hs'
  have hlp : l_147_0 N ((), (), -9223372036854775808, (L.length : Int), 0, (k, bf, af), (b, l, L)) = bif fitW_ k bf af b L 1 (L.length - 1) then some (.inr ()) else some (.inl (some 9)) := by
   obtain ⟨M, rfl⟩ : ∃ m, N = m + 1 := ⟨N - 1, by omega⟩
   show b_147_0 (M + 1) (iter (b_147_0 (M + 1)) M) ((), (), -9223372036854775808, (L.length : Int), ((0 : Nat) : Int), (k, bf, af), (b, l, L)) = _
   by_cases h0 : L.length = 0
   ·unfold b_147_0
    simp only
    rw [decide_eq_false (show ¬ ((0 : Nat) : Int) < (L.length : Int) by omega), h0]; rfl
   ·have hlim := endW_lim T (show 0 < L.length by omega)
    have hl := sfits_loop (M + 1) T (k := k) f0 f1 a0 a1 (L.length - 1) M 1 (Nat.le_refl _) (by omega) (by omega)
    rw [Nat.sub_self] at hl
    rw [← hl]
    generalize iter (b_147_0 (M + 1)) M = I
    unfold b_147_0
    simp only
    rw [decide_eq_true (show ((0 : Nat) : Int) < (L.length : Int) by omega), swind_at (M + 1) T k f0 f1 a0 a1 (show 0 < L.length by omega)]
    simp only [cond_true, Option.bind_some]
    rw [decide_eq_false (show ¬ endW b L 0 - 1 - bf < -9223372036854775808 by omega)]
    cases (k != 0) <;> rfl
  rw [hlp]
  cases fitW_ k bf af b L 1 (L.length - 1) <;> rfl
def lenS (bf af : Int) : Int := (bf + 1 + af) * 1000000000
def softQ (Ln g : Int) : Int := g * (2000000000 * g / Ln)
def lagV (k Ln g : Int) : Int :=
 if k = 1 then 1000000000 - (Ln - g) * 1000000000 / Ln
 else if g ≥ Ln / 2 then 1000000000 - softQ Ln (Ln - g) / Ln
 else if softQ Ln g % Ln > 0 then softQ Ln g / Ln + 1 else softQ Ln g / Ln
def LagOk (k bf af g : Int) : Prop := SmOk k bf af ∧ k ≠ 0 ∧ 0 ≤ g ∧ g ≤ lenS bf af
instance (k bf af g : Int) : Decidable (LagOk k bf af g) := by unfold LagOk; infer_instance
theorem i64B_t {x : Int} (h0 : -9223372036854775808 ≤ x) (h1 : x < 9223372036854775808) : i64B x = true := decide_eq_true ⟨h0, h1⟩
theorem part_le {a g Ln : Int} (a0 : 0 ≤ a) (g0 : 0 ≤ g) (h : g ≤ Ln) (hL : 0 < Ln) : 0 ≤ a * g / Ln ∧ a * g / Ln ≤ a := by
 refine ⟨Int.ediv_nonneg (Int.mul_nonneg a0 g0) (by omega), ?_⟩
 have h1 := Int.ediv_le_ediv hL (Int.mul_le_mul_of_nonneg_left h a0)
 rwa [Int.mul_ediv_cancel _ (by omega)] at h1
theorem softQ_lim {Ln g : Int} (g0 : 0 ≤ g) (h : g ≤ Ln) (hL : 0 < Ln) (hL2 : Ln ≤ 86401000000000) : 0 ≤ 2000000000 * g / Ln ∧ 2000000000 * g / Ln ≤ 2000000000 ∧ 0 ≤ softQ Ln g ∧ softQ Ln g ≤ 172802000000000000000000 ∧ 0 ≤ softQ Ln g / Ln ∧ softQ Ln g / Ln ≤ 2000000000 := by
 obtain ⟨r0, r1⟩ := part_le (a := 2000000000) (by decide) g0 h hL
 have q0 : 0 ≤ softQ Ln g := Int.mul_nonneg g0 r0
 have q1 : softQ Ln g ≤ 86401000000000 * 2000000000 := Int.mul_le_mul (by omega) r1 r0 (by decide)
 have q2 := part_le (a := 2000000000 * g / Ln) r0 g0 h hL
 have e : softQ Ln g = 2000000000 * g / Ln * g := Int.mul_comm _ _
 rw [e]
 rw [e] at q0 q1
 exact ⟨r0, r1, q0, by omega, q2.1, Int.le_trans q2.2 r1⟩
theorem soft_at (N : Nat) {Ln g : Int} (g0 : 0 ≤ g) (h : g ≤ Ln) (hL : 0 < Ln) (hL2 : Ln ≤ 86401000000000) : f_191 N g Ln = some (softQ Ln g / Ln, softQ Ln g % Ln, none) := by
 obtain ⟨r0, r1, q0, q1, s0, s1⟩ := softQ_lim g0 h hL hL2
 have e1 : mdF 2000000000 g Ln = some (2000000000 * g / Ln, none) := by
  unfold mdF fitP
  rw [i64B_t (x := 2000000000) (by decide) (by decide), i64B_t (x := g) (by omega) (by omega), i64B_t (x := Ln) (by omega) (by omega), decide_eq_false (by omega), i64B_t (x := 2000000000 * g / Ln) (by omega) (by omega)]; rfl
 have e2 : wmulF g (2000000000 * g / Ln) = some (hlD (softQ Ln g)) := by
  unfold wmulF
  rw [i64B_t (x := g) (by omega) (by omega), i64B_t (x := 2000000000 * g / Ln) (by omega) (by omega)]; rfl
 have e3 : wdivF (((hlD (softQ Ln g)).1, (hlD (softQ Ln g)).2), Ln) = some (hlD (softQ Ln g / Ln), softQ Ln g % Ln, none) := by
  unfold wdivF
  have hv : hlV ((hlD (softQ Ln g)).1, (hlD (softQ Ln g)).2) = softQ Ln g := hlD_hlV _
  have u : u64B (hlD (softQ Ln g)).2 = true := u64B_iff.2 (by unfold hlD; simp only; omega)
  have w : i64B (hlD (softQ Ln g)).1 = true := i64B_t (by unfold hlD; simp only; omega) (by unfold hlD; simp only; omega)
  show (bif i64B (hlD (softQ Ln g)).1 && (u64B (hlD (softQ Ln g)).2 && i64B Ln) then some (bif decide (Ln < 1) then ((0, 0), 0, some 1) else (hlD (hlV ((hlD (softQ Ln g)).1, (hlD (softQ Ln g)).2) / Ln), hlV ((hlD (softQ Ln g)).1, (hlD (softQ Ln g)).2) % Ln, none)) else none) = _
  rw [hv, u, w, i64B_t (x := Ln) (by omega) (by omega), decide_eq_false (show ¬ Ln < 1 by omega)]; rfl
 have e4 : wintF ((hlD (softQ Ln g / Ln)).1, (hlD (softQ Ln g / Ln)).2) = some (softQ Ln g / Ln, none) := by
  unfold wintF fitP
  have hv : hlV ((hlD (softQ Ln g / Ln)).1, (hlD (softQ Ln g / Ln)).2) = softQ Ln g / Ln := hlD_hlV _
  have u : u64B (hlD (softQ Ln g / Ln)).2 = true := u64B_iff.2 (by unfold hlD; simp only; omega)
  have w : i64B (hlD (softQ Ln g / Ln)).1 = true := i64B_t (by unfold hlD; simp only; omega) (by unfold hlD; simp only; omega)
  simp only [hv]
  rw [u, w, i64B_t (x := softQ Ln g / Ln) (by omega) (by omega)]; rfl
 unfold f_191
 rw [e1]
 simp only [Option.bind_some, Option.isNone_none, Bool.not_true, cond_false]
 rw [e2]
 simp only [Option.bind_some]
 rw [e3]
 simp only [Option.bind_some, Option.isNone_none, Bool.not_true, cond_false]
 rw [e4]; rfl
theorem smOk_lim {k bf af : Int} (h : SmOk k bf af) : 0 ≤ bf ∧ bf ≤ 43200 ∧ 0 ≤ af ∧ af ≤ 43200 ∧ 1000000000 ≤ lenS bf af ∧ lenS bf af ≤ 86401000000000 ∧ 0 ≤ k ∧ k ≤ 2 := by
 unfold SmOk at h
 unfold lenS; omega
theorem slag_at (N : Nat) (k bf af g : Int) : f_150 N k bf af g = some (if LagOk k bf af g then (lagV k (lenS bf af) g, none) else (0, some 1)) := by
 unfold f_150 f_190
 simp only [Option.bind_some]
 rw [scheck_at]
 by_cases hs : SmOk k bf af
 rotate_left
 ·rw [if_neg hs, if_neg (fun h => hs h.1)]; rfl
 obtain ⟨f0, f1, a0, a1, l0, l1, k0, k1⟩ := smOk_lim hs
 rw [if_pos hs, wi64 (n := bf + 1) (by omega) (by omega), wi64 (n := bf + 1 + af) (by omega) (by omega), wi64 (n := (bf + 1 + af) * 1000000000) (by omega) (by omega)]
 change Option.bind (some none) _ = _
 simp only [Option.bind_some, Option.isNone_none, Bool.not_true, cond_false]
 rw [show (bf + 1 + af) * 1000000000 = lenS bf af from rfl]
 generalize hLn : lenS bf af = Ln at l0 l1
 by_cases hk : k = 0
 ·rw [hk, beq_self_eq_true, if_neg (fun h => h.2.1 rfl)]; rfl
 rw [beq_false_of_ne hk, cond_false]
 by_cases g0 : g < 0
 ·rw [decide_eq_true g0, if_neg (by unfold LagOk; omega)]; rfl
 rw [decide_eq_false g0, cond_false]
 by_cases g1 : g > Ln
 ·rw [decide_eq_true g1, if_neg (by unfold LagOk; omega)]; rfl
 rw [decide_eq_false g1, cond_false, if_pos ⟨hs, hk, by omega, by omega⟩]
 unfold lagV
 by_cases hk1 : k = 1
 ·obtain ⟨p0, p1⟩ := part_le (a := 1000000000) (g := Ln - g) (Ln := Ln) (by decide) (by omega) (by omega) (by omega)
  rw [Int.mul_comm] at p0 p1
  have e1 : mdF (Ln - g) 1000000000 Ln = some ((Ln - g) * 1000000000 / Ln, none) := by
   unfold mdF fitP
   rw [i64B_t (x := 1000000000) (by decide) (by decide), i64B_t (x := Ln - g) (by omega) (by omega), i64B_t (x := Ln) (by omega) (by omega), decide_eq_false (by omega), i64B_t (x := (Ln - g) * 1000000000 / Ln) (by omega) (by omega)]; rfl
  rw [hk1, beq_self_eq_true, cond_true, if_pos rfl, wi64 (n := Ln - g) (by omega) (by omega), e1]
  simp only [Option.bind_some]
  rw [wi64 (by omega) (by omega)]
 rw [beq_false_of_ne hk1, cond_false, if_neg hk1, Int.tdiv_eq_ediv_of_nonneg (by omega), wi64 (n := Ln / 2) (by omega) (by omega)]
 by_cases hg : g ≥ Ln / 2
 ·obtain ⟨r0, r1, q0, q1, s0, s1⟩ := softQ_lim (g := Ln - g) (Ln := Ln) (by omega) (by omega) (by omega) l1
  rw [decide_eq_true hg, cond_true, if_pos hg, wi64 (n := Ln - g) (by omega) (by omega), soft_at N (by omega) (by omega) (by omega) l1]
  simp only [Option.bind_some]
  rw [wi64 (by omega) (by omega)]
 ·obtain ⟨r0, r1, q0, q1, s0, s1⟩ := softQ_lim (g := g) (Ln := Ln) (by omega) (by omega) (by omega) l1
  rw [decide_eq_false hg, cond_false, if_neg hg, soft_at N (by omega) (by omega) (by omega) l1]
  simp only [Option.bind_some]
  by_cases hr : softQ Ln g % Ln > 0
  ·rw [decide_eq_true hr, if_pos hr, cond_true, wi64 (by omega) (by omega)]
  ·rw [decide_eq_false hr, if_neg hr, cond_false]
theorem cdiv {n L : Int} (hL : 0 < L) : -(-n / L) = if n % L > 0 then n / L + 1 else n / L := by
 have e := Int.emod_add_mul_ediv n L
 have r0 := Int.emod_nonneg n (show L ≠ 0 by omega)
 have r1 := Int.emod_lt_of_pos n hL
 generalize hq : n / L = q at e
 generalize hr : n % L = r at e r0 r1
 by_cases h : r > 0
 ·rw [if_pos h]
  have e2 : -n = (L - r) + L * (-q - 1) := by rw [Int.mul_sub, Int.mul_neg]; omega
  rw [e2, Int.add_mul_ediv_left _ _ (by omega), Int.ediv_eq_zero_of_lt (by omega) (by omega)]; omega
 ·rw [if_neg h]
  have e2 : -n = 0 + L * (-q) := by rw [Int.mul_neg]; omega
  rw [e2, Int.add_mul_ediv_left _ _ (by omega)]; simp
theorem fitsE_zero {k bf af b l : Int} {L : List Int} (h : fitsE k bf af b l L = 0) : SmOk k bf af ∧ tabB b l L = true := by
 unfold fitsE at h
 by_cases hc : SmOk k bf af ∧ tabB b l L = true
 ·exact hc
 ·rw [if_neg hc] at h; cases h
end Go.Proofs.YthpljlpokmoeeaaGreatDoor.Mir
namespace Go.Proofs.YthpljlpokmoeeaaGreatDoor.Mir
open Go Go.RowKit
set_option maxRecDepth 100000
theorem utcE_zero {b l : Int} {L : List Int} {tai : Int} (h : utcE b l L tai = 0) : (-4611686018427387904 < tai ∧ tai < 4611686018427387904) ∧ secD b L (-50000) ≤ tai / 1000000000 ∧ tai / 1000000000 < secD b L l := by
 unfold utcE at h
 by_cases g1 : tai ≤ -4611686018427387904 ∨ tai ≥ 4611686018427387904
 ·rw [if_pos g1] at h; cases h
 rw [if_neg g1] at h
 by_cases g2 : tai / 1000000000 < secD b L (-50000)
 ·rw [if_pos g2] at h; cases h
 rw [if_neg g2] at h
 by_cases g3 : tai / 1000000000 ≥ secD b L l
 ·rw [if_pos g3] at h; cases h
 exact ⟨by omega, by omega, by omega⟩
theorem day_lim {b l : Int} {L : List Int} (T : Tab b l L) {tai : Int} (h : utcE b l L tai = 0) : -50000 ≤ dayS b L (tai / 1000000000) ∧ dayS b L (tai / 1000000000) < l := by
 obtain ⟨_, h1, h2⟩ := utcE_zero h
 obtain ⟨s1, s2⟩ := dayS_spec T (tai / 1000000000)
 have a := secD_lt (Int.lt_of_le_of_lt h1 s2)
 have c := secD_lt (Int.lt_of_le_of_lt s1 h2)
 omega
def outV (b : Int) (L : List Int) (tai : Int) : Int := tai - (b + cntD (dayS b L (tai / 1000000000)) L) * 1000000000
theorem plain_at {N : Nat} (hN : 33 ≤ N) {b l : Int} {L : List Int} (h : tabB b l L = true) {tai : Int} (t0 : -9223372036854775808 ≤ tai) (t1 : tai < 9223372036854775808) : f_148 N b l L tai = some (if utcE b l L tai = 0 then (outV b L tai, none) else (0, some (utcE b l L tai))) := by
 have T := tab_of h
 unfold f_148
 rw [utc_at hN h t0 t1]
 by_cases hE : utcE b l L tai = 0
 rotate_left
 ·rw [if_neg hE, if_neg hE]; rfl
 rw [if_pos hE, if_pos hE]
 obtain ⟨d0, d1⟩ := day_lim T hE
 obtain ⟨⟨u0, u1⟩, _⟩ := utcE_zero hE
 simp only [Option.bind_some, Option.isNone_none, Bool.not_true, cond_false]
 rw [ahead_at hN h d0 d1]
 simp only [Option.bind_some, Option.isNone_none, Bool.not_true, cond_false]
 have c1 := cntD_le (dayS b L (tai / 1000000000)) L
 have c2 := T.len
 have c3 := T.b0
 have c4 := T.b1
 rw [wi64 (n := (b + (cntD (dayS b L (tai / 1000000000)) L : Int)) * 1000000000) (by omega) (by omega), wi64 (n := tai - _) (by omega) (by omega)]
 rfl
def fromN (bf b : Int) (L : List Int) (i : Nat) : Int := (endW b L i - 1 - bf) * 1000000000
def untilN (af b : Int) (L : List Int) (i : Nat) : Int := (endW b L i + af) * 1000000000
def winF (bf af b : Int) (L : List Int) (tai : Int) : Nat → Nat → Option Nat
 | _, 0 => none
 | i, n + 1 => if fromN bf b L i ≤ tai ∧ tai < untilN af b L i then some i else winF bf af b L tai (i + 1) n
theorem winF_succ (bf af b : Int) (L : List Int) (tai : Int) (i n : Nat) : winF bf af b L tai i (n + 1) = if fromN bf b L i ≤ tai ∧ tai < untilN af b L i then some i else winF bf af b L tai (i + 1) n := rfl
def atI (k bf af b : Int) (L : List Int) (tai : Int) (i : Nat) : Int := tai - (b + i) * 1000000000 - lagV k (lenS bf af) (tai - fromN bf b L i)
theorem lagV_lim {k Ln g : Int} (l0 : 1000000000 ≤ Ln) (l1 : Ln ≤ 86401000000000) (g0 : 0 ≤ g) (g1 : g ≤ Ln) : -1000000000 ≤ lagV k Ln g ∧ lagV k Ln g ≤ 2000000001 := by
 obtain ⟨_, _, _, _, s0, s1⟩ := softQ_lim (g := g) (Ln := Ln) g0 g1 (by omega) l1
 obtain ⟨_, _, _, _, s2, s3⟩ := softQ_lim (g := Ln - g) (Ln := Ln) (by omega) (by omega) (by omega) l1
 obtain ⟨p0, p1⟩ := part_le (a := 1000000000) (g := Ln - g) (Ln := Ln) (by decide) (by omega) (by omega) (by omega)
 rw [Int.mul_comm] at p0 p1
 unfold lagV
 split
 ·omega
 ·split
  ·omega
  ·split <;> omega
theorem lagOk_in {k bf af b : Int} {L : List Int} {tai : Int} {i : Nat} (hs : SmOk k bf af) (hk : k ≠ 0) (h : fromN bf b L i ≤ tai ∧ tai < untilN af b L i) : LagOk k bf af (tai - fromN bf b L i) := by
 unfold fromN untilN at h
 refine ⟨hs, hk, by unfold fromN; omega, ?_⟩
 unfold lenS fromN; omega
theorem sat_loop (N : Nat) {b l : Int} {L : List Int} (T : Tab b l L) {k bf af : Int} (hs : SmOk k bf af) (hk : k ≠ 0) {tai : Int} (t0 : -4611686018427387904 < tai) (t1 : tai < 4611686018427387904) (o : Int) : ∀ (n M i : Nat), i + n = L.length → n < M →
  iter (b_79_0 N) M (tai, (), (), o, (L.length : Int), (i : Int), (k, bf, af), (b, l, L)) = some (match winF bf af b L tai i n with | some j => .inl (atI k bf af b L tai j, none) | none => .inr o) := by
 obtain ⟨f0, f1, a0, a1, l0, l1, _⟩ := smOk_lim hs
 have hlen := T.len
 have b0 := T.b0
 have b1 := T.b1
 intro n
 induction n with
 | zero =>
  intro M i hi hM
  obtain ⟨M, rfl⟩ : ∃ m, M = m + 1 := ⟨M - 1, by omega⟩
  show b_79_0 N (iter (b_79_0 N) M) _ = _
  unfold b_79_0
  simp only
  rw [decide_eq_false (show ¬ (i : Int) < (L.length : Int) by omega)]; rfl
 | succ n ih =>
  intro M i hi hM
  obtain ⟨M, rfl⟩ : ∃ m, M = m + 1 := ⟨M - 1, by omega⟩
  have ih' := ih M (i + 1) (by omega) (by omega)
  have hl := endW_lim T (show i < L.length by omega)
  have eF : IntKind.i64.wrap ((endW b L i - 1 - bf) * 1000000000) = fromN bf b L i := wi64 (by omega) (by omega)
  have eU : IntKind.i64.wrap ((endW b L i + af) * 1000000000) = untilN af b L i := wi64 (by omega) (by omega)
  have hF : fromN bf b L i = (endW b L i - 1 - bf) * 1000000000 := rfl
  have hU : untilN af b L i = (endW b L i + af) * 1000000000 := rfl
  show b_79_0 N (iter (b_79_0 N) M) _ = _
  generalize iter (b_79_0 N) M = I at ih' ⊢
  unfold b_79_0
  simp only
  rw [decide_eq_true (show (i : Int) < (L.length : Int) by omega), swind_at N T k f0 f1 a0 a1 (by omega), wi64 (n := (i : Int) + 1) (by omega) (by omega), show (i : Int) + 1 = ((i + 1 : Nat) : Int) by omega]
  simp only [cond_true, Option.bind_some]
  rw [eF, eU, ih', winF_succ]
  by_cases h1 : tai < fromN bf b L i
  ·rw [decide_eq_true h1, cond_true, if_neg (by omega)]
  rw [decide_eq_false h1, cond_false]
  by_cases h2 : tai ≥ untilN af b L i
  ·rw [decide_eq_true h2, cond_true, if_neg (by omega)]
  have hin : fromN bf b L i ≤ tai ∧ tai < untilN af b L i := by omega
  have hok := lagOk_in hs hk hin
  have hlg := lagV_lim (k := k) (g := tai - fromN bf b L i) l0 l1 hok.2.2.1 hok.2.2.2
  rw [decide_eq_false h2, cond_false, if_pos hin, wi64 (n := tai - fromN bf b L i) (by omega) (by omega), slag_at, if_pos hok]
  simp only [Option.bind_some, Option.isNone_none, Bool.not_true, cond_false]
  rw [wi64 (n := b + (i : Int)) (by omega) (by omega), wi64 (n := (b + (i : Int)) * 1000000000) (by omega) (by omega), wi64 (n := tai - (b + (i : Int)) * 1000000000) (by omega) (by omega), wi64 (by omega) (by omega)]
  rfl
def atV (k bf af b : Int) (L : List Int) (tai : Int) : Int := if k = 0 then outV b L tai else match winF bf af b L tai 0 L.length with | some j => atI k bf af b L tai j | none => outV b L tai
theorem sat_at {N : Nat} (hN : 100 ≤ N) {b l : Int} {L : List Int} (hL : L.length ≤ 40) (k bf af : Int) {tai : Int} (t0 : -9223372036854775808 ≤ tai) (t1 : tai < 9223372036854775808) :
  f_79 N k bf af b l L tai = some (if fitsE k bf af b l L = 0 then (if utcE b l L tai = 0 then (atV k bf af b L tai, none) else (0, some (utcE b l L tai))) else (0, some (fitsE k bf af b l L))) := by
 unfold f_79
 rw [sfits_at hN hL]
 by_cases hE : fitsE k bf af b l L = 0
 rotate_left
 ·rw [if_neg hE, if_neg hE]; rfl
 obtain ⟨hs, ht⟩ := fitsE_zero hE
 rw [if_pos hE, if_pos hE]
 simp only [Option.bind_some, Option.isNone_none, Bool.not_true, cond_false]
 rw [plain_at (by omega) ht t0 t1]
 by_cases hU : utcE b l L tai = 0
 rotate_left
 ·rw [if_neg hU, if_neg hU]; rfl
 rw [if_pos hU, if_pos hU]
 simp only [Option.bind_some, Option.isNone_none, Bool.not_true, cond_false]
 unfold atV
 by_cases hk : k = 0
 ·rw [if_pos hk, hk]; rfl
 obtain ⟨⟨u0, u1⟩, _⟩ := utcE_zero hU
 have hlp := sat_loop N (tab_of ht) hs hk u0 u1 (outV b L tai) L.length N 0 (by omega) (by omega)
 have hlp' : l_79_0 N (tai, (), (), outV b L tai, (L.length : Int), 0, (k, bf, af), (b, l, L)) = some (match winF bf af b L tai 0 L.length with | some j => .inl (atI k bf af b L tai j, none) | none => .inr (outV b L tai)) := hlp
 rw [beq_false_of_ne hk, cond_false, hlp', if_neg hk]
 cases winF bf af b L tai 0 L.length <;> rfl
end Go.Proofs.YthpljlpokmoeeaaGreatDoor.Mir
namespace Go.Proofs.YthpljlpokmoeeaaGreatDoor.Mir
open Go Go.RowKit
set_option maxRecDepth 100000
theorem softQ_half {Ln h : Int} (h0 : 0 ≤ h) (h1 : 2 * h ≤ Ln) (hL : 0 < Ln) : 0 ≤ softQ Ln h / Ln ∧ softQ Ln h / Ln ≤ 500000000 := by
 obtain ⟨r0, _⟩ := part_le (a := 2000000000) (g := h) (Ln := Ln) (by decide) h0 (by omega) hL
 have r1 : 2000000000 * h / Ln ≤ 1000000000 := by
  have e := Int.ediv_le_ediv hL (show 2000000000 * h ≤ 1000000000 * Ln by omega)
  rwa [Int.mul_ediv_cancel _ (by omega)] at e
 have q0 : 0 ≤ softQ Ln h := Int.mul_nonneg h0 r0
 have q1 : softQ Ln h ≤ h * 1000000000 := Int.mul_le_mul_of_nonneg_left r1 h0
 refine ⟨Int.ediv_nonneg q0 (by omega), ?_⟩
 have e := Int.ediv_le_ediv hL (show softQ Ln h ≤ 500000000 * Ln by omega)
 rwa [Int.mul_ediv_cancel _ (by omega)] at e
theorem lagV_01 {k Ln g : Int} (l0 : 1000000000 ≤ Ln) (l2 : Ln % 2 = 0) (g0 : 0 ≤ g) (g1 : g ≤ Ln) : 0 ≤ lagV k Ln g ∧ lagV k Ln g ≤ 1000000000 := by
 obtain ⟨p0, p1⟩ := part_le (a := 1000000000) (g := Ln - g) (Ln := Ln) (by decide) (by omega) (by omega) (by omega)
 rw [Int.mul_comm] at p0 p1
 unfold lagV
 split
 ·omega
 ·split
  ·obtain ⟨s0, s1⟩ := softQ_half (Ln := Ln) (h := Ln - g) (by omega) (by omega) (by omega)
   omega
  ·obtain ⟨s0, s1⟩ := softQ_half (Ln := Ln) (h := g) (by omega) (by omega) (by omega)
   split <;> omega
theorem lenS_even (bf af : Int) : lenS bf af % 2 = 0 := by unfold lenS; omega
theorem cnt_in {b l : Int} {L : List Int} (T : Tab b l L) {bf af tai : Int} (f0 : 0 ≤ bf) (f1 : bf ≤ 43200) (a0 : 0 ≤ af) (a1 : af ≤ 43200) {i : Nat} (hi : i < L.length) (h : fromN bf b L i ≤ tai ∧ tai < untilN af b L i) : cntD (dayS b L (tai / 1000000000)) L = i ∨ cntD (dayS b L (tai / 1000000000)) L = i + 1 := by
 unfold fromN untilN at h
 obtain ⟨s1, s2⟩ := dayS_spec T (tai / 1000000000)
 have hs : endW b L i - 1 - bf ≤ tai / 1000000000 ∧ tai / 1000000000 < endW b L i + af := by omega
 have e0 : secD b L (gI L i) = endW b L i - 86401 := by unfold secD endW; rw [cnt_here T hi]; omega
 have e1 : secD b L (gI L i + 1) = endW b L i := by unfold secD endW; rw [cnt_next T hi]; omega
 have e2 := secD_step b L (gI L i + 1)
 have d0 := secD_lt (show secD b L (gI L i) < secD b L (dayS b L (tai / 1000000000) + 1) by omega)
 have d1 := secD_lt (show secD b L (dayS b L (tai / 1000000000)) < secD b L (gI L i + 1 + 1) by omega)
 by_cases hd : dayS b L (tai / 1000000000) = gI L i
 ·rw [hd]; exact .inl (cnt_here T hi)
 ·rw [show dayS b L (tai / 1000000000) = gI L i + 1 by omega]; exact .inr (cnt_next T hi)
theorem off_in {b l : Int} {L : List Int} (T : Tab b l L) {k bf af tai : Int} (hs : SmOk k bf af) (hk : k ≠ 0) {i : Nat} (hi : i < L.length) (h : fromN bf b L i ≤ tai ∧ tai < untilN af b L i) : -1000000000 ≤ atI k bf af b L tai i - outV b L tai ∧ atI k bf af b L tai i - outV b L tai ≤ 1000000000 := by
 obtain ⟨f0, f1, a0, a1, l0, l1, _⟩ := smOk_lim hs
 have hok := lagOk_in hs hk h
 obtain ⟨g0, g1⟩ := lagV_01 (k := k) l0 (lenS_even bf af) hok.2.2.1 hok.2.2.2
 unfold atI outV
 rcases cnt_in T f0 f1 a0 a1 hi h with e | e <;> rw [e] <;> omega
theorem winF_some {bf af b : Int} {L : List Int} {tai : Int} : ∀ {n i j : Nat}, winF bf af b L tai i n = some j → i ≤ j ∧ j < i + n ∧ fromN bf b L j ≤ tai ∧ tai < untilN af b L j
 | 0, _, _, h => by cases h
 | n + 1, i, j, h => by
  rw [winF_succ] at h
  by_cases hc : fromN bf b L i ≤ tai ∧ tai < untilN af b L i
  ·rw [if_pos hc] at h
   obtain rfl := Option.some.inj h
   exact ⟨by omega, by omega, hc.1, hc.2⟩
  ·rw [if_neg hc] at h
   obtain ⟨h1, h2, h3⟩ := winF_some h
   exact ⟨by omega, by omega, h3⟩
end Go.Proofs.YthpljlpokmoeeaaGreatDoor.Mir
namespace Go.Proofs.YthpljlpokmoeeaaGreatDoor.Mir
open Go Go.RowKit
set_option maxRecDepth 100000
theorem ediv_le_add {a c d L : Int} (hL : 0 < L) (h : c ≤ a + d * L) : c / L ≤ a / L + d := by
 have e := Int.ediv_le_ediv hL h
 rwa [Int.add_mul_ediv_right _ _ (by omega)] at e
theorem cdiv_eq {n L : Int} (hL : 0 < L) : (if n % L > 0 then n / L + 1 else n / L) = -(-n / L) := (cdiv hL).symm
theorem cdiv_mono {a c L : Int} (hL : 0 < L) (h : a ≤ c) : -(-a / L) ≤ -(-c / L) := by
 have := Int.ediv_le_ediv hL (show -c ≤ -a by omega)
 omega
theorem cdiv_add {a c d L : Int} (hL : 0 < L) (h : c ≤ a + d * L) : -(-c / L) ≤ -(-a / L) + d := by
 have := ediv_le_add (a := -c) (c := -a) (d := d) hL (by omega)
 omega
theorem softQ_mono {Ln g h : Int} (hL : 0 < Ln) (g0 : 0 ≤ g) (gh : g ≤ h) : softQ Ln g ≤ softQ Ln h := by
 unfold softQ
 have e := Int.ediv_le_ediv hL (show 2000000000 * g ≤ 2000000000 * h by omega)
 have z : 0 ≤ 2000000000 * g / Ln := Int.ediv_nonneg (by omega) (by omega)
 exact Int.mul_le_mul gh e z (by omega)
theorem softQ_lip {Ln g h : Int} (hL : 2000000000 ≤ Ln) (g0 : 0 ≤ g) (gh : g ≤ h) (hh : 2 * h ≤ Ln) : softQ Ln h ≤ softQ Ln g + (h - g) * Ln := by
 unfold softQ
 have hp : 0 < Ln := by omega
 have r2 : 2000000000 * h / Ln ≤ 1000000000 := by
  have e := Int.ediv_le_ediv hp (show 2000000000 * h ≤ 1000000000 * Ln by omega)
  rwa [Int.mul_ediv_cancel _ (by omega)] at e
 have st : 2000000000 * h / Ln ≤ 2000000000 * g / Ln + (h - g) := by
  refine ediv_le_add hp ?_
  have := Int.mul_le_mul_of_nonneg_left hL (show 0 ≤ h - g by omega)
  omega
 generalize 2000000000 * h / Ln = r at *
 generalize 2000000000 * g / Ln = q at *
 obtain ⟨d, hd⟩ : ∃ d, h = g + d := ⟨h - g, by omega⟩
 subst hd
 have d0 : 0 ≤ d := by omega
 have e1 : (g + d) * r = g * r + d * r := Int.add_mul ..
 have e2 : g * r ≤ g * (q + d) := Int.mul_le_mul_of_nonneg_left (by omega) g0
 have e3 : g * (q + d) = g * q + d * g := by rw [Int.mul_add, Int.mul_comm g d]
 have e4 : d * r + d * g ≤ d * Ln := by
  rw [← Int.mul_add]
  exact Int.mul_le_mul_of_nonneg_left (by omega) d0
 rw [show g + d - g = d by omega]
 omega
theorem softQ_zero (Ln : Int) : softQ Ln 0 = 0 := by unfold softQ; exact Int.zero_mul _
theorem softQ_mid {m : Int} (h : 0 < m) : softQ (2 * m) m = 500000000 * (2 * m) := by
 unfold softQ
 rw [show 2000000000 * m = 1000000000 * (2 * m) by omega, Int.mul_ediv_cancel _ (by omega)]
 omega
def softF (Ln g : Int) : Int := -(-(softQ Ln g) / Ln)
def softS (Ln g : Int) : Int := 1000000000 - softQ Ln (Ln - g) / Ln
theorem lagV_soft {k Ln g : Int} (hL : 0 < Ln) (hk : k ≠ 1) : lagV k Ln g = if g ≥ Ln / 2 then softS Ln g else softF Ln g := by
 unfold lagV softF softS
 rw [if_neg hk, cdiv_eq hL]
theorem soft_mid {m : Int} (h : 0 < m) : softF (2 * m) m = 500000000 ∧ softS (2 * m) m = 500000000 := by
 unfold softF softS
 rw [show 2 * m - m = m by omega, softQ_mid h]
 constructor
 ·rw [← Int.neg_mul, Int.mul_ediv_cancel _ (by omega)]; omega
 ·rw [Int.mul_ediv_cancel _ (by omega)]; omega
theorem lagV_grows {k Ln g h : Int} (hk : k = 1 ∨ 2000000000 ≤ Ln) (hL : 1000000000 ≤ Ln) (h2 : Ln % 2 = 0) (g0 : 0 ≤ g) (gh : g ≤ h) (hh : h ≤ Ln) : lagV k Ln g ≤ lagV k Ln h ∧ lagV k Ln h ≤ lagV k Ln g + (h - g) := by
 have hp : 0 < Ln := by omega
 by_cases hk1 : k = 1
 ·unfold lagV
  rw [if_pos hk1, if_pos hk1]
  have e1 := Int.ediv_le_ediv hp (show (Ln - h) * 1000000000 ≤ (Ln - g) * 1000000000 by omega)
  have e2 : (Ln - g) * 1000000000 / Ln ≤ (Ln - h) * 1000000000 / Ln + (h - g) := by
   refine ediv_le_add hp ?_
   have := Int.mul_le_mul_of_nonneg_left hL (show 0 ≤ h - g by omega)
   omega
  constructor <;> omega
 have hL2 : 2000000000 ≤ Ln := by omega
 obtain ⟨m, rfl⟩ : ∃ m, Ln = 2 * m := ⟨Ln / 2, by omega⟩
 obtain ⟨m1, m2⟩ := soft_mid (m := m) (by omega)
 rw [lagV_soft hp hk1, lagV_soft hp hk1, show 2 * m / 2 = m by omega]
 have F : ∀ {a c : Int}, 0 ≤ a → a ≤ c → c ≤ m → softF (2 * m) a ≤ softF (2 * m) c ∧ softF (2 * m) c ≤ softF (2 * m) a + (c - a) := fun h0 h1 h2 =>
  ⟨cdiv_mono hp (softQ_mono hp h0 h1), cdiv_add hp (softQ_lip hL2 h0 h1 (by omega))⟩
 have S : ∀ {a c : Int}, m ≤ a → a ≤ c → c ≤ 2 * m → softS (2 * m) a ≤ softS (2 * m) c ∧ softS (2 * m) c ≤ softS (2 * m) a + (c - a) := by
  intro a c h0 h1 h2
  have e1 := Int.ediv_le_ediv hp (softQ_mono (Ln := 2 * m) (g := 2 * m - c) (h := 2 * m - a) hp (by omega) (by omega))
  have e2 := ediv_le_add hp (softQ_lip (Ln := 2 * m) (g := 2 * m - c) (h := 2 * m - a) hL2 (by omega) (by omega) (by omega))
  unfold softS
  constructor <;> omega
 by_cases hg : g ≥ m
 ·rw [if_pos hg, if_pos (show h ≥ m by omega)]
  exact S (by omega) gh hh
 rw [if_neg hg]
 by_cases hh' : h ≥ m
 ·rw [if_pos hh']
  have a := F g0 (show g ≤ m by omega) (Int.le_refl m)
  have c := S (Int.le_refl m) (show m ≤ h by omega) hh
  constructor <;> omega
 ·rw [if_neg hh']
  exact F g0 gh (by omega)
theorem lagV_zero {k Ln : Int} (hL : 1000000000 ≤ Ln) : lagV k Ln 0 = 0 := by
 unfold lagV
 split
 ·rw [show Ln - 0 = Ln by omega, Int.mul_comm, Int.mul_ediv_cancel _ (by omega)]; omega
 ·rw [if_neg (by omega), softQ_zero]
  simp
theorem lagV_full {k Ln : Int} (hL : 1000000000 ≤ Ln) : lagV k Ln Ln = 1000000000 := by
 unfold lagV
 split
 ·rw [show Ln - Ln = 0 by omega]; simp
 ·rw [if_pos (by omega), show Ln - Ln = 0 by omega, softQ_zero]; simp
theorem lenS_soft {k bf af : Int} (hs : SmOk k bf af) (hk : k ≠ 0) : k = 1 ∨ 2000000000 ≤ lenS bf af := by
 unfold SmOk at hs
 unfold lenS
 omega
theorem fitW_at {k bf af b : Int} {L : List Int} : ∀ {n i : Nat}, fitW_ k bf af b L i n = true → ∀ j, i ≤ j → j < i + n → badW k bf af b L j = false
 | 0, _, _, _, h1, h2 => by omega
 | n + 1, i, h, j, h1, h2 => by
  have h' : (!badW k bf af b L i && fitW_ k bf af b L (i + 1) n) = true := h
  rw [Bool.and_eq_true, Bool.not_eq_true'] at h'
  by_cases e : j = i
  ·rw [e]; exact h'.1
  ·exact fitW_at h'.2 j (by omega) (by omega)
theorem fit_next {k bf af b l : Int} {L : List Int} (hE : fitsE k bf af b l L = 0) (hk : k ≠ 0) {i : Nat} (hi : i + 1 < L.length) : untilN af b L i ≤ fromN bf b L (i + 1) := by
 obtain ⟨hs, ht⟩ := fitsE_zero hE
 unfold fitsE at hE
 rw [if_pos ⟨hs, ht⟩] at hE
 cases hw : fitW_ k bf af b L 1 (L.length - 1) with
 | false => rw [hw] at hE; cases hE
 | true =>
  have := fitW_at hw (i + 1) (by omega) (by omega)
  unfold badW at this
  rw [decide_eq_true hk, Bool.true_and] at this
  have h := of_decide_eq_false this
  rw [Nat.add_sub_cancel] at h
  unfold untilN fromN
  omega
theorem from_until {bf af b : Int} {L : List Int} (i : Nat) : untilN af b L i = fromN bf b L i + lenS bf af := by
 unfold untilN fromN lenS; omega
structure Over (bf af b : Int) (L : List Int) (t : Int) (j : Nat) : Prop where
 le : j ≤ L.length
 lo : ∀ i, i < j → untilN af b L i ≤ t
 hi : ∀ i, j ≤ i → i < L.length → t < untilN af b L i
theorem until_mono {k bf af b l : Int} {L : List Int} (hE : fitsE k bf af b l L = 0) (hk : k ≠ 0) : ∀ {i j : Nat}, i ≤ j → j < L.length → untilN af b L i ≤ untilN af b L j ∧ (i < j → untilN af b L i ≤ fromN bf b L j) := by
 intro i j
 obtain ⟨hs, ht⟩ := fitsE_zero hE
 obtain ⟨_, _, _, _, l0, _⟩ := smOk_lim hs
 induction j with
 | zero =>
  intro h1 _
  obtain rfl : i = 0 := by omega
  exact ⟨Int.le_refl _, fun h => by omega⟩
 | succ j ih =>
  intro h1 h2
  by_cases e : i = j + 1
  ·subst e; exact ⟨Int.le_refl _, fun h => by omega⟩
  ·obtain ⟨a, _⟩ := ih (by omega) (by omega)
   have c := fit_next hE hk h2
   have d := from_until (bf := bf) (af := af) (b := b) (L := L) (j + 1)
   exact ⟨by omega, fun _ => by omega⟩
theorem over_ex {k bf af b l : Int} {L : List Int} (hE : fitsE k bf af b l L = 0) (hk : k ≠ 0) (t : Int) : ∃ j, Over bf af b L t j := by
 have H : ∀ n, n ≤ L.length → (∃ j, j ≤ n ∧ (∀ i, i < j → untilN af b L i ≤ t) ∧ ∀ i, j ≤ i → i < n → t < untilN af b L i) := by
  intro n
  induction n with
  | zero => exact fun _ => ⟨0, Nat.le_refl _, fun i h => by omega, fun i h h' => by omega⟩
  | succ n ih =>
   intro hn
   obtain ⟨j, h1, h2, h3⟩ := ih (by omega)
   by_cases hu : untilN af b L n ≤ t
   ·refine ⟨n + 1, Nat.le_refl _, fun i hi => ?_, fun i h h' => by omega⟩
    have := (until_mono hE hk (show i ≤ n by omega) (by omega)).1
    omega
   ·refine ⟨j, by omega, h2, fun i h h' => ?_⟩
    by_cases e : i = n
    ·subst e; omega
    ·exact h3 i h (by omega)
 obtain ⟨j, h1, h2, h3⟩ := H L.length (Nat.le_refl _)
 exact ⟨j, h1, h2, h3⟩
theorem over_mono {bf af b : Int} {L : List Int} {s t : Int} {i j : Nat} (h : Over bf af b L s i) (h' : Over bf af b L t j) (hst : s ≤ t) : i ≤ j := by
 by_cases e : i ≤ j
 ·exact e
 ·have a := h.lo j (by omega)
  have c := h'.hi j (Nat.le_refl _) (by have := h.le; omega)
  omega
theorem cnt_over {k bf af b l : Int} {L : List Int} (hE : fitsE k bf af b l L = 0) {t : Int} {j : Nat} (h : Over bf af b L t j) (hf : ∀ i, j ≤ i → i < L.length → t < endW b L i * 1000000000) : cntD (dayS b L (t / 1000000000)) L = j := by
 obtain ⟨hs, ht⟩ := fitsE_zero hE
 obtain ⟨_, _, a0, _⟩ := smOk_lim hs
 have T := tab_of ht
 obtain ⟨s1, s2⟩ := dayS_spec T (t / 1000000000)
 have e1 : ∀ i, i < L.length → secD b L (gI L i + 1) = endW b L i := fun i hi => by unfold secD endW; rw [cnt_next T hi]; omega
 refine cnt_uniq _ L j h.le (fun i hi => ?_) (fun i h1 h2 => ?_)
 ·have u := h.lo i hi
  unfold untilN at u
  have hl := h.le
  have hq : secD b L (gI L i + 1) < secD b L (dayS b L (t / 1000000000) + 1) := by rw [e1 i (by omega)]; omega
  have := secD_lt hq
  omega
 ·have u := hf i h1 h2
  have hq : secD b L (dayS b L (t / 1000000000)) < secD b L (gI L i + 1) := by rw [e1 i h2]; omega
  have := secD_lt hq
  omega
def jV (k bf af b : Int) (L : List Int) (t : Int) (j : Nat) : Int := t - (b + j) * 1000000000 - (if j < L.length ∧ fromN bf b L j ≤ t then lagV k (lenS bf af) (t - fromN bf b L j) else 0)
theorem winF_none {bf af b : Int} {L : List Int} {tai : Int} : ∀ {n i : Nat}, (∀ j, i ≤ j → j < i + n → ¬ (fromN bf b L j ≤ tai ∧ tai < untilN af b L j)) → winF bf af b L tai i n = none
 | 0, _, _ => rfl
 | n + 1, i, h => by
  rw [winF_succ, if_neg (h i (Nat.le_refl _) (by omega))]
  exact winF_none fun j h1 h2 => h j (by omega) (by omega)
theorem winF_is {bf af b : Int} {L : List Int} {tai : Int} {q : Nat} (hq : fromN bf b L q ≤ tai ∧ tai < untilN af b L q) : ∀ {n i : Nat}, i ≤ q → q < i + n → (∀ j, i ≤ j → j < q → ¬ (fromN bf b L j ≤ tai ∧ tai < untilN af b L j)) → winF bf af b L tai i n = some q
 | 0, _, h1, h2, _ => by omega
 | n + 1, i, h1, h2, h => by
  rw [winF_succ]
  by_cases e : i = q
  ·subst e; rw [if_pos hq]
  ·rw [if_neg (h i (Nat.le_refl _) (by omega))]
   exact winF_is hq (by omega) (by omega) fun j a c => h j (by omega) c
theorem atV_over {k bf af b l : Int} {L : List Int} (hE : fitsE k bf af b l L = 0) (hk : k ≠ 0) {t : Int} {j : Nat} (h : Over bf af b L t j) : atV k bf af b L t = jV k bf af b L t j := by
 obtain ⟨hs, ht⟩ := fitsE_zero hE
 obtain ⟨f0, _, a0, _, l0, _⟩ := smOk_lim hs
 unfold atV jV
 rw [if_neg hk]
 by_cases hin : j < L.length ∧ fromN bf b L j ≤ t
 ·have hu := h.hi j (Nat.le_refl _) hin.1
  rw [if_pos hin, winF_is ⟨hin.2, hu⟩ (Nat.zero_le _) (by omega) (fun i _ hi => by have := h.lo i hi; omega)]
  rfl
 ·rw [if_neg hin, winF_none (fun i _ hi => ?_)]
  ·unfold outV
   rw [cnt_over hE h (fun i h1 h2 => ?_)]
   ·simp
   ·have hF : t < fromN bf b L j := by omega
    have hm : fromN bf b L j ≤ fromN bf b L i := by
     have := (until_mono hE hk h1 h2).1
     have e1 := from_until (bf := bf) (af := af) (b := b) (L := L) i
     have e2 := from_until (bf := bf) (af := af) (b := b) (L := L) j
     omega
    have : fromN bf b L i = (endW b L i - 1 - bf) * 1000000000 := rfl
    omega
  ·by_cases hij : i < j
   ·have := h.lo i hij; omega
   ·intro hw
    have hF : t < fromN bf b L j := by omega
    have := (until_mono hE hk (show j ≤ i by omega) (by omega)).1
    have e1 := from_until (bf := bf) (af := af) (b := b) (L := L) i
    have e2 := from_until (bf := bf) (af := af) (b := b) (L := L) j
    omega
theorem jV_same {k bf af b l : Int} {L : List Int} (hE : fitsE k bf af b l L = 0) (hk : k ≠ 0) {s t : Int} {j : Nat} (hst : s ≤ t) (hu : j < L.length → t ≤ untilN af b L j) : jV k bf af b L s j ≤ jV k bf af b L t j ∧ jV k bf af b L t j ≤ jV k bf af b L s j + (t - s) := by
 obtain ⟨hs, ht⟩ := fitsE_zero hE
 obtain ⟨f0, _, a0, _, l0, _⟩ := smOk_lim hs
 have hso := lenS_soft hs hk
 have he := lenS_even bf af
 unfold jV
 by_cases hj : j < L.length
 rotate_left
 ·rw [if_neg (by omega), if_neg (by omega)]; constructor <;> omega
 have hu' := hu hj
 have e := from_until (bf := bf) (af := af) (b := b) (L := L) j
 by_cases h1 : fromN bf b L j ≤ s
 ·rw [if_pos ⟨hj, h1⟩, if_pos ⟨hj, by omega⟩]
  obtain ⟨a, c⟩ := lagV_grows (k := k) (g := s - fromN bf b L j) (h := t - fromN bf b L j) hso l0 he (by omega) (by omega) (by omega)
  constructor <;> omega
 ·rw [if_neg (by omega)]
  by_cases h2 : fromN bf b L j ≤ t
  ·rw [if_pos ⟨hj, h2⟩]
   obtain ⟨a, c⟩ := lagV_grows (k := k) (g := 0) (h := t - fromN bf b L j) hso l0 he (by omega) (by omega) (by omega)
   rw [lagV_zero l0] at a c
   constructor <;> omega
  ·rw [if_neg (by omega)]; constructor <;> omega
theorem jV_next {k bf af b l : Int} {L : List Int} (hE : fitsE k bf af b l L = 0) (hk : k ≠ 0) {j : Nat} (hj : j < L.length) : jV k bf af b L (untilN af b L j) j = jV k bf af b L (untilN af b L j) (j + 1) := by
 obtain ⟨hs, ht⟩ := fitsE_zero hE
 obtain ⟨f0, _, a0, _, l0, _⟩ := smOk_lim hs
 have e := from_until (bf := bf) (af := af) (b := b) (L := L) j
 unfold jV
 rw [if_pos ⟨hj, by omega⟩, show untilN af b L j - fromN bf b L j = lenS bf af by omega, lagV_full l0]
 by_cases h : j + 1 < L.length ∧ fromN bf b L (j + 1) ≤ untilN af b L j
 ·have := fit_next hE hk h.1
  rw [if_pos h, show untilN af b L j - fromN bf b L (j + 1) = 0 by omega, lagV_zero l0]; omega
 ·rw [if_neg h]; omega
theorem jV_on {k bf af b l : Int} {L : List Int} (hE : fitsE k bf af b l L = 0) (hk : k ≠ 0) {t : Int} : ∀ (d : Nat) {s : Int} {i : Nat}, s ≤ t → (∀ q, i ≤ q → q < i + d → untilN af b L q ≤ t) → (i < L.length → s ≤ untilN af b L i) → i + d ≤ L.length → (i + d < L.length → t ≤ untilN af b L (i + d)) →
  jV k bf af b L s i ≤ jV k bf af b L t (i + d) ∧ jV k bf af b L t (i + d) ≤ jV k bf af b L s i + (t - s)
 | 0, s, i, hst, _, _, _, hu => jV_same hE hk hst hu
 | d + 1, s, i, hst, ho, hsu, hl, hu => by
  have hi : i < L.length := by omega
  have hui := ho i (Nat.le_refl _) (by omega)
  obtain ⟨a, c⟩ := jV_same hE hk (s := s) (t := untilN af b L i) (j := i) (hsu hi) (fun _ => Int.le_refl _)
  have e := jV_next hE hk hi
  have hr := jV_on hE hk d (s := untilN af b L i) (i := i + 1) hui (fun q h1 h2 => ho q (by omega) (by omega)) (fun h => by
   have := (until_mono hE hk (show i ≤ i + 1 by omega) h).1
   exact this) (by omega) (by rw [show i + 1 + d = i + (d + 1) by omega]; exact hu)
  rw [show i + 1 + d = i + (d + 1) by omega] at hr
  constructor <;> omega
theorem atV_on {k bf af b l : Int} {L : List Int} (hE : fitsE k bf af b l L = 0) (hk : k ≠ 0) {s t : Int} (hst : s ≤ t) : atV k bf af b L s ≤ atV k bf af b L t ∧ atV k bf af b L t - atV k bf af b L s ≤ t - s := by
 obtain ⟨i, hi⟩ := over_ex hE hk s
 obtain ⟨j, hj⟩ := over_ex hE hk t
 have hij := over_mono hi hj hst
 rw [atV_over hE hk hi, atV_over hE hk hj]
 obtain ⟨d, rfl⟩ : ∃ d, j = i + d := ⟨j - i, by omega⟩
 obtain ⟨a, c⟩ := jV_on hE hk d (s := s) (t := t) (i := i) hst (fun q h1 h2 => hj.lo q h2) (fun h => Int.le_of_lt (hi.hi i (Nat.le_refl _) h)) hj.le (fun h => Int.le_of_lt (hj.hi _ (Nat.le_refl _) h))
 exact ⟨a, by omega⟩
end Go.Proofs.YthpljlpokmoeeaaGreatDoor.Mir
