/- Texts joined. -/
import Derived.RangeFuncBox
import Derived.RangeFuncNested
import Derived.RangeFuncBound
import Derived.RangeFuncCalls
import Derived.RangeFuncLeaves
import Derived.Shelf.Abstract
import Derived.WalkKit
import Derived.OwnWalkIn
import Derived.TacticsInMore
import Derived.LoopNIn
import Derived.LoopIn
import Derived.Test.YtihignmcjldiiaaGreatDoorProg
import Derived.Test.YtihignmcjldiiaaGreatDoorKx184637
import Derived.Test.YtihignmcjldiiaaGreatDoorKx74c5aa
import Derived.Shelf.Strings.SlTrimAscii
import Derived.Shelf.Spec.SlicesGrow
import Derived.Laws.AppendOwn
import Derived.KernelRfl
namespace Go.Proofs.YtihignmcjldiiaaGreatDoor
open Go Go.RowKit Go.Shelf Go.Proofs
attribute [local go_sem] Oper.semAt_some
def upTo {α : Type} (f : Nat → α) (k : Nat) : List α := (List.range k).map f
theorem upTo_succ {α : Type} (f : Nat → α) (k : Nat) : upTo f (k + 1) = upTo f k ++ [f k] := by simp [upTo, List.range_succ]
theorem upTo_length {α : Type} (f : Nat → α) (k : Nat) : (upTo f k).length = k := by simp [upTo]
def backAt (zs : List Int) (len k : Nat) : Int × Int := ((len : Int) - 1 - k, zs[len - 1 - k]?.getD 0)
def KeepB (Bs n₀ : Nat) (W W' : World) : Prop := (∀ v, W.cell? ⟨Bs, 0, none⟩ = some v → W'.cell? ⟨Bs, 0, none⟩ = some v) ∧ Below n₀ W W'
theorem KeepB.trans {Bs n₀ : Nat} {A B C : World} (h : KeepB Bs n₀ A B) (k : KeepB Bs n₀ B C) : KeepB Bs n₀ A C := ⟨fun v e => k.1 v (h.1 v e), h.2.trans k.2⟩
set_option maxRecDepth 100000 in
set_option maxHeartbeats 2000000 in
theorem back1_in (F : Fence) (n : Nat) (h8 : F.fn 120) (hro : F.round = none) (hn : 1 ≤ n) (l Bs n₀ b off len cap : Nat) (zs : List Int) (hreach : len ≤ 140737488351232) (hb : b < n₀) (J Jx : List (Int × Int) → World → Prop)
    (hY : ∀ pre x W, J pre W → pre.length < len → YieldAt F (n - 1) Tryz.prog l #[.int .i64 x.1, .int .u8 x.2] W fun e W' =>
      (e = .returned (.bool true) ∧ J (pre ++ [x]) W' ∧ KeepB Bs n₀ W W') ∨ (e = .returned (.bool false) ∧ Jx (pre ++ [x]) W'))
    (W : World) (hBs : W.cell? ⟨Bs, 0, none⟩ = some (.slice (some ⟨b, off, none⟩) len cap)) (hc : ∀ j, j < len → W.cell? ⟨b, off + j, none⟩ = some (.int .u8 (zs[j]?.getD 0))) (h0 : J [] W) :
    CallsIn F n Tryz.prog 120 #[.func (.yield l) #[] #[], .pointer (some ⟨Bs, 0, none⟩)] W fun e W' => (∃ v, e = .returned v) ∧
      ((∃ ys, ys = upTo (backAt zs len) len ∧ J ys W') ∨ (∃ pre, (∃ k, k ≤ len ∧ pre = upTo (backAt zs len) k) ∧ Jx pre W')) := by
  refine callsIn_of_wp Tryz.func120 rfl h8 ?_ hro
  simp only [Tryz.ntmps120, List.size_toArray, List.length_cons, List.length_nil, Nat.reduceAdd, Nat.reduceSub, Array.replicate_succ, Array.replicate_zero, List.push_toArray, List.append_toArray, List.nil_append, List.cons_append]
  gi_wp2
  gi_loopw [3] (fun i wr => ∃ k : Nat, k ≤ len ∧ i = .int .i64 ((len : Int) - 1 - k) ∧ J (upTo (backAt zs len) k) wr ∧ wr.cell? ⟨Bs, 0, none⟩ = some (.slice (some ⟨b, off, none⟩) len cap) ∧ Below n₀ W wr)
    (fun i _ => (intOf i + 1).toNat)
  case atStart => exact ⟨0, Nat.zero_le _, by simp, h0, hBs, Below.refl _ _⟩
  case round =>
    obtain ⟨k, hk, rfl, hJs, hBs', hnx⟩ := hrel
    have hcx : k < len → wr.cell? ⟨b, off + (len - 1 - k), none⟩ = some (.int .u8 (zs[len - 1 - k]?.getD 0)) := fun h => (hnx.cell (p := ⟨b, off + (len - 1 - k), none⟩) hb).trans (hc _ (by omega))
    by_cases hlt : k < len
    · obtain ⟨fn, tmps, assign, body, hy, hR⟩ := hY _ (backAt zs len k) wr hJs (by rw [upTo_length]; exact hlt)
      dsimp only [backAt] at hy
      have hcx' := hcx hlt
      obtain ⟨m, hm1, hm2, hm3⟩ : ∃ m : Nat, (len : Int) - 1 - k = m ∧ len - 1 - k = m ∧ m < len := ⟨len - 1 - k, by omega, rfl, by omega⟩
      rw [hm2] at hcx'
      rw [hm1, hm2] at hy
      rw [hm1]
      gi_wp2
      refine hR.mono ?_
      rintro e W3 (⟨rfl, hJ3, hk3⟩ | ⟨rfl, hJx3⟩)
      · gi_wp2
        go_roundw
        case rel => exact ⟨k + 1, by omega, by congr 1; omega, by rw [upTo_succ]; exact hJ3, hk3.1 _ hBs', hnx.trans hk3.2⟩
        case measure => simp [intOf]
      · gi_wp2
        refine bodyPost_ret (results_none rfl _ _ _) rfl ?_
        exact ⟨⟨_, rfl⟩, .inr ⟨_, ⟨k + 1, by omega, (upTo_succ _ _).symm⟩, hJx3⟩⟩
    · obtain rfl : k = len := by omega
      gi_wp2
      go_end0
      exact ⟨⟨_, rfl⟩, .inl ⟨_, rfl, hJs⟩⟩
set_option maxRecDepth 100000 in
set_option maxHeartbeats 1000000 in
theorem back1_nil_in (F : Fence) (n : Nat) (h8 : F.fn 120) (hro : F.round = none) (l Bs : Nat) (J : List (Int × Int) → World → Prop) (W : World) (hBs : W.cell? ⟨Bs, 0, none⟩ = some (.slice none 0 0)) (h0 : J [] W) :
    CallsIn F n Tryz.prog 120 #[.func (.yield l) #[] #[], .pointer (some ⟨Bs, 0, none⟩)] W fun e W' => (∃ v, e = .returned v) ∧ J [] W' := by
  refine callsIn_of_wp Tryz.func120 rfl h8 ?_ hro
  simp only [Tryz.ntmps120, List.size_toArray, List.length_cons, List.length_nil, Nat.reduceAdd, Nat.reduceSub, Array.replicate_succ, Array.replicate_zero, List.push_toArray, List.append_toArray, List.nil_append, List.cons_append]
  gi_wp2
  gi_loopw [3] (fun i wr => i = .int .i64 (-1) ∧ J [] wr) (fun _ _ => 0)
  case atStart => exact ⟨rfl, h0⟩
  case round =>
    obtain ⟨rfl, hJs⟩ := hrel
    gi_wp2
    go_end0
    exact ⟨⟨_, rfl⟩, hJs⟩
set_option maxHeartbeats 1000000 in
theorem backward_in (F : Fence) (n : Nat) (h6 : F.fn 98) (hro : F.round = none) (a : Option Addr) (len cap : Nat) (w : World) :
    CallsIn F n Tryz.prog 98 #[.slice a len cap] w fun e w' => e = .returned (.func (.func 120) #[] #[.pointer (some ⟨w.heap.size, 0, none⟩)]) ∧ w' = w.alloc (.cells #[.slice a len cap] 57) := by
  refine callsIn_of_wp Tryz.func98 rfl h6 ?_ hro
  simp only [Tryz.ntmps98, List.size_toArray, List.length_cons, List.length_nil, Nat.reduceAdd, Nat.reduceSub, Array.replicate_succ, Array.replicate_zero, List.push_toArray, List.append_toArray, List.nil_append, List.cons_append]
  gi_wp2
  go_ret
  exact ⟨rfl, rfl⟩
def Bytes (n₀ : Nat) (W : World) (sv : Value) (zs : List Int) : Prop :=
  (sv = .slice none 0 0 ∧ zs = []) ∨ ∃ b off cap, sv = .slice (some ⟨b, off, none⟩) zs.length cap ∧ b < n₀ ∧ ∀ j, j < zs.length → W.cell? ⟨b, off + j, none⟩ = some (.int .u8 (zs[j]?.getD 0))
theorem Bytes.below {n₀ : Nat} {A B : World} (h : Below n₀ A B) {sv : Value} {zs : List Int} : Bytes n₀ A sv zs → Bytes n₀ B sv zs
  | .inl e => .inl e
  | .inr ⟨b, off, cap, e, hb, hc⟩ => .inr ⟨b, off, cap, e, hb, fun j hj => (h.cell (p := ⟨b, off + j, none⟩) hb).trans (hc j hj)⟩
theorem back_stops (F : Fence) (n : Nat) (h8 : F.fn 120) (hro : F.round = none) (hn : 1 ≤ n) (Bs n₀ : Nat) (sv : Value) (zs : List Int) (hreach : zs.length ≤ 140737488351232) (w : World) (hBs : Bs < w.heap.size) (hn₀ : n₀ ≤ w.heap.size)
    (hc : w.cell? ⟨Bs, 0, none⟩ = some sv) (hI : Bytes n₀ w sv zs) :
    SeqStopsK F n Tryz.prog 120 #[.pointer (some ⟨Bs, 0, none⟩)] (fun x : Int × Int => #[Value.int .i64 x.1, Value.int .u8 x.2]) (KeepB Bs n₀) (fun ys => ys = upTo (backAt zs zs.length) zs.length)
      (fun pre => ∃ k, k ≤ zs.length ∧ pre = upTo (backAt zs zs.length) k) zs.length w := fun l J Jx W hW _ _ hY h0 => by
  have hc' := (hW.cell (p := ⟨Bs, 0, none⟩) hBs).trans hc
  rcases hI.below (hW.mono hn₀) with ⟨rfl, rfl⟩ | ⟨b, off, cap, rfl, hb, hcs⟩
  · exact (back1_nil_in F n h8 hro l Bs J W hc' h0).mono fun e W' ⟨he, hj⟩ => ⟨he, .inl ⟨_, rfl, hj⟩⟩
  · exact back1_in F n h8 hro hn l Bs n₀ b off zs.length cap zs hreach hb J Jx hY W hc' hcs h0
def numStep (v : Int) (x : Int × Int) : Int := bits .or .u64 (IntKind.u64.wrap (v * 256)) (IntKind.u64.wrap x.2)
theorem upTo_nil {α : Type} (f : Nat → α) : upTo f 0 = [] := rfl
def leftOf (b off len cap n : Nat) : Value := .slice (some ⟨b, if cap = n then off else off + n, none⟩) (len - n) (cap - n)
set_option maxRecDepth 100000 in
set_option maxHeartbeats 1000000 in
theorem take_good (β b off len cap n : Nat) (w : World) (hn : 1 ≤ n) (hnl : n ≤ len) (hcap : len ≤ cap)
    (h0 : w.cell? ⟨β, 0, none⟩ = some (.slice (some ⟨b, off, none⟩) len cap)) (h1 : w.cell? ⟨β, 1, none⟩ = some (.bool false)) (hf : w.frozen? ⟨β, 0, none⟩ = false) :
    Calls Tryz.prog 73 #[.pointer (some ⟨β, 0, none⟩), .int .i64 n] w fun e W' => e = .returned (.slice (some ⟨b, off, none⟩) n cap) ∧ W' = w.setCell ⟨β, 0, none⟩ (leftOf b off len cap n) := by
  go_enter Tryz.func73, Tryz.ntmps73
  go_wp2
  · go_ret
    exact ⟨rfl, by unfold leftOf; simp⟩
  · have hcn : ¬ cap = n := by omega
    go_ret
    exact ⟨rfl, by unfold leftOf; rw [if_neg hcn]⟩
def gone (β : Nat) (w : World) : World := (w.setCell ⟨β, 0, none⟩ (.slice none 0 0)).setCell ⟨β, 1, none⟩ (.bool true)
set_option maxRecDepth 100000 in
set_option maxHeartbeats 1000000 in
theorem take_bad (β len cap n : Nat) (a : Option Addr) (bd : Bool) (w : World) (hbad : bd = true ∨ len < n)
    (h0 : w.cell? ⟨β, 0, none⟩ = some (.slice a len cap)) (h1 : w.cell? ⟨β, 1, none⟩ = some (.bool bd)) (hf : w.frozen? ⟨β, 0, none⟩ = false) (hf1 : w.frozen? ⟨β, 1, none⟩ = false) :
    Calls Tryz.prog 73 #[.pointer (some ⟨β, 0, none⟩), .int .i64 n] w fun e W' => e = .returned (.slice none 0 0) ∧ W' = gone β w := by
  cases bd with
  | true =>
    go_enter Tryz.func73, Tryz.ntmps73
    go_wp2
    go_ret
    exact ⟨rfl, rfl⟩
  | false =>
    have hbad : len < n := by simpa using hbad
    go_enter Tryz.func73, Tryz.ntmps73
    go_wp2
    go_ret
    exact ⟨rfl, rfl⟩
set_option maxRecDepth 100000 in
set_option maxHeartbeats 2000000 in
theorem number_bad (β len cap n : Nat) (ad : Option Addr) (bd : Bool) (w : World) (hbad : bd = true ∨ len < n) (hβ : β < w.heap.size)
    (h0 : w.cell? ⟨β, 0, none⟩ = some (.slice ad len cap)) (h1 : w.cell? ⟨β, 1, none⟩ = some (.bool bd)) (hf : w.frozen? ⟨β, 0, none⟩ = false) (hf1 : w.frozen? ⟨β, 1, none⟩ = false) :
    CallsIn Fence.wide 5 Tryz.prog 72 #[.pointer (some ⟨β, 0, none⟩), .int .i64 n] w fun e W' => e = .returned (.int .u64 0) ∧ Below w.heap.size (gone β w) W' := by
  refine callsIn_of_wp_marks Tryz.func72 rfl trivial ?_ rfl
  simp only [Tryz.ntmps72, List.size_toArray, List.length_cons, List.length_nil, Nat.reduceAdd, Nat.reduceSub, Array.replicate_succ, Array.replicate_zero, List.push_toArray, List.append_toArray, List.nil_append, List.cons_append]
  have h0' : (w.alloc (.cells #[.int .u64 0] 98)).cell? ⟨β, 0, none⟩ = some (.slice ad len cap) := by rw [World.cell?_alloc_lt _ _ _ hβ]; exact h0
  have h1' : (w.alloc (.cells #[.int .u64 0] 98)).cell? ⟨β, 1, none⟩ = some (.bool bd) := by rw [World.cell?_alloc_lt _ _ _ hβ]; exact h1
  have hf' : (w.alloc (.cells #[.int .u64 0] 98)).frozen? ⟨β, 0, none⟩ = false := by rw [frozen?_alloc_cells]; exact hf
  have hf1' : (w.alloc (.cells #[.int .u64 0] 98)).frozen? ⟨β, 1, none⟩ = false := by rw [frozen?_alloc_cells]; exact hf1
  gi_wp2_with (first | (refine ⟨trivial, ?_⟩; gi_at_call 98; refine (backward_in Fence.wide _ trivial rfl _ _ _ _).mono ?_; rintro e w' ⟨rfl, rfl⟩) | (refine ⟨trivial, ?_⟩; gi_at_call 73; refine (callsIn_wide.2 (take_bad β len cap n ad bd _ hbad h0' h1' hf' hf1')).mono ?_; rintro e w' ⟨rfl, rfl⟩; unfold gone))
  have hAs : (gone β w).heap.size = w.heap.size := by simp [gone]
  have hAe : (w.setCell ⟨β, 0, none⟩ (.slice none 0 0)).setCell ⟨β, 1, none⟩ (.bool true) = gone β w := rfl
  try rw [hAe]
  generalize hA : gone β w = A at hAs ⊢
  have bS := Boxed.new A 98 (.int .u64 0)
  have bN := Boxed.new (A.alloc (.cells #[.int .u64 0] 98)) 57 (.slice none 0 0)
  rw [World.size_alloc, hAs] at bN
  rw [hAs] at bS
  have hB0 : Below w.heap.size A ((A.alloc (.cells #[.int .u64 0] 98)).alloc (.cells #[.slice none 0 0] 57)) := ((Below.refl _ A).alloc (by omega) _).alloc (by simp; omega) _
  have hBy : Bytes w.heap.size A (.slice none 0 0) [] := .inl ⟨rfl, rfl⟩
  refine wpIn_rangeFunc_ownG rfl (by omega) (gf := 120) (lb := #[.pointer (some ⟨w.heap.size + 1, 0, none⟩)]) (by simp [Act.eval]) trivial (enters_of Tryz.func120 (by kernel_rfl) rfl)
    (back_stops Fence.wide 4 trivial rfl (by omega) (w.heap.size + 1) w.heap.size _ [] (by simp) _ (by simp; omega) (by simp; omega) bN.cell (hBy.below hB0)) KeepB.trans
    (fun W l o o' hl h hcl _ => ⟨fun v e => by
      have hne' : l ≠ w.heap.size + 1 := fun el => by
        subst el
        unfold World.cell? at e
        rw [h] at e
        cases o <;> simp_all [Obj.isCells]
      exact cell_kept e (grownBy_putObj' W l o') (fun r e => by cases e; exact ⟨_, h, hcl⟩), belowK_b (w := A) (by omega) W l o o' (by simp at hl; omega) h hcl (by assumption)⟩) (Below.refl _ _) (fun _ => rfl)
    (fun pre W => (W.cell? ⟨w.heap.size, 0, none⟩ = some (.int .u64 (pre.foldl numStep 0)) ∧ W.frozen? ⟨w.heap.size, 0, none⟩ = false) ∧ Below w.heap.size A W)
    (fun _ _ _ => False)
    (OwnFrom.and (Own.from (fun s A B row hs hg hr => ⟨cell_kept hs.1 hg hr, (frozen_kept hs.1 hg hr).trans hs.2⟩) _) (ownFrom_below (by omega) (by simp; omega)))
    (fun _ _ _ _ _ hs _ _ => hs)
    ⟨⟨(bS.alloc _).cell, (bS.alloc _).frozen⟩, hB0⟩
    (fun x => { tmps := #[.pointer (some ⟨β, 0, none⟩), .int .i64 n, undef, undef, .int .u64 0, .pointer (some ⟨w.heap.size, 0, none⟩), undef, .int .u8 x.2, .pointer (some ⟨β, 0, none⟩), .int .i64 n, .slice none 0 0, .func (.func 120) #[] #[.pointer (some ⟨w.heap.size + 1, 0, none⟩)], .int .i64 x.1, .int .u8 x.2, undef, undef, undef, undef, undef, undef], defers := [] }) ?assign ?body ?done ?stop
  case assign =>
    intro l x W K hK
    gi_wp2
    exact hK
  case body =>
    rintro l pre x W _ hlen
    exact absurd hlen (Nat.not_lt_zero _)
  case done =>
    rintro D ys W hD rfl ⟨⟨hc, _⟩, hB⟩ hK
    gi_wp2
    refine ⟨by simp, .inl ⟨_, _, rfl, run_takeDeferred hK, ?_⟩⟩
    exact ⟨_, results_tmp rfl _ _ _, rfl, by rw [hA]; exact hB.trans (belowK_b (w := A) (by omega) W D _ _ (by simp at hD; omega) hK rfl rfl)⟩
  case stop =>
    rintro D c pre W _ _ h _
    exact h.elim
set_option maxRecDepth 100000 in
set_option maxHeartbeats 2000000 in
theorem number_good (β b off len cap : Nat) (zs : List Int) (w : World) (hn : 1 ≤ zs.length) (hnl : zs.length ≤ len) (hcap : len ≤ cap) (hmax : zs.length ≤ 140737488351232) (hβ : β < w.heap.size)
    (hb : b < w.heap.size) (hne : b ≠ β) (h0 : w.cell? ⟨β, 0, none⟩ = some (.slice (some ⟨b, off, none⟩) len cap)) (h1 : w.cell? ⟨β, 1, none⟩ = some (.bool false)) (hf : w.frozen? ⟨β, 0, none⟩ = false)
    (hc : ∀ j, j < zs.length → w.cell? ⟨b, off + j, none⟩ = some (.int .u8 (zs[j]?.getD 0))) :
    CallsIn Fence.wide 5 Tryz.prog 72 #[.pointer (some ⟨β, 0, none⟩), .int .i64 (zs.length : Int)] w fun e W' => e = .returned (.int .u64 ((upTo (backAt zs zs.length) zs.length).foldl numStep 0)) ∧
      Below w.heap.size (w.setCell ⟨β, 0, none⟩ (leftOf b off len cap zs.length)) W' := by
  refine callsIn_of_wp_marks Tryz.func72 rfl trivial ?_ rfl
  simp only [Tryz.ntmps72, List.size_toArray, List.length_cons, List.length_nil, Nat.reduceAdd, Nat.reduceSub, Array.replicate_succ, Array.replicate_zero, List.push_toArray, List.append_toArray, List.nil_append, List.cons_append]
  have h0' : (w.alloc (.cells #[.int .u64 0] 98)).cell? ⟨β, 0, none⟩ = some (.slice (some ⟨b, off, none⟩) len cap) := by rw [World.cell?_alloc_lt _ _ _ hβ]; exact h0
  have h1' : (w.alloc (.cells #[.int .u64 0] 98)).cell? ⟨β, 1, none⟩ = some (.bool false) := by rw [World.cell?_alloc_lt _ _ _ hβ]; exact h1
  have hf' : (w.alloc (.cells #[.int .u64 0] 98)).frozen? ⟨β, 0, none⟩ = false := by rw [frozen?_alloc_cells]; exact hf
  gi_wp2_with (first | (refine ⟨trivial, ?_⟩; gi_at_call 98; refine (backward_in Fence.wide _ trivial rfl _ _ _ _).mono ?_; rintro e w' ⟨rfl, rfl⟩) | (refine ⟨trivial, ?_⟩; gi_at_call 73; refine (callsIn_wide.2 (take_good β b off len cap zs.length _ hn hnl hcap h0' h1' hf')).mono ?_; rintro e w' ⟨rfl, rfl⟩))
  have hAs : (w.setCell ⟨β, 0, none⟩ (leftOf b off len cap zs.length)).heap.size = w.heap.size := by simp
  generalize hA : w.setCell ⟨β, 0, none⟩ (leftOf b off len cap zs.length) = A at hAs ⊢
  have bS := Boxed.new A 98 (.int .u64 0)
  have bN := Boxed.new (A.alloc (.cells #[.int .u64 0] 98)) 57 (.slice (some ⟨b, off, none⟩) zs.length cap)
  rw [World.size_alloc, hAs] at bN
  rw [hAs] at bS
  have hB0 : Below w.heap.size A ((A.alloc (.cells #[.int .u64 0] 98)).alloc (.cells #[.slice (some ⟨b, off, none⟩) zs.length cap] 57)) := ((Below.refl _ A).alloc (by omega) _).alloc (by simp; omega) _
  have hBy : Bytes w.heap.size A (.slice (some ⟨b, off, none⟩) zs.length cap) zs := .inr ⟨b, off, cap, rfl, hb, fun j hj => by
    rw [← hA, World.cell?_setCell_other _ _ _ _ (by simp)]
    exact hc j hj⟩
  refine wpIn_rangeFunc_ownG rfl (by omega) (gf := 120) (lb := #[.pointer (some ⟨w.heap.size + 1, 0, none⟩)]) (by simp [Act.eval]) trivial (enters_of Tryz.func120 (by kernel_rfl) rfl)
    (back_stops Fence.wide 4 trivial rfl (by omega) (w.heap.size + 1) w.heap.size _ zs (by omega) _ (by simp; omega) (by simp; omega) bN.cell (hBy.below hB0)) KeepB.trans
    (fun W l o o' hl h hcl _ => ⟨fun v e => by
      have hne' : l ≠ w.heap.size + 1 := fun el => by
        subst el
        unfold World.cell? at e
        rw [h] at e
        cases o <;> simp_all [Obj.isCells]
      exact cell_kept e (grownBy_putObj' W l o') (fun r e => by cases e; exact ⟨_, h, hcl⟩), belowK_b (w := A) (by omega) W l o o' (by simp at hl; omega) h hcl (by assumption)⟩) (Below.refl _ _) (fun _ => rfl)
    (fun pre W => (W.cell? ⟨w.heap.size, 0, none⟩ = some (.int .u64 (pre.foldl numStep 0)) ∧ W.frozen? ⟨w.heap.size, 0, none⟩ = false) ∧ Below w.heap.size A W)
    (fun _ _ _ => False)
    (OwnFrom.and (Own.from (fun s A B row hs hg hr => ⟨cell_kept hs.1 hg hr, (frozen_kept hs.1 hg hr).trans hs.2⟩) _) (ownFrom_below (by omega) (by simp; omega)))
    (fun _ _ _ _ _ hs _ _ => hs)
    ⟨⟨(bS.alloc _).cell, (bS.alloc _).frozen⟩, hB0⟩
    (fun x => { tmps := #[.pointer (some ⟨β, 0, none⟩), .int .i64 (zs.length : Int), undef, undef, .int .u64 0, .pointer (some ⟨w.heap.size, 0, none⟩), undef, .int .u8 x.2, .pointer (some ⟨β, 0, none⟩), .int .i64 (zs.length : Int), .slice (some ⟨b, off, none⟩) zs.length cap, .func (.func 120) #[] #[.pointer (some ⟨w.heap.size + 1, 0, none⟩)], .int .i64 x.1, .int .u8 x.2, undef, undef, undef, undef, undef, undef], defers := [] }) ?assign ?body ?done ?stop
  case assign =>
    intro l x W K hK
    gi_wp2
    exact hK
  case body =>
    rintro l pre x W ⟨⟨hc, hf⟩, hB⟩ _
    gi_wp2
    refine ⟨(KeepsOthers.setCell _ _ _).from _, ⟨fun v e => ?_, (Below.refl w.heap.size W).setCell (p := ⟨w.heap.size, 0, none⟩) (Nat.le_refl _) _⟩, ⟨?_, by rw [World.frozen?_setCell]; exact hf⟩, hB.setCell (p := ⟨w.heap.size, 0, none⟩) (Nat.le_refl _) _⟩
    · rw [World.cell?_setCell_other _ _ _ _ (by simp)]; exact e
    · rw [List.foldl_append]; exact World.cell?_setCell_same' _ _ _ (by rw [hc]; rfl)
  case done =>
    rintro D ys W hD rfl ⟨⟨hc, _⟩, hB⟩ hK
    gi_wp2
    refine ⟨by simp, .inl ⟨_, _, rfl, run_takeDeferred hK, ?_⟩⟩
    exact ⟨_, results_tmp rfl _ _ _, rfl, by rw [hA]; exact hB.trans (belowK_b (w := A) (by omega) W D _ _ (by simp at hD; omega) hK rfl rfl)⟩
  case stop =>
    rintro D c pre W _ _ h _
    exact h.elim
end Go.Proofs.YtihignmcjldiiaaGreatDoor
namespace Go.Proofs.YtihignmcjldiiaaGreatDoor.Mir
open Go Go.RowKit
def numV (zs : List Int) : Int := (upTo (backAt zs zs.length) zs.length).foldl numStep 0
def rdF (n : Int) (xs : List Int) (bd : Bool) : Option (Int × List Int × Bool) :=
  bif decide (1 ≤ n ∧ n ≤ 140737488351232) then (bif bd || decide ((xs.length : Int) < n) then some (0, [], true) else some (numV (xs.take n.toNat), xs.drop n.toNat, false)) else none
def rdS : Sum := fnSum 2 1 1 [.one (.ptr 0 0), .one (.d (.int .i64)), .agg [.d (.sl [.int .u8]), .d .bool]] [.one (.d (.int .u64)), .agg [.d (.sl [.int .u8]), .d .bool]] (fun p => rdF p.2.1 p.2.2.1 p.2.2.2)
theorem ends1 {n : Nat} {PS RS : List ShA} {F : TAs PS → Option (TAs RS)} {al : List A} {cs cs' : List C} {r : TAs RS} {g : Gh} {w w' : World} {v : Value} {β : Nat} {vs : Array Value} {ty : TypeId}
    (htk : tksOf RS = []) (hB : Blks g w [cs]) (hk : Knows g w) (hj : g.j 0 = some β) (hout : ((fnSum n 1 1 PS RS F).out al [cs] r).2 = [cs'])
    (hv : RepV { K := g.K, j := g.j, th := fun _ _ => none } ((fnSum n 1 1 PS RS F).out al [cs] r).1 v)
    (hb : w'.heap[β]? = some (.cells vs ty (0, 0))) (hr : RepL { K := g.K, j := g.j, th := fun _ _ => none } cs' vs.toList) (ho : Only (fun k => k = β) w w') : Ends (fnSum n 1 1 PS RS F) al [cs] r g w v w' { K := g.K, j := g.j, th := fun _ _ => none } := by
  obtain ⟨β0, _, _, h1, h2, _, h4⟩ := hB.blk 0 cs rfl
  obtain rfl := Option.some.inj (hj.symm.trans h1)
  have dom : ∀ n β', g.j n = some β' → n = 0 := fun n β' e => by
    obtain ⟨i, h5, h6⟩ := hB.dom n β' e
    simp only [List.length_singleton] at h6
    omega
  refine ⟨fun _ _ _ e => e, fun _ _ _ e => .inl e, fun β' o u e => ?_, hv, ⟨fun i cs0 e => ?_, fun i k β' e1 e2 => ?_, fun m β' e => ?_⟩, ?_, fun i _ => rfl, fun i β' hi e => ?_, noTks (fun _ _ => rfl) (fun p => ?_), noLvs (fun p => ?_), fun β' ⟨n', e, cap, h⟩ => (by cases h), ?_⟩
  · have hne : β' ≠ β := fun e' => by subst e'; have := h4 o; rw [this] at e; cases e
    have := hk β' o u e
    have hl := block_lt_of_cell this
    unfold World.cell? at this ⊢
    rw [ho.block β' hl hne]; exact this
  · rw [hout] at e
    cases i with
    | zero => simp at e; subst e; exact ⟨β, vs, ty, h1, hb, hr, h4⟩
    | succ i => simp at e
  · have := dom _ _ e1; have := dom _ _ e2; omega
  · rw [hout]; exact ⟨0, dom m β' e, by simp⟩
  · rw [hout]; simp
  · have := dom _ _ e; simp at hi; omega
  · show (tksOf RS)[p]? = none
    rw [htk]; rfl
  · show (tksOf RS)[p]? = none
    rw [htk]; rfl
  · exact ho.mono fun k _ e => .inl ⟨0, by simp, by subst e; exact h1⟩
theorem setCell_row {w : World} {β o : Nat} {vs : Array Value} {ty : TypeId} {u : Value} (h : w.heap[β]? = some (.cells vs ty (0, 0))) : (w.setCell ⟨β, o, none⟩ u).heap[β]? = some (.cells (vs.setIfInBounds o u) ty (0, 0)) := by
  have hl := (Array.getElem?_eq_some_iff.1 h).1
  have he := (Array.getElem?_eq_some_iff.1 h).2
  show (w.heap.modify β _)[β]? = _
  rw [Array.getElem?_eq_getElem (by simpa using hl), Array.getElem_modify_self, he]
  rfl
theorem frozen_row {w : World} {β o : Nat} {vs : Array Value} {ty : TypeId} (h : w.heap[β]? = some (.cells vs ty (0, 0))) : w.frozen? ⟨β, o, none⟩ = false := by
  simp [World.frozen?, h]
set_option maxRecDepth 100000 in
theorem rdS_ok {laid : List (Nat × Nat × Value)} : SumOk Tryz.prog laid 72 rdS := by
  intro al bs r hr g w vs hlaid hknown hA hB hTk hLv
  simp only [rdS, fnSum] at hr
  cases hk : (Nat.beq al.length 2 && Nat.beq bs.length 1) with
  | false => rw [hk] at hr; cases hr
  | true =>
    rw [hk] at hr
    simp only [cond_true] at hr
    simp only [Bool.and_eq_true] at hk
    obtain ⟨a0, a1, rfl⟩ : ∃ a0 a1, al = [a0, a1] := by
      match al, Nat.eq_of_beq_eq_true hk.1 with
      | [a0, a1], _ => exact ⟨a0, a1, rfl⟩
    obtain ⟨cs, rfl⟩ : ∃ cs, bs = [cs] := by
      match bs, Nat.eq_of_beq_eq_true hk.2 with
      | [cs], _ => exact ⟨cs, rfl⟩
    split at hr
    · rename_i p ep
      obtain ⟨u, n, xs, bd⟩ := p
      simp only at hr
      obtain ⟨d1, d2⟩ := decAs_get ep
      obtain ⟨x0, _, rfl, h0, x1, _, rfl, h1, rfl⟩ := hA
      obtain ⟨a0', e0, q0, _⟩ := d2 0 a0 rfl
      obtain rfl := Option.some.inj e0
      obtain ⟨β, hj, rfl⟩ : RepC g (.ptr 0 0) x0 := q0 g x0 h0
      obtain ⟨a1', e1, q1, _⟩ := d2 1 a1 rfl
      obtain rfl := Option.some.inj e1
      obtain rfl : x1 = .int .i64 n := q1 g x1 h1
      obtain ⟨a2', e2, q2, _⟩ := d2 2 (.agg cs) rfl
      obtain rfl := Option.some.inj e2
      obtain ⟨β', vs', ty, hb1, hb2, hb3, hb4⟩ := hB.blk 0 cs rfl
      obtain rfl := Option.some.inj (hj.symm.trans hb1)
      obtain ⟨us, eu, hu⟩ := q2 g (.agg vs') ⟨vs'.toList, by simp, hb3⟩
      injection eu with eu
      subst eu
      obtain ⟨sv, _, rfl, hs, bv, _, rfl, hv, rfl⟩ : RepL g [.sl none [.int .u8] xs, boolC bd] us := hu
      obtain rfl : bv = .bool bd := hv
      have hβ : β < w.heap.size := (Array.getElem?_eq_some_iff.1 hb2).1
      have c0 : w.cell? ⟨β, 0, none⟩ = some sv := by rw [cell_row hb2]; rfl
      have c1 : w.cell? ⟨β, 1, none⟩ = some (.bool bd) := by rw [cell_row hb2]; rfl
      have f0 := frozen_row (o := 0) hb2
      have f1 := frozen_row (o := 1) hb2
      unfold rdF at hr
      cases hn : decide (1 ≤ n ∧ n ≤ 140737488351232) with
      | false => rw [hn] at hr; cases hr
      | true =>
        rw [hn] at hr
        simp only [cond_true] at hr
        obtain ⟨hn1, hn2⟩ := of_decide_eq_true hn
        obtain ⟨m, hm⟩ := Int.eq_ofNat_of_zero_le (a := n) (Int.le_trans (by decide) hn1)
        subst hm
        have hn1 : (1 : Int) ≤ (m : Int) := hn1
        have hn2 : (m : Int) ≤ (140737488351232 : Int) := hn2
        have hslice : ∃ ad cap, sv = .slice ad xs.length cap := by
          rcases hs.1 with ⟨rfl, ad, cz, rfl⟩ | ⟨b, off, cap, rfl, _⟩
          · exact ⟨ad, cz, rfl⟩
          · exact ⟨_, cap, rfl⟩
        cases hbad : (bd || decide ((xs.length : Int) < (m : Int))) with
        | true =>
          rw [hbad] at hr
          obtain rfl := Option.some.inj hr
          obtain ⟨ad, cap, rfl⟩ := hslice
          have hb' : bd = true ∨ xs.length < m := by
            rcases Bool.or_eq_true_iff.1 hbad with h | h
            · exact .inl h
            · have h2 : ((List.length (α := Int) xs : Nat) : Int) < (m : Int) := of_decide_eq_true h
              exact .inr (by omega)
          have hC := callsIn_wide.1 (number_bad β xs.length cap m ad bd w hb' hβ c0 c1 f0 f1)
          refine invokes_of_calls Tryz.func72 (by kernel_rfl) rfl (Calls.mono hC ?_)
          rintro e w' ⟨rfl, hw⟩
          refine ⟨_, rfl, _, ends1 (cs := cs) (cs' := [.sl none [.int .u8] [], boolC true]) (β := β) (vs := #[.slice none 0 0, .bool true]) (ty := ty) rfl hB hknown hj rfl rfl ?_ ?_ ?_⟩
          · rw [hw.block β hβ]
            exact setCell_row (setCell_row hb2)
          · exact ⟨_, _, rfl, ⟨.inl ⟨rfl, none, 0, rfl⟩, fun _ _ e => by cases e⟩, _, _, rfl, rfl, rfl⟩
          · refine ⟨hw.os, hw.tape, hw.output, ?_, fun k hk hne => ?_⟩
            · have := hw.size; simpa [gone] using this
            · rw [hw.block k hk]
              unfold gone
              rw [Below.heap_setCell _ _ _ _ hne, Below.heap_setCell _ _ _ _ hne]
        | false =>
          rw [hbad] at hr
          obtain rfl := Option.some.inj hr
          obtain ⟨rfl, hlt⟩ := Bool.or_eq_false_iff.1 hbad
          have hlt : ¬ (((List.length (α := Int) xs : Nat) : Int) < (m : Int)) := of_decide_eq_false hlt
          rcases hs.1 with ⟨rfl, _⟩ | ⟨b, off, cap, rfl, hcap, hel⟩
          · simp at hlt; omega
          have hcap : List.length (α := Int) xs ≤ cap := hcap
          have hbl : ∀ j, j < List.length (α := Int) xs → g.K b (off + j) = some (.int .u8 (xs[j]?.getD 0)) := fun j hj => by
            obtain ⟨us, u1, u2, u3⟩ := hel j xs[j] (List.getElem?_eq_getElem hj)
            obtain rfl : us = [Value.int .u8 xs[j]] := u2
            have := u3 0 _ rfl
            rw [List.getElem?_eq_getElem hj]
            simpa [widSL, widS] using this
          have hbK := hbl 0 (by omega)
          have hbs : b < w.heap.size := block_lt_of_cell (hknown _ _ _ hbK)
          have hne : b ≠ β := fun e => by subst e; rw [hb4] at hbK; cases hbK
          have hzl : (xs.take m).length = m := by rw [List.length_take]; omega
          have hC := callsIn_wide.1 (number_good β b off xs.length cap (xs.take m) w (by omega) (by omega) hcap (by omega) hβ hbs hne c0 c1 f0 (fun j hj => by
            rw [hknown _ _ _ (hbl j (by omega)), List.getElem?_take, if_pos (by omega)]))
          rw [hzl] at hC
          refine invokes_of_calls Tryz.func72 (by kernel_rfl) rfl (Calls.mono hC ?_)
          rintro e w' ⟨rfl, hw⟩
          refine ⟨_, rfl, _, ends1 (cs := cs) (cs' := [.sl none [.int .u8] (xs.drop m), boolC false]) (β := β) (vs := #[leftOf b off xs.length cap m, .bool false]) (ty := ty) rfl hB hknown hj rfl ?_ ?_ ?_ ?_⟩
          · show Value.int .u64 _ = Value.int .u64 (numV (xs.take m))
            unfold numV
            rw [hzl]
          · rw [hw.block β hβ]
            exact setCell_row hb2
          · refine ⟨_, _, rfl, ⟨?_, fun _ _ e => by cases e⟩, _, _, rfl, rfl, rfl⟩
            show RowS g.K _ _ (xs.drop m) (leftOf b off xs.length cap m)
            unfold leftOf
            refine .inr ⟨b, if cap = m then off else off + m, cap - m, by simp, by simp; omega, fun i x hx => ?_⟩
            rw [List.getElem?_drop] at hx
            have hi := (List.getElem?_eq_some_iff.1 hx).1
            obtain ⟨us, u1, u2, u3⟩ := hel (m + i) x hx
            refine ⟨us, u1, u2, fun j u hu => ?_⟩
            rw [if_neg (by omega)]
            have := u3 j u hu
            rw [show off + m + (i * widSL [.int .u8] + j) = off + ((m + i) * widSL [.int .u8] + j) by simp [widSL, widS]; omega]
            exact this
          · refine ⟨hw.os, hw.tape, hw.output, ?_, fun k hk hne => ?_⟩
            · have := hw.size; simpa using this
            · rw [hw.block k hk, Below.heap_setCell _ _ _ _ hne]
    · cases hr
end Go.Proofs.YtihignmcjldiiaaGreatDoor.Mir
namespace Go.Proofs.YtihignmcjldiiaaGreatDoor.Mir
open Go Go.RowKit
set_option maxRecDepth 1000000
def trimF (s c : ByteArray) : Option (TAs [.one (.d .str)]) := bif Nat.blt c.size 4294967281 && c.data.toList.all (fun b => Nat.blt b.toNat 128) then some ⟨(Lib.trimLeftS s.data.toList c.data.toList).toArray⟩ else none
def trimS : Sum := fnSum 2 0 1 [.one (.d .str), .one (.d .str)] [.one (.d .str)] (fun p => trimF p.1 p.2)
theorem trimS_ok : SumOk Tryz.prog laidL 91 trimS := by
  refine bridge rfl (fun _ => rfl) ?_
  rintro ⟨s, c⟩ r h g w vs _ ⟨_, _, rfl, hs, _, _, rfl, hc, rfl⟩
  simp only [trimF] at h
  cases hk : (Nat.blt c.size 4294967281 && c.data.toList.all (fun b => Nat.blt b.toNat 128)) with
  | false => rw [hk] at h; cases h
  | true =>
    rw [hk] at h
    obtain rfl := Option.some.inj h
    simp only [Bool.and_eq_true] at hk
    cases hs; cases hc
    refine invokes_of_calls Tryz.func91 (by kernel_rfl) (by kernel_rfl) ((Any.strings_TrimLeft_laid Tryz.lays161 (by kernel_rfl) s c w (Nat.le_of_ble_eq_true hk.1) (fun j b hb => ?_)).mono ?_)
    · exact Nat.le_of_ble_eq_true (List.all_eq_true.1 hk.2 b (List.mem_of_getElem? hb))
    · rintro e w' ⟨rfl, hw⟩
      exact ⟨_, rfl, rfl, hw⟩
end Go.Proofs.YtihignmcjldiiaaGreatDoor.Mir
namespace Go.Proofs
open Go.Shelf
def Tryz.growB_ren : Go.Shelf.Ren := ⟨fun | 4 => 63 | n => n, fun | 22 => 57 | 25 => 5 | 3 => 3 | 4 => 4 | 9 => 9 | 20 => 20 | 0 => 0 | n => n, fun | n => n⟩
theorem Tryz.growB : Go.Proofs.Lays8.n4 Tryz.prog Tryz.growB_ren := {
  mixed := by kernel_rfl
  f4 := ⟨Tryz.f63.name, by decide, Tryz.func63.trans (congrArg some (by kernel_rfl))⟩
  t0 := Tryz.underlying0
  a0 := Tryz.isAgg0
  z0 := Tryz.sizeOf0
  v0 := Tryz.zeroValue0
  t3 := Tryz.underlying3
  a3 := Tryz.isAgg3
  z3 := Tryz.sizeOf3
  v3 := Tryz.zeroValue3
  t4 := Tryz.underlying4
  a4 := Tryz.isAgg4
  z4 := Tryz.sizeOf4
  v4 := Tryz.zeroValue4
  t9 := Tryz.underlying9
  a9 := Tryz.isAgg9
  z9 := Tryz.sizeOf9
  v9 := Tryz.zeroValue9
  t20 := Tryz.underlying20
  a20 := Tryz.isAgg20
  z20 := Tryz.sizeOf20
  v20 := Tryz.zeroValue20
  t22 := Tryz.underlying57
  a22 := Tryz.isAgg57
  z22 := Tryz.sizeOf57
  v22 := Tryz.zeroValue57 }
end Go.Proofs
namespace Go.Proofs.YtihignmcjldiiaaGreatDoor.Mir
open Go Go.RowKit
set_option maxRecDepth 100000
def growBs : Sum := growS [.int .u8] 5 1 1
theorem growBs_ok {laid : List (Nat × Nat × Value)} : SumOk Tryz.prog laid 63 growBs := by
  refine growS_ok_of Tryz.func63 (by kernel_rfl) (by kernel_rfl) (fun w => ?_) (fun n w hn hb hm => ?_)
  · exact Any8.slices_Grow_room Tryz.growB none 0 0 0 w (by omega) (by omega) (by omega) (by omega)
  · refine (Any8.slices_Grow_grow Tryz.growB Tryz.t5 (.int .u8 0) (by kernel_rfl) (by kernel_rfl) (by rw [show (Tryz.t5).size = 1 from by kernel_rfl]; omega) none 0 0 n [] w (by omega) (by omega) ?_ (by omega) rfl (fun _ => rfl) (fun a e => by cases e)).mono ?_
    · rw [show (Tryz.t5).bytes = 1 from by kernel_rfl]; omega
    · rintro e w' ⟨rfl, rfl⟩
      have hG := grownCap_le_maxLen w (0 + n) 0 (Tryz.growB_ren.t 25) (by unfold maxLen; omega)
      have hg := grownCap_ge w (0 + n) 0 (Tryz.growB_ren.t 25)
      refine ⟨_, _, hG, ?_, rfl, rfl⟩
      simp only [Array.size_append, size_zeroCells]
      rw [show (Value.int IntKind.u8 0).cells.size = 1 from rfl]
      generalize grownCap w (0 + n) 0 (Tryz.growB_ren.t 25) = G at hg ⊢
      simp only [List.size_toArray, List.length_nil]
      omega
def growBsL : Sum := growSL [.int .u8] 5 1 1
theorem growBsL_ok {laid : List (Nat × Nat × Value)} : SumOk Tryz.prog laid 63 growBsL := by
  refine growSL_ok_of Tryz.func63 (by kernel_rfl) (by kernel_rfl) rfl (fun w => ?_) (fun n w hn hb hm => ?_)
  · exact Any8.slices_Grow_room Tryz.growB none 0 0 0 w (by omega) (by omega) (by omega) (by omega)
  · refine (Any8.slices_Grow_grow Tryz.growB Tryz.t5 (.int .u8 0) (by kernel_rfl) (by kernel_rfl) (by rw [show (Tryz.t5).size = 1 from by kernel_rfl]; omega) none 0 0 n [] w (by omega) (by omega) ?_ (by omega) rfl (fun _ => rfl) (fun a e => by cases e)).mono ?_
    · rw [show (Tryz.t5).bytes = 1 from by kernel_rfl]; omega
    · rintro e w' ⟨rfl, rfl⟩
      have hG := grownCap_le_maxLen w (0 + n) 0 (Tryz.growB_ren.t 25) (by unfold maxLen; omega)
      have hg := grownCap_ge w (0 + n) 0 (Tryz.growB_ren.t 25)
      refine ⟨_, _, hG, ?_, rfl, rfl⟩
      simp only [Array.size_append, size_zeroCells]
      rw [show (Value.int IntKind.u8 0).cells.size = 1 from rfl]
      generalize grownCap w (0 + n) 0 (Tryz.growB_ren.t 25) = G at hg ⊢
      simp only [List.size_toArray, List.length_nil]
      omega
end Go.Proofs.YtihignmcjldiiaaGreatDoor.Mir
namespace Go.Proofs.YtihignmcjldiiaaGreatDoor.Mir
open Go Go.RowKit
def ti_2 : TI := ⟨.int .i64, 1, 8, [int .i64 0], [.int .i64]⟩
theorem tk_2 : TyOk1 Go.Proofs.Tryz.prog 2 ti_2 := ⟨by kernel_rfl, fieldsNone (fun fs h => by cases h), ⟨Go.Proofs.Tryz.t2, (Go.Proofs.Tryz.t2.zero).getD .nilIface, by kernel_rfl, by kernel_rfl, by kernel_rfl, by kernel_rfl, by kernel_rfl⟩⟩
def ti_3 : TI := ⟨.int .i64, 1, 8, [int .i64 0], [.int .i64]⟩
theorem tk_3 : TyOk1 Go.Proofs.Tryz.prog 3 ti_3 := ⟨by kernel_rfl, fieldsNone (fun fs h => by cases h), ⟨Go.Proofs.Tryz.t3, (Go.Proofs.Tryz.t3.zero).getD .nilIface, by kernel_rfl, by kernel_rfl, by kernel_rfl, by kernel_rfl, by kernel_rfl⟩⟩
def ti_4 : TI := ⟨.bool, 1, 1, [boolC false], [.bool]⟩
theorem tk_4 : TyOk1 Go.Proofs.Tryz.prog 4 ti_4 := ⟨by kernel_rfl, fieldsNone (fun fs h => by cases h), ⟨Go.Proofs.Tryz.t4, (Go.Proofs.Tryz.t4.zero).getD .nilIface, by kernel_rfl, by kernel_rfl, by kernel_rfl, by kernel_rfl, by kernel_rfl⟩⟩
def ti_5 : TI := ⟨.int .u8, 1, 1, [int .u8 0], [.int .u8]⟩
theorem tk_5 : TyOk1 Go.Proofs.Tryz.prog 5 ti_5 := ⟨by kernel_rfl, fieldsNone (fun fs h => by cases h), ⟨Go.Proofs.Tryz.t5, (Go.Proofs.Tryz.t5.zero).getD .nilIface, by kernel_rfl, by kernel_rfl, by kernel_rfl, by kernel_rfl, by kernel_rfl⟩⟩
def ti_9 : TI := ⟨.string, 1, 16, [.lit (.string ByteArray.empty)], [.str]⟩
theorem tk_9 : TyOk1 Go.Proofs.Tryz.prog 9 ti_9 := ⟨by kernel_rfl, fieldsNone (fun fs h => by cases h), ⟨Go.Proofs.Tryz.t9, (Go.Proofs.Tryz.t9.zero).getD .nilIface, by kernel_rfl, by kernel_rfl, by kernel_rfl, by kernel_rfl, by kernel_rfl⟩⟩
def ti_22 : TI := ⟨.array 16 5, 16, 16, [.arr .u8 16 (List.replicate 16 0)], [.arr .u8 16]⟩
theorem tk_22 : TyOk1 Go.Proofs.Tryz.prog 22 ti_22 := ⟨by kernel_rfl, fieldsNone (fun fs h => by cases h), ⟨Go.Proofs.Tryz.t22, (Go.Proofs.Tryz.t22.zero).getD .nilIface, by kernel_rfl, by kernel_rfl, by kernel_rfl, by kernel_rfl, by kernel_rfl⟩⟩
def ti_24 : TI := ⟨.struct #[{ name := "Kind", type := 3, offset := 0, embedded := false, tag := "", pkgPath := "", byteOffset := 0 }, { name := "Before", type := 2, offset := 1, embedded := false, tag := "", pkgPath := "", byteOffset := 8 }, { name := "After", type := 2, offset := 2, embedded := false, tag := "", pkgPath := "", byteOffset := 16 }], 3, 24, [int .i64 0, int .i64 0, int .i64 0], [.int .i64, .int .i64, .int .i64]⟩
theorem tk_24 : TyOk1 Go.Proofs.Tryz.prog 24 ti_24 := ⟨by kernel_rfl, fieldsSome rfl (by kernel_rfl), ⟨Go.Proofs.Tryz.t24, (Go.Proofs.Tryz.t24.zero).getD .nilIface, by kernel_rfl, by kernel_rfl, by kernel_rfl, by kernel_rfl, by kernel_rfl⟩⟩
def ti_26 : TI := ⟨.struct #[{ name := "Width", type := 2, offset := 0, embedded := false, tag := "", pkgPath := "", byteOffset := 0 }, { name := "Cell", type := 2, offset := 1, embedded := false, tag := "", pkgPath := "", byteOffset := 8 }], 2, 16, [int .i64 0, int .i64 0], [.int .i64, .int .i64]⟩
theorem tk_26 : TyOk1 Go.Proofs.Tryz.prog 26 ti_26 := ⟨by kernel_rfl, fieldsSome rfl (by kernel_rfl), ⟨Go.Proofs.Tryz.t26, (Go.Proofs.Tryz.t26.zero).getD .nilIface, by kernel_rfl, by kernel_rfl, by kernel_rfl, by kernel_rfl, by kernel_rfl⟩⟩
def ti_27 : TI := ⟨.slice 127, 1, 24, [.lit (.slice none 0 0)], [.sl [.int .i64, .int .i64, .str]]⟩
theorem tk_27 : TyOk1 Go.Proofs.Tryz.prog 27 ti_27 := ⟨by kernel_rfl, fieldsNone (fun fs h => by cases h), ⟨Go.Proofs.Tryz.t27, (Go.Proofs.Tryz.t27.zero).getD .nilIface, by kernel_rfl, by kernel_rfl, by kernel_rfl, by kernel_rfl, by kernel_rfl⟩⟩
def ti_29 : TI := ⟨.struct #[{ name := "Name", type := 9, offset := 0, embedded := false, tag := "", pkgPath := "", byteOffset := 0 }, { name := "First", type := 2, offset := 1, embedded := false, tag := "", pkgPath := "", byteOffset := 16 }, { name := "L", type := 27, offset := 2, embedded := false, tag := "", pkgPath := "", byteOffset := 24 }], 3, 48, [.lit (.string ByteArray.empty), int .i64 0, .lit (.slice none 0 0)], [.str, .int .i64, .sl [.int .i64, .int .i64, .str]]⟩
theorem tk_29 : TyOk1 Go.Proofs.Tryz.prog 29 ti_29 := ⟨by kernel_rfl, fieldsSome rfl (by kernel_rfl), ⟨Go.Proofs.Tryz.t29, (Go.Proofs.Tryz.t29.zero).getD .nilIface, by kernel_rfl, by kernel_rfl, by kernel_rfl, by kernel_rfl, by kernel_rfl⟩⟩
def ti_31 : TI := ⟨.struct #[{ name := "Smear", type := 24, offset := 0, embedded := false, tag := "", pkgPath := "", byteOffset := 0 }, { name := "Quantum", type := 2, offset := 3, embedded := false, tag := "", pkgPath := "", byteOffset := 24 }, { name := "Fuzz", type := 26, offset := 4, embedded := false, tag := "", pkgPath := "", byteOffset := 32 }, { name := "Jump", type := 4, offset := 6, embedded := false, tag := "", pkgPath := "", byteOffset := 48 }, { name := "Zone", type := 29, offset := 7, embedded := false, tag := "", pkgPath := "", byteOffset := 56 }], 10, 104, [int .i64 0, int .i64 0, int .i64 0, int .i64 0, int .i64 0, int .i64 0, boolC false, .lit (.string ByteArray.empty), int .i64 0, .lit (.slice none 0 0)], [.int .i64, .int .i64, .int .i64, .int .i64, .int .i64, .int .i64, .bool, .str, .int .i64, .sl [.int .i64, .int .i64, .str]]⟩
theorem tk_31 : TyOk1 Go.Proofs.Tryz.prog 31 ti_31 := ⟨by kernel_rfl, fieldsSome rfl (by kernel_rfl), ⟨Go.Proofs.Tryz.t31, (Go.Proofs.Tryz.t31.zero).getD .nilIface, by kernel_rfl, by kernel_rfl, by kernel_rfl, by kernel_rfl, by kernel_rfl⟩⟩
def ti_33 : TI := ⟨.struct #[{ name := "On", type := 4, offset := 0, embedded := false, tag := "", pkgPath := "", byteOffset := 0 }, { name := "At", type := 2, offset := 1, embedded := false, tag := "", pkgPath := "", byteOffset := 8 }, { name := "Lost", type := 2, offset := 2, embedded := false, tag := "", pkgPath := "", byteOffset := 16 }], 3, 24, [boolC false, int .i64 0, int .i64 0], [.bool, .int .i64, .int .i64]⟩
theorem tk_33 : TyOk1 Go.Proofs.Tryz.prog 33 ti_33 := ⟨by kernel_rfl, fieldsSome rfl (by kernel_rfl), ⟨Go.Proofs.Tryz.t33, (Go.Proofs.Tryz.t33.zero).getD .nilIface, by kernel_rfl, by kernel_rfl, by kernel_rfl, by kernel_rfl, by kernel_rfl⟩⟩
def ti_35 : TI := ⟨.struct #[{ name := "Set", type := 4, offset := 0, embedded := false, tag := "", pkgPath := "", byteOffset := 0 }, { name := "At", type := 2, offset := 1, embedded := false, tag := "", pkgPath := "", byteOffset := 8 }], 2, 16, [boolC false, int .i64 0], [.bool, .int .i64]⟩
theorem tk_35 : TyOk1 Go.Proofs.Tryz.prog 35 ti_35 := ⟨by kernel_rfl, fieldsSome rfl (by kernel_rfl), ⟨Go.Proofs.Tryz.t35, (Go.Proofs.Tryz.t35.zero).getD .nilIface, by kernel_rfl, by kernel_rfl, by kernel_rfl, by kernel_rfl, by kernel_rfl⟩⟩
def ti_37 : TI := ⟨.struct #[{ name := "Name", type := 9, offset := 0, embedded := false, tag := "", pkgPath := "", byteOffset := 0 }, { name := "Key", type := 22, offset := 1, embedded := false, tag := "", pkgPath := "", byteOffset := 16 }, { name := "P", type := 31, offset := 17, embedded := false, tag := "", pkgPath := "", byteOffset := 32 }, { name := "Pause", type := 33, offset := 27, embedded := false, tag := "", pkgPath := "", byteOffset := 136 }, { name := "Floor", type := 35, offset := 30, embedded := false, tag := "", pkgPath := "", byteOffset := 160 }, { name := "Epoch", type := 2, offset := 32, embedded := false, tag := "", pkgPath := "", byteOffset := 176 }], 33, 184, [.lit (.string ByteArray.empty), .arr .u8 16 (List.replicate 16 0), int .i64 0, int .i64 0, int .i64 0, int .i64 0, int .i64 0, int .i64 0, boolC false, .lit (.string ByteArray.empty), int .i64 0, .lit (.slice none 0 0), boolC false, int .i64 0, int .i64 0, boolC false, int .i64 0, int .i64 0], [.str, .arr .u8 16, .int .i64, .int .i64, .int .i64, .int .i64, .int .i64, .int .i64, .bool, .str, .int .i64, .sl [.int .i64, .int .i64, .str], .bool, .int .i64, .int .i64, .bool, .int .i64, .int .i64]⟩
theorem tk_37 : TyOk1 Go.Proofs.Tryz.prog 37 ti_37 := ⟨by kernel_rfl, fieldsSome rfl (by kernel_rfl), ⟨Go.Proofs.Tryz.t37, (Go.Proofs.Tryz.t37.zero).getD .nilIface, by kernel_rfl, by kernel_rfl, by kernel_rfl, by kernel_rfl, by kernel_rfl⟩⟩
def ti_39 : TI := ⟨.struct #[{ name := "Kind", type := 5, offset := 0, embedded := false, tag := "", pkgPath := "", byteOffset := 0 }, { name := "Epoch", type := 2, offset := 1, embedded := false, tag := "", pkgPath := "", byteOffset := 8 }, { name := "Name", type := 9, offset := 2, embedded := false, tag := "", pkgPath := "", byteOffset := 16 }, { name := "Tenant", type := 37, offset := 3, embedded := false, tag := "", pkgPath := "", byteOffset := 32 }], 36, 216, [int .u8 0, int .i64 0, .lit (.string ByteArray.empty), .lit (.string ByteArray.empty), .arr .u8 16 (List.replicate 16 0), int .i64 0, int .i64 0, int .i64 0, int .i64 0, int .i64 0, int .i64 0, boolC false, .lit (.string ByteArray.empty), int .i64 0, .lit (.slice none 0 0), boolC false, int .i64 0, int .i64 0, boolC false, int .i64 0, int .i64 0], [.int .u8, .int .i64, .str, .str, .arr .u8 16, .int .i64, .int .i64, .int .i64, .int .i64, .int .i64, .int .i64, .bool, .str, .int .i64, .sl [.int .i64, .int .i64, .str], .bool, .int .i64, .int .i64, .bool, .int .i64, .int .i64]⟩
theorem tk_39 : TyOk1 Go.Proofs.Tryz.prog 39 ti_39 := ⟨by kernel_rfl, fieldsSome rfl (by kernel_rfl), ⟨Go.Proofs.Tryz.t39, (Go.Proofs.Tryz.t39.zero).getD .nilIface, by kernel_rfl, by kernel_rfl, by kernel_rfl, by kernel_rfl, by kernel_rfl⟩⟩
def ti_40 : TI := ⟨.array 16 5, 16, 16, [.arr .u8 16 (List.replicate 16 0)], [.arr .u8 16]⟩
theorem tk_40 : TyOk1 Go.Proofs.Tryz.prog 40 ti_40 := ⟨by kernel_rfl, fieldsNone (fun fs h => by cases h), ⟨Go.Proofs.Tryz.t40, (Go.Proofs.Tryz.t40.zero).getD .nilIface, by kernel_rfl, by kernel_rfl, by kernel_rfl, by kernel_rfl, by kernel_rfl⟩⟩
def ti_41 : TI := ⟨.struct #[{ name := "Kind", type := 3, offset := 0, embedded := false, tag := "", pkgPath := "", byteOffset := 0 }, { name := "Before", type := 2, offset := 1, embedded := false, tag := "", pkgPath := "", byteOffset := 8 }, { name := "After", type := 2, offset := 2, embedded := false, tag := "", pkgPath := "", byteOffset := 16 }], 3, 24, [int .i64 0, int .i64 0, int .i64 0], [.int .i64, .int .i64, .int .i64]⟩
theorem tk_41 : TyOk1 Go.Proofs.Tryz.prog 41 ti_41 := ⟨by kernel_rfl, fieldsSome rfl (by kernel_rfl), ⟨Go.Proofs.Tryz.t41, (Go.Proofs.Tryz.t41.zero).getD .nilIface, by kernel_rfl, by kernel_rfl, by kernel_rfl, by kernel_rfl, by kernel_rfl⟩⟩
def ti_42 : TI := ⟨.struct #[{ name := "Width", type := 2, offset := 0, embedded := false, tag := "", pkgPath := "", byteOffset := 0 }, { name := "Cell", type := 2, offset := 1, embedded := false, tag := "", pkgPath := "", byteOffset := 8 }], 2, 16, [int .i64 0, int .i64 0], [.int .i64, .int .i64]⟩
theorem tk_42 : TyOk1 Go.Proofs.Tryz.prog 42 ti_42 := ⟨by kernel_rfl, fieldsSome rfl (by kernel_rfl), ⟨Go.Proofs.Tryz.t42, (Go.Proofs.Tryz.t42.zero).getD .nilIface, by kernel_rfl, by kernel_rfl, by kernel_rfl, by kernel_rfl, by kernel_rfl⟩⟩
def ti_43 : TI := ⟨.slice 177, 1, 24, [.lit (.slice none 0 0)], [.sl [.int .i64, .int .i64, .str]]⟩
theorem tk_43 : TyOk1 Go.Proofs.Tryz.prog 43 ti_43 := ⟨by kernel_rfl, fieldsNone (fun fs h => by cases h), ⟨Go.Proofs.Tryz.t43, (Go.Proofs.Tryz.t43.zero).getD .nilIface, by kernel_rfl, by kernel_rfl, by kernel_rfl, by kernel_rfl, by kernel_rfl⟩⟩
def ti_45 : TI := ⟨.struct #[{ name := "Name", type := 9, offset := 0, embedded := false, tag := "", pkgPath := "", byteOffset := 0 }, { name := "First", type := 2, offset := 1, embedded := false, tag := "", pkgPath := "", byteOffset := 16 }, { name := "L", type := 43, offset := 2, embedded := false, tag := "", pkgPath := "", byteOffset := 24 }], 3, 48, [.lit (.string ByteArray.empty), int .i64 0, .lit (.slice none 0 0)], [.str, .int .i64, .sl [.int .i64, .int .i64, .str]]⟩
theorem tk_45 : TyOk1 Go.Proofs.Tryz.prog 45 ti_45 := ⟨by kernel_rfl, fieldsSome rfl (by kernel_rfl), ⟨Go.Proofs.Tryz.t45, (Go.Proofs.Tryz.t45.zero).getD .nilIface, by kernel_rfl, by kernel_rfl, by kernel_rfl, by kernel_rfl, by kernel_rfl⟩⟩
def ti_47 : TI := ⟨.struct #[{ name := "Smear", type := 41, offset := 0, embedded := false, tag := "", pkgPath := "", byteOffset := 0 }, { name := "Quantum", type := 2, offset := 3, embedded := false, tag := "", pkgPath := "", byteOffset := 24 }, { name := "Fuzz", type := 42, offset := 4, embedded := false, tag := "", pkgPath := "", byteOffset := 32 }, { name := "Jump", type := 4, offset := 6, embedded := false, tag := "", pkgPath := "", byteOffset := 48 }, { name := "Zone", type := 45, offset := 7, embedded := false, tag := "", pkgPath := "", byteOffset := 56 }], 10, 104, [int .i64 0, int .i64 0, int .i64 0, int .i64 0, int .i64 0, int .i64 0, boolC false, .lit (.string ByteArray.empty), int .i64 0, .lit (.slice none 0 0)], [.int .i64, .int .i64, .int .i64, .int .i64, .int .i64, .int .i64, .bool, .str, .int .i64, .sl [.int .i64, .int .i64, .str]]⟩
theorem tk_47 : TyOk1 Go.Proofs.Tryz.prog 47 ti_47 := ⟨by kernel_rfl, fieldsSome rfl (by kernel_rfl), ⟨Go.Proofs.Tryz.t47, (Go.Proofs.Tryz.t47.zero).getD .nilIface, by kernel_rfl, by kernel_rfl, by kernel_rfl, by kernel_rfl, by kernel_rfl⟩⟩
def ti_48 : TI := ⟨.struct #[{ name := "On", type := 4, offset := 0, embedded := false, tag := "", pkgPath := "", byteOffset := 0 }, { name := "At", type := 2, offset := 1, embedded := false, tag := "", pkgPath := "", byteOffset := 8 }, { name := "Lost", type := 2, offset := 2, embedded := false, tag := "", pkgPath := "", byteOffset := 16 }], 3, 24, [boolC false, int .i64 0, int .i64 0], [.bool, .int .i64, .int .i64]⟩
theorem tk_48 : TyOk1 Go.Proofs.Tryz.prog 48 ti_48 := ⟨by kernel_rfl, fieldsSome rfl (by kernel_rfl), ⟨Go.Proofs.Tryz.t48, (Go.Proofs.Tryz.t48.zero).getD .nilIface, by kernel_rfl, by kernel_rfl, by kernel_rfl, by kernel_rfl, by kernel_rfl⟩⟩
def ti_49 : TI := ⟨.struct #[{ name := "Set", type := 4, offset := 0, embedded := false, tag := "", pkgPath := "", byteOffset := 0 }, { name := "At", type := 2, offset := 1, embedded := false, tag := "", pkgPath := "", byteOffset := 8 }], 2, 16, [boolC false, int .i64 0], [.bool, .int .i64]⟩
theorem tk_49 : TyOk1 Go.Proofs.Tryz.prog 49 ti_49 := ⟨by kernel_rfl, fieldsSome rfl (by kernel_rfl), ⟨Go.Proofs.Tryz.t49, (Go.Proofs.Tryz.t49.zero).getD .nilIface, by kernel_rfl, by kernel_rfl, by kernel_rfl, by kernel_rfl, by kernel_rfl⟩⟩
def ti_51 : TI := ⟨.struct #[{ name := "Name", type := 9, offset := 0, embedded := false, tag := "", pkgPath := "", byteOffset := 0 }, { name := "Key", type := 40, offset := 1, embedded := false, tag := "", pkgPath := "", byteOffset := 16 }, { name := "P", type := 47, offset := 17, embedded := false, tag := "", pkgPath := "", byteOffset := 32 }, { name := "Pause", type := 48, offset := 27, embedded := false, tag := "", pkgPath := "", byteOffset := 136 }, { name := "Floor", type := 49, offset := 30, embedded := false, tag := "", pkgPath := "", byteOffset := 160 }, { name := "Epoch", type := 2, offset := 32, embedded := false, tag := "", pkgPath := "", byteOffset := 176 }], 33, 184, [.lit (.string ByteArray.empty), .arr .u8 16 (List.replicate 16 0), int .i64 0, int .i64 0, int .i64 0, int .i64 0, int .i64 0, int .i64 0, boolC false, .lit (.string ByteArray.empty), int .i64 0, .lit (.slice none 0 0), boolC false, int .i64 0, int .i64 0, boolC false, int .i64 0, int .i64 0], [.str, .arr .u8 16, .int .i64, .int .i64, .int .i64, .int .i64, .int .i64, .int .i64, .bool, .str, .int .i64, .sl [.int .i64, .int .i64, .str], .bool, .int .i64, .int .i64, .bool, .int .i64, .int .i64]⟩
theorem tk_51 : TyOk1 Go.Proofs.Tryz.prog 51 ti_51 := ⟨by kernel_rfl, fieldsSome rfl (by kernel_rfl), ⟨Go.Proofs.Tryz.t51, (Go.Proofs.Tryz.t51.zero).getD .nilIface, by kernel_rfl, by kernel_rfl, by kernel_rfl, by kernel_rfl, by kernel_rfl⟩⟩
def ti_53 : TI := ⟨.struct #[{ name := "Kind", type := 5, offset := 0, embedded := false, tag := "", pkgPath := "", byteOffset := 0 }, { name := "Epoch", type := 2, offset := 1, embedded := false, tag := "", pkgPath := "", byteOffset := 8 }, { name := "Name", type := 9, offset := 2, embedded := false, tag := "", pkgPath := "", byteOffset := 16 }, { name := "Tenant", type := 51, offset := 3, embedded := false, tag := "", pkgPath := "", byteOffset := 32 }], 36, 216, [int .u8 0, int .i64 0, .lit (.string ByteArray.empty), .lit (.string ByteArray.empty), .arr .u8 16 (List.replicate 16 0), int .i64 0, int .i64 0, int .i64 0, int .i64 0, int .i64 0, int .i64 0, boolC false, .lit (.string ByteArray.empty), int .i64 0, .lit (.slice none 0 0), boolC false, int .i64 0, int .i64 0, boolC false, int .i64 0, int .i64 0], [.int .u8, .int .i64, .str, .str, .arr .u8 16, .int .i64, .int .i64, .int .i64, .int .i64, .int .i64, .int .i64, .bool, .str, .int .i64, .sl [.int .i64, .int .i64, .str], .bool, .int .i64, .int .i64, .bool, .int .i64, .int .i64]⟩
theorem tk_53 : TyOk1 Go.Proofs.Tryz.prog 53 ti_53 := ⟨by kernel_rfl, fieldsSome rfl (by kernel_rfl), ⟨Go.Proofs.Tryz.t53, (Go.Proofs.Tryz.t53.zero).getD .nilIface, by kernel_rfl, by kernel_rfl, by kernel_rfl, by kernel_rfl, by kernel_rfl⟩⟩
def ti_57 : TI := ⟨.slice 5, 1, 24, [.lit (.slice none 0 0)], [.sl [.int .u8]]⟩
theorem tk_57 : TyOk1 Go.Proofs.Tryz.prog 57 ti_57 := ⟨by kernel_rfl, fieldsNone (fun fs h => by cases h), ⟨Go.Proofs.Tryz.t57, (Go.Proofs.Tryz.t57.zero).getD .nilIface, by kernel_rfl, by kernel_rfl, by kernel_rfl, by kernel_rfl, by kernel_rfl⟩⟩
def ti_59 : TI := ⟨.interface #[("Error", 104)], 1, 16, [.lit .nilIface], [.err 93]⟩
theorem tk_59 : TyOk1 Go.Proofs.Tryz.prog 59 ti_59 := ⟨by kernel_rfl, fieldsNone (fun fs h => by cases h), ⟨Go.Proofs.Tryz.t59, (Go.Proofs.Tryz.t59.zero).getD .nilIface, by kernel_rfl, by kernel_rfl, by kernel_rfl, by kernel_rfl, by kernel_rfl⟩⟩
def ti_83 : TI := ⟨.int .u64, 1, 8, [int .u64 0], [.int .u64]⟩
theorem tk_83 : TyOk1 Go.Proofs.Tryz.prog 83 ti_83 := ⟨by kernel_rfl, fieldsNone (fun fs h => by cases h), ⟨Go.Proofs.Tryz.t83, (Go.Proofs.Tryz.t83.zero).getD .nilIface, by kernel_rfl, by kernel_rfl, by kernel_rfl, by kernel_rfl, by kernel_rfl⟩⟩
def ti_93 : TI := ⟨.int .i64, 1, 8, [int .i64 0], [.int .i64]⟩
theorem tk_93 : TyOk1 Go.Proofs.Tryz.prog 93 ti_93 := ⟨by kernel_rfl, fieldsNone (fun fs h => by cases h), ⟨Go.Proofs.Tryz.t93, (Go.Proofs.Tryz.t93.zero).getD .nilIface, by kernel_rfl, by kernel_rfl, by kernel_rfl, by kernel_rfl, by kernel_rfl⟩⟩
def ti_98 : TI := ⟨.int .u64, 1, 8, [int .u64 0], [.int .u64]⟩
theorem tk_98 : TyOk1 Go.Proofs.Tryz.prog 98 ti_98 := ⟨by kernel_rfl, fieldsNone (fun fs h => by cases h), ⟨Go.Proofs.Tryz.t98, (Go.Proofs.Tryz.t98.zero).getD .nilIface, by kernel_rfl, by kernel_rfl, by kernel_rfl, by kernel_rfl, by kernel_rfl⟩⟩
def ti_100 : TI := ⟨.pointer 141, 1, 8, [.lit (Value.pointer none)], []⟩
theorem tk_100 : TyOk1 Go.Proofs.Tryz.prog 100 ti_100 := ⟨by kernel_rfl, fieldsNone (fun fs h => by cases h), ⟨Go.Proofs.Tryz.t100, (Go.Proofs.Tryz.t100.zero).getD .nilIface, by kernel_rfl, by kernel_rfl, by kernel_rfl, by kernel_rfl, by kernel_rfl⟩⟩
def ti_108 : TI := ⟨.struct #[{ name := "B", type := 57, offset := 0, embedded := false, tag := "", pkgPath := "", byteOffset := 0 }, { name := "Bad", type := 4, offset := 1, embedded := false, tag := "", pkgPath := "", byteOffset := 24 }], 2, 32, [.lit (.slice none 0 0), boolC false], [.sl [.int .u8], .bool]⟩
theorem tk_108 : TyOk1 Go.Proofs.Tryz.prog 108 ti_108 := ⟨by kernel_rfl, fieldsSome rfl (by kernel_rfl), ⟨Go.Proofs.Tryz.t108, (Go.Proofs.Tryz.t108.zero).getD .nilIface, by kernel_rfl, by kernel_rfl, by kernel_rfl, by kernel_rfl, by kernel_rfl⟩⟩
def ti_124 : TI := ⟨.pointer 93, 1, 8, [.lit (Value.pointer none)], []⟩
theorem tk_124 : TyOk1 Go.Proofs.Tryz.prog 124 ti_124 := ⟨by kernel_rfl, fieldsNone (fun fs h => by cases h), ⟨Go.Proofs.Tryz.t124, (Go.Proofs.Tryz.t124.zero).getD .nilIface, by kernel_rfl, by kernel_rfl, by kernel_rfl, by kernel_rfl, by kernel_rfl⟩⟩
def ti_127 : TI := ⟨.struct #[{ name := "At", type := 2, offset := 0, embedded := false, tag := "", pkgPath := "", byteOffset := 0 }, { name := "Off", type := 2, offset := 1, embedded := false, tag := "", pkgPath := "", byteOffset := 8 }, { name := "Name", type := 9, offset := 2, embedded := false, tag := "", pkgPath := "", byteOffset := 16 }], 3, 32, [int .i64 0, int .i64 0, .lit (.string ByteArray.empty)], [.int .i64, .int .i64, .str]⟩
theorem tk_127 : TyOk1 Go.Proofs.Tryz.prog 127 ti_127 := ⟨by kernel_rfl, fieldsSome rfl (by kernel_rfl), ⟨Go.Proofs.Tryz.t127, (Go.Proofs.Tryz.t127.zero).getD .nilIface, by kernel_rfl, by kernel_rfl, by kernel_rfl, by kernel_rfl, by kernel_rfl⟩⟩
def ti_130 : TI := ⟨.slice 57, 1, 24, [.lit (.slice none 0 0)], [.sl [.sl [.int .u8]]]⟩
theorem tk_130 : TyOk1 Go.Proofs.Tryz.prog 130 ti_130 := ⟨by kernel_rfl, fieldsNone (fun fs h => by cases h), ⟨Go.Proofs.Tryz.t130, (Go.Proofs.Tryz.t130.zero).getD .nilIface, by kernel_rfl, by kernel_rfl, by kernel_rfl, by kernel_rfl, by kernel_rfl⟩⟩
def ti_134 : TI := ⟨.int .u16, 1, 2, [int .u16 0], [.int .u16]⟩
theorem tk_134 : TyOk1 Go.Proofs.Tryz.prog 134 ti_134 := ⟨by kernel_rfl, fieldsNone (fun fs h => by cases h), ⟨Go.Proofs.Tryz.t134, (Go.Proofs.Tryz.t134.zero).getD .nilIface, by kernel_rfl, by kernel_rfl, by kernel_rfl, by kernel_rfl, by kernel_rfl⟩⟩
def ti_141 : TI := ⟨.struct #[{ name := "b", type := 57, offset := 0, embedded := false, tag := "", pkgPath := "fusee/fields", byteOffset := 0 }, { name := "bad", type := 4, offset := 1, embedded := false, tag := "", pkgPath := "fusee/fields", byteOffset := 24 }], 2, 32, [.lit (.slice none 0 0), boolC false], [.sl [.int .u8], .bool]⟩
theorem tk_141 : TyOk1 Go.Proofs.Tryz.prog 141 ti_141 := ⟨by kernel_rfl, fieldsSome rfl (by kernel_rfl), ⟨Go.Proofs.Tryz.t141, (Go.Proofs.Tryz.t141.zero).getD .nilIface, by kernel_rfl, by kernel_rfl, by kernel_rfl, by kernel_rfl, by kernel_rfl⟩⟩
def ti_149 : TI := ⟨.array 5 2, 5, 40, [.arr .i64 5 (List.replicate 5 0)], [.arr .i64 5]⟩
theorem tk_149 : TyOk1 Go.Proofs.Tryz.prog 149 ti_149 := ⟨by kernel_rfl, fieldsNone (fun fs h => by cases h), ⟨Go.Proofs.Tryz.t149, (Go.Proofs.Tryz.t149.zero).getD .nilIface, by kernel_rfl, by kernel_rfl, by kernel_rfl, by kernel_rfl, by kernel_rfl⟩⟩
def ti_174 : TI := ⟨.int .u32, 1, 4, [int .u32 0], [.int .u32]⟩
theorem tk_174 : TyOk1 Go.Proofs.Tryz.prog 174 ti_174 := ⟨by kernel_rfl, fieldsNone (fun fs h => by cases h), ⟨Go.Proofs.Tryz.t174, (Go.Proofs.Tryz.t174.zero).getD .nilIface, by kernel_rfl, by kernel_rfl, by kernel_rfl, by kernel_rfl, by kernel_rfl⟩⟩
def ti_177 : TI := ⟨.struct #[{ name := "At", type := 2, offset := 0, embedded := false, tag := "", pkgPath := "", byteOffset := 0 }, { name := "Off", type := 2, offset := 1, embedded := false, tag := "", pkgPath := "", byteOffset := 8 }, { name := "Name", type := 9, offset := 2, embedded := false, tag := "", pkgPath := "", byteOffset := 16 }], 3, 32, [int .i64 0, int .i64 0, .lit (.string ByteArray.empty)], [.int .i64, .int .i64, .str]⟩
theorem tk_177 : TyOk1 Go.Proofs.Tryz.prog 177 ti_177 := ⟨by kernel_rfl, fieldsSome rfl (by kernel_rfl), ⟨Go.Proofs.Tryz.t177, (Go.Proofs.Tryz.t177.zero).getD .nilIface, by kernel_rfl, by kernel_rfl, by kernel_rfl, by kernel_rfl, by kernel_rfl⟩⟩
def ti_186 : TI := ⟨.array 4 59, 4, 64, [.lit .nilIface, .lit .nilIface, .lit .nilIface, .lit .nilIface], [.err 93, .err 93, .err 93, .err 93]⟩
theorem tk_186 : TyOk1 Go.Proofs.Tryz.prog 186 ti_186 := ⟨by kernel_rfl, fieldsNone (fun fs h => by cases h), ⟨Go.Proofs.Tryz.t186, (Go.Proofs.Tryz.t186.zero).getD .nilIface, by kernel_rfl, by kernel_rfl, by kernel_rfl, by kernel_rfl, by kernel_rfl⟩⟩
def tab : List (Nat × TI) := [(2, ti_2), (3, ti_3), (4, ti_4), (5, ti_5), (9, ti_9), (22, ti_22), (24, ti_24), (26, ti_26), (27, ti_27), (29, ti_29), (31, ti_31), (33, ti_33), (35, ti_35), (37, ti_37), (39, ti_39), (40, ti_40), (41, ti_41), (42, ti_42), (43, ti_43), (45, ti_45), (47, ti_47), (48, ti_48), (49, ti_49), (51, ti_51), (53, ti_53), (57, ti_57), (59, ti_59), (83, ti_83), (93, ti_93), (98, ti_98), (100, ti_100), (108, ti_108), (124, ti_124), (127, ti_127), (130, ti_130), (134, ti_134), (141, ti_141), (149, ti_149), (174, ti_174), (177, ti_177), (186, ti_186)]
def tyT : TypeId → Option TI := lookT tab
theorem tyOk : TyOk Go.Proofs.Tryz.prog tyT := TysOk.ok (tysOk_cons tk_2 (tysOk_cons tk_3 (tysOk_cons tk_4 (tysOk_cons tk_5 (tysOk_cons tk_9 (tysOk_cons tk_22 (tysOk_cons tk_24 (tysOk_cons tk_26 (tysOk_cons tk_27 (tysOk_cons tk_29 (tysOk_cons tk_31 (tysOk_cons tk_33 (tysOk_cons tk_35 (tysOk_cons tk_37 (tysOk_cons tk_39 (tysOk_cons tk_40 (tysOk_cons tk_41 (tysOk_cons tk_42 (tysOk_cons tk_43 (tysOk_cons tk_45 (tysOk_cons tk_47 (tysOk_cons tk_48 (tysOk_cons tk_49 (tysOk_cons tk_51 (tysOk_cons tk_53 (tysOk_cons tk_57 (tysOk_cons tk_59 (tysOk_cons tk_83 (tysOk_cons tk_93 (tysOk_cons tk_98 (tysOk_cons tk_100 (tysOk_cons tk_108 (tysOk_cons tk_124 (tysOk_cons tk_127 (tysOk_cons tk_130 (tysOk_cons tk_134 (tysOk_cons tk_141 (tysOk_cons tk_149 (tysOk_cons tk_174 (tysOk_cons tk_177 (tysOk_cons tk_186 tysOk_nil)))))))))))))))))))))))))))))))))))))))))
theorem ek_22 : EqOk Go.Proofs.Tryz.prog 22 (eqQ [.arr .u8 16]) := eqQ_ok (d := 9) (by kernel_rfl) (by omega) (by kernel_rfl) (by kernel_rfl)
theorem ek_33 : EqOk Go.Proofs.Tryz.prog 33 (eqQ [.bool, .int .i64, .int .i64]) := eqQ_ok (d := 9) (by kernel_rfl) (by omega) (by kernel_rfl) (by kernel_rfl)
theorem ek_35 : EqOk Go.Proofs.Tryz.prog 35 (eqQ [.bool, .int .i64]) := eqQ_ok (d := 9) (by kernel_rfl) (by omega) (by kernel_rfl) (by kernel_rfl)
theorem ek_40 : EqOk Go.Proofs.Tryz.prog 40 (eqQ [.arr .u8 16]) := eqQ_ok (d := 9) (by kernel_rfl) (by omega) (by kernel_rfl) (by kernel_rfl)
theorem ek_41 : EqOk Go.Proofs.Tryz.prog 41 (eqQ [.int .i64, .int .i64, .int .i64]) := eqQ_ok (d := 9) (by kernel_rfl) (by omega) (by kernel_rfl) (by kernel_rfl)
theorem ek_42 : EqOk Go.Proofs.Tryz.prog 42 (eqQ [.int .i64, .int .i64]) := eqQ_ok (d := 9) (by kernel_rfl) (by omega) (by kernel_rfl) (by kernel_rfl)
theorem ek_48 : EqOk Go.Proofs.Tryz.prog 48 (eqQ [.bool, .int .i64, .int .i64]) := eqQ_ok (d := 9) (by kernel_rfl) (by omega) (by kernel_rfl) (by kernel_rfl)
theorem ek_49 : EqOk Go.Proofs.Tryz.prog 49 (eqQ [.bool, .int .i64]) := eqQ_ok (d := 9) (by kernel_rfl) (by omega) (by kernel_rfl) (by kernel_rfl)
theorem ek_177 : EqOk Go.Proofs.Tryz.prog 177 (eqQ [.int .i64, .int .i64, .str]) := eqQ_ok (d := 9) (by kernel_rfl) (by omega) (by kernel_rfl) (by kernel_rfl)
def eqT : TypeId → Option (List C → List C → Option Bool) := lookE [(22, eqQ [.arr .u8 16]), (33, eqQ [.bool, .int .i64, .int .i64]), (35, eqQ [.bool, .int .i64]), (40, eqQ [.arr .u8 16]), (41, eqQ [.int .i64, .int .i64, .int .i64]), (42, eqQ [.int .i64, .int .i64]), (48, eqQ [.bool, .int .i64, .int .i64]), (49, eqQ [.bool, .int .i64]), (177, eqQ [.int .i64, .int .i64, .str])]
theorem eqOk : ∀ t q, eqT t = some q → EqOk Go.Proofs.Tryz.prog t q := (eqsOk_cons ek_22 (eqsOk_cons ek_33 (eqsOk_cons ek_35 (eqsOk_cons ek_40 (eqsOk_cons ek_41 (eqsOk_cons ek_42 (eqsOk_cons ek_48 (eqsOk_cons ek_49 (eqsOk_cons ek_177 eqsOk_nil)))))))))
end Go.Proofs.YtihignmcjldiiaaGreatDoor.Mir
