/- Texts joined. -/
import Derived.RangeFuncBox
import Derived.RangeFuncNested
import Derived.RangeFuncBound
import Derived.RangeFuncCalls
import Derived.RangeFuncLeaves
import Derived.Shelf.Abstract
import Derived.WalkKit
import Derived.OwnWalkIn
import Derived.TacticsInMore
import Derived.LoopNIn
import Derived.LoopIn
import Derived.Test.YtihignmcjldiiaaDoorProg
import Derived.Test.YtihignmcjldiiaaDoorKxfe3af9
import Derived.Test.YtihignmcjldiiaaDoorKxf80a45
import Derived.Shelf.Strings.SlTrimAscii
import Derived.Shelf.Spec.SlicesGrow
import Derived.Laws.AppendOwn
import Derived.KernelRfl
namespace Go.Proofs.YtihignmcjldiiaaDoor
open Go Go.RowKit Go.Shelf Go.Proofs
attribute [local go_sem] Oper.semAt_some
def upTo {α : Type} (f : Nat → α) (k : Nat) : List α := (List.range k).map f
theorem upTo_succ {α : Type} (f : Nat → α) (k : Nat) : upTo f (k + 1) = upTo f k ++ [f k] := by simp [upTo, List.range_succ]
theorem upTo_length {α : Type} (f : Nat → α) (k : Nat) : (upTo f k).length = k := by simp [upTo]
def backAt (zs : List Int) (len k : Nat) : Int × Int := ((len : Int) - 1 - k, zs[len - 1 - k]?.getD 0)
def KeepB (Bs n₀ : Nat) (W W' : World) : Prop := (∀ v, W.cell? ⟨Bs, 0, none⟩ = some v → W'.cell? ⟨Bs, 0, none⟩ = some v) ∧ Below n₀ W W'
theorem KeepB.trans {Bs n₀ : Nat} {A B C : World} (h : KeepB Bs n₀ A B) (k : KeepB Bs n₀ B C) : KeepB Bs n₀ A C := ⟨fun v e => k.1 v (h.1 v e), h.2.trans k.2⟩
set_option maxRecDepth 100000 in
set_option maxHeartbeats 2000000 in
theorem back1_in (F : Fence) (n : Nat) (h8 : F.fn 63) (hro : F.round = none) (hn : 1 ≤ n) (l Bs n₀ b off len cap : Nat) (zs : List Int) (hreach : len ≤ 140737488351232) (hb : b < n₀) (J Jx : List (Int × Int) → World → Prop)
    (hY : ∀ pre x W, J pre W → pre.length < len → YieldAt F (n - 1) Tryd.prog l #[.int .i64 x.1, .int .u8 x.2] W fun e W' =>
      (e = .returned (.bool true) ∧ J (pre ++ [x]) W' ∧ KeepB Bs n₀ W W') ∨ (e = .returned (.bool false) ∧ Jx (pre ++ [x]) W'))
    (W : World) (hBs : W.cell? ⟨Bs, 0, none⟩ = some (.slice (some ⟨b, off, none⟩) len cap)) (hc : ∀ j, j < len → W.cell? ⟨b, off + j, none⟩ = some (.int .u8 (zs[j]?.getD 0))) (h0 : J [] W) :
    CallsIn F n Tryd.prog 63 #[.func (.yield l) #[] #[], .pointer (some ⟨Bs, 0, none⟩)] W fun e W' => (∃ v, e = .returned v) ∧
      ((∃ ys, ys = upTo (backAt zs len) len ∧ J ys W') ∨ (∃ pre, (∃ k, k ≤ len ∧ pre = upTo (backAt zs len) k) ∧ Jx pre W')) := by
  refine callsIn_of_wp Tryd.func63 rfl h8 ?_ hro
  simp only [Tryd.ntmps63, List.size_toArray, List.length_cons, List.length_nil, Nat.reduceAdd, Nat.reduceSub, Array.replicate_succ, Array.replicate_zero, List.push_toArray, List.append_toArray, List.nil_append, List.cons_append]
  gi_wp2
  gi_loopw [3] (fun i wr => ∃ k : Nat, k ≤ len ∧ i = .int .i64 ((len : Int) - 1 - k) ∧ J (upTo (backAt zs len) k) wr ∧ wr.cell? ⟨Bs, 0, none⟩ = some (.slice (some ⟨b, off, none⟩) len cap) ∧ Below n₀ W wr)
    (fun i _ => (intOf i + 1).toNat)
  case atStart => exact ⟨0, Nat.zero_le _, by simp, h0, hBs, Below.refl _ _⟩
  case round =>
    obtain ⟨k, hk, rfl, hJs, hBs', hnx⟩ := hrel
    have hcx : k < len → wr.cell? ⟨b, off + (len - 1 - k), none⟩ = some (.int .u8 (zs[len - 1 - k]?.getD 0)) := fun h => (hnx.cell (p := ⟨b, off + (len - 1 - k), none⟩) hb).trans (hc _ (by omega))
    by_cases hlt : k < len
    · obtain ⟨fn, tmps, assign, body, hy, hR⟩ := hY _ (backAt zs len k) wr hJs (by rw [upTo_length]; exact hlt)
      dsimp only [backAt] at hy
      have hcx' := hcx hlt
      obtain ⟨m, hm1, hm2, hm3⟩ : ∃ m : Nat, (len : Int) - 1 - k = m ∧ len - 1 - k = m ∧ m < len := ⟨len - 1 - k, by omega, rfl, by omega⟩
      rw [hm2] at hcx'
      rw [hm1, hm2] at hy
      rw [hm1]
      gi_wp2
      refine hR.mono ?_
      rintro e W3 (⟨rfl, hJ3, hk3⟩ | ⟨rfl, hJx3⟩)
      · gi_wp2
        go_roundw
        case rel => exact ⟨k + 1, by omega, by congr 1; omega, by rw [upTo_succ]; exact hJ3, hk3.1 _ hBs', hnx.trans hk3.2⟩
        case measure => simp [intOf]
      · gi_wp2
        refine bodyPost_ret (results_none rfl _ _ _) rfl ?_
        exact ⟨⟨_, rfl⟩, .inr ⟨_, ⟨k + 1, by omega, (upTo_succ _ _).symm⟩, hJx3⟩⟩
    · obtain rfl : k = len := by omega
      gi_wp2
      go_end0
      exact ⟨⟨_, rfl⟩, .inl ⟨_, rfl, hJs⟩⟩
set_option maxRecDepth 100000 in
set_option maxHeartbeats 1000000 in
theorem back1_nil_in (F : Fence) (n : Nat) (h8 : F.fn 63) (hro : F.round = none) (l Bs : Nat) (J : List (Int × Int) → World → Prop) (W : World) (hBs : W.cell? ⟨Bs, 0, none⟩ = some (.slice none 0 0)) (h0 : J [] W) :
    CallsIn F n Tryd.prog 63 #[.func (.yield l) #[] #[], .pointer (some ⟨Bs, 0, none⟩)] W fun e W' => (∃ v, e = .returned v) ∧ J [] W' := by
  refine callsIn_of_wp Tryd.func63 rfl h8 ?_ hro
  simp only [Tryd.ntmps63, List.size_toArray, List.length_cons, List.length_nil, Nat.reduceAdd, Nat.reduceSub, Array.replicate_succ, Array.replicate_zero, List.push_toArray, List.append_toArray, List.nil_append, List.cons_append]
  gi_wp2
  gi_loopw [3] (fun i wr => i = .int .i64 (-1) ∧ J [] wr) (fun _ _ => 0)
  case atStart => exact ⟨rfl, h0⟩
  case round =>
    obtain ⟨rfl, hJs⟩ := hrel
    gi_wp2
    go_end0
    exact ⟨⟨_, rfl⟩, hJs⟩
set_option maxHeartbeats 1000000 in
theorem backward_in (F : Fence) (n : Nat) (h6 : F.fn 53) (hro : F.round = none) (a : Option Addr) (len cap : Nat) (w : World) :
    CallsIn F n Tryd.prog 53 #[.slice a len cap] w fun e w' => e = .returned (.func (.func 63) #[] #[.pointer (some ⟨w.heap.size, 0, none⟩)]) ∧ w' = w.alloc (.cells #[.slice a len cap] 44) := by
  refine callsIn_of_wp Tryd.func53 rfl h6 ?_ hro
  simp only [Tryd.ntmps53, List.size_toArray, List.length_cons, List.length_nil, Nat.reduceAdd, Nat.reduceSub, Array.replicate_succ, Array.replicate_zero, List.push_toArray, List.append_toArray, List.nil_append, List.cons_append]
  gi_wp2
  go_ret
  exact ⟨rfl, rfl⟩
def Bytes (n₀ : Nat) (W : World) (sv : Value) (zs : List Int) : Prop :=
  (sv = .slice none 0 0 ∧ zs = []) ∨ ∃ b off cap, sv = .slice (some ⟨b, off, none⟩) zs.length cap ∧ b < n₀ ∧ ∀ j, j < zs.length → W.cell? ⟨b, off + j, none⟩ = some (.int .u8 (zs[j]?.getD 0))
theorem Bytes.below {n₀ : Nat} {A B : World} (h : Below n₀ A B) {sv : Value} {zs : List Int} : Bytes n₀ A sv zs → Bytes n₀ B sv zs
  | .inl e => .inl e
  | .inr ⟨b, off, cap, e, hb, hc⟩ => .inr ⟨b, off, cap, e, hb, fun j hj => (h.cell (p := ⟨b, off + j, none⟩) hb).trans (hc j hj)⟩
theorem back_stops (F : Fence) (n : Nat) (h8 : F.fn 63) (hro : F.round = none) (hn : 1 ≤ n) (Bs n₀ : Nat) (sv : Value) (zs : List Int) (hreach : zs.length ≤ 140737488351232) (w : World) (hBs : Bs < w.heap.size) (hn₀ : n₀ ≤ w.heap.size)
    (hc : w.cell? ⟨Bs, 0, none⟩ = some sv) (hI : Bytes n₀ w sv zs) :
    SeqStopsK F n Tryd.prog 63 #[.pointer (some ⟨Bs, 0, none⟩)] (fun x : Int × Int => #[Value.int .i64 x.1, Value.int .u8 x.2]) (KeepB Bs n₀) (fun ys => ys = upTo (backAt zs zs.length) zs.length)
      (fun pre => ∃ k, k ≤ zs.length ∧ pre = upTo (backAt zs zs.length) k) zs.length w := fun l J Jx W hW _ _ hY h0 => by
  have hc' := (hW.cell (p := ⟨Bs, 0, none⟩) hBs).trans hc
  rcases hI.below (hW.mono hn₀) with ⟨rfl, rfl⟩ | ⟨b, off, cap, rfl, hb, hcs⟩
  · exact (back1_nil_in F n h8 hro l Bs J W hc' h0).mono fun e W' ⟨he, hj⟩ => ⟨he, .inl ⟨_, rfl, hj⟩⟩
  · exact back1_in F n h8 hro hn l Bs n₀ b off zs.length cap zs hreach hb J Jx hY W hc' hcs h0
def numStep (v : Int) (x : Int × Int) : Int := bits .or .u64 (IntKind.u64.wrap (v * 256)) (IntKind.u64.wrap x.2)
theorem upTo_nil {α : Type} (f : Nat → α) : upTo f 0 = [] := rfl
def leftOf (b off len cap n : Nat) : Value := .slice (some ⟨b, if cap = n then off else off + n, none⟩) (len - n) (cap - n)
set_option maxRecDepth 100000 in
set_option maxHeartbeats 1000000 in
theorem take_good (β b off len cap n : Nat) (w : World) (hn : 1 ≤ n) (hnl : n ≤ len) (hcap : len ≤ cap)
    (h0 : w.cell? ⟨β, 0, none⟩ = some (.slice (some ⟨b, off, none⟩) len cap)) (h1 : w.cell? ⟨β, 1, none⟩ = some (.bool false)) (hf : w.frozen? ⟨β, 0, none⟩ = false) :
    Calls Tryd.prog 54 #[.pointer (some ⟨β, 0, none⟩), .int .i64 n] w fun e W' => e = .returned (.slice (some ⟨b, off, none⟩) n cap) ∧ W' = w.setCell ⟨β, 0, none⟩ (leftOf b off len cap n) := by
  go_enter Tryd.func54, Tryd.ntmps54
  go_wp2
  · go_ret
    exact ⟨rfl, by unfold leftOf; simp⟩
  · have hcn : ¬ cap = n := by omega
    go_ret
    exact ⟨rfl, by unfold leftOf; rw [if_neg hcn]⟩
def gone (β : Nat) (w : World) : World := (w.setCell ⟨β, 0, none⟩ (.slice none 0 0)).setCell ⟨β, 1, none⟩ (.bool true)
set_option maxRecDepth 100000 in
set_option maxHeartbeats 1000000 in
theorem take_bad (β len cap n : Nat) (a : Option Addr) (bd : Bool) (w : World) (hbad : bd = true ∨ len < n)
    (h0 : w.cell? ⟨β, 0, none⟩ = some (.slice a len cap)) (h1 : w.cell? ⟨β, 1, none⟩ = some (.bool bd)) (hf : w.frozen? ⟨β, 0, none⟩ = false) (hf1 : w.frozen? ⟨β, 1, none⟩ = false) :
    Calls Tryd.prog 54 #[.pointer (some ⟨β, 0, none⟩), .int .i64 n] w fun e W' => e = .returned (.slice none 0 0) ∧ W' = gone β w := by
  cases bd with
  | true =>
    go_enter Tryd.func54, Tryd.ntmps54
    go_wp2
    go_ret
    exact ⟨rfl, rfl⟩
  | false =>
    have hbad : len < n := by simpa using hbad
    go_enter Tryd.func54, Tryd.ntmps54
    go_wp2
    go_ret
    exact ⟨rfl, rfl⟩
set_option maxRecDepth 100000 in
set_option maxHeartbeats 2000000 in
theorem number_bad (β len cap n : Nat) (ad : Option Addr) (bd : Bool) (w : World) (hbad : bd = true ∨ len < n) (hβ : β < w.heap.size)
    (h0 : w.cell? ⟨β, 0, none⟩ = some (.slice ad len cap)) (h1 : w.cell? ⟨β, 1, none⟩ = some (.bool bd)) (hf : w.frozen? ⟨β, 0, none⟩ = false) (hf1 : w.frozen? ⟨β, 1, none⟩ = false) :
    CallsIn Fence.wide 5 Tryd.prog 42 #[.pointer (some ⟨β, 0, none⟩), .int .i64 n] w fun e W' => e = .returned (.int .u64 0) ∧ Below w.heap.size (gone β w) W' := by
  refine callsIn_of_wp_marks Tryd.func42 rfl trivial ?_ rfl
  simp only [Tryd.ntmps42, List.size_toArray, List.length_cons, List.length_nil, Nat.reduceAdd, Nat.reduceSub, Array.replicate_succ, Array.replicate_zero, List.push_toArray, List.append_toArray, List.nil_append, List.cons_append]
  have h0' : (w.alloc (.cells #[.int .u64 0] 86)).cell? ⟨β, 0, none⟩ = some (.slice ad len cap) := by rw [World.cell?_alloc_lt _ _ _ hβ]; exact h0
  have h1' : (w.alloc (.cells #[.int .u64 0] 86)).cell? ⟨β, 1, none⟩ = some (.bool bd) := by rw [World.cell?_alloc_lt _ _ _ hβ]; exact h1
  have hf' : (w.alloc (.cells #[.int .u64 0] 86)).frozen? ⟨β, 0, none⟩ = false := by rw [frozen?_alloc_cells]; exact hf
  have hf1' : (w.alloc (.cells #[.int .u64 0] 86)).frozen? ⟨β, 1, none⟩ = false := by rw [frozen?_alloc_cells]; exact hf1
  gi_wp2_with (first | (refine ⟨trivial, ?_⟩; gi_at_call 53; refine (backward_in Fence.wide _ trivial rfl _ _ _ _).mono ?_; rintro e w' ⟨rfl, rfl⟩) | (refine ⟨trivial, ?_⟩; gi_at_call 54; refine (callsIn_wide.2 (take_bad β len cap n ad bd _ hbad h0' h1' hf' hf1')).mono ?_; rintro e w' ⟨rfl, rfl⟩; unfold gone))
  have hAs : (gone β w).heap.size = w.heap.size := by simp [gone]
  have hAe : (w.setCell ⟨β, 0, none⟩ (.slice none 0 0)).setCell ⟨β, 1, none⟩ (.bool true) = gone β w := rfl
  try rw [hAe]
  generalize hA : gone β w = A at hAs ⊢
  have bS := Boxed.new A 86 (.int .u64 0)
  have bN := Boxed.new (A.alloc (.cells #[.int .u64 0] 86)) 44 (.slice none 0 0)
  rw [World.size_alloc, hAs] at bN
  rw [hAs] at bS
  have hB0 : Below w.heap.size A ((A.alloc (.cells #[.int .u64 0] 86)).alloc (.cells #[.slice none 0 0] 44)) := ((Below.refl _ A).alloc (by omega) _).alloc (by simp; omega) _
  have hBy : Bytes w.heap.size A (.slice none 0 0) [] := .inl ⟨rfl, rfl⟩
  refine wpIn_rangeFunc_ownG rfl (by omega) (gf := 63) (lb := #[.pointer (some ⟨w.heap.size + 1, 0, none⟩)]) (by simp [Act.eval]) trivial (enters_of Tryd.func63 (by kernel_rfl) rfl)
    (back_stops Fence.wide 4 trivial rfl (by omega) (w.heap.size + 1) w.heap.size _ [] (by simp) _ (by simp; omega) (by simp; omega) bN.cell (hBy.below hB0)) KeepB.trans
    (fun W l o o' hl h hcl _ => ⟨fun v e => by
      have hne' : l ≠ w.heap.size + 1 := fun el => by
        subst el
        unfold World.cell? at e
        rw [h] at e
        cases o <;> simp_all [Obj.isCells]
      exact cell_kept e (grownBy_putObj' W l o') (fun r e => by cases e; exact ⟨_, h, hcl⟩), belowK_b (w := A) (by omega) W l o o' (by simp at hl; omega) h hcl (by assumption)⟩) (Below.refl _ _) (fun _ => rfl)
    (fun pre W => (W.cell? ⟨w.heap.size, 0, none⟩ = some (.int .u64 (pre.foldl numStep 0)) ∧ W.frozen? ⟨w.heap.size, 0, none⟩ = false) ∧ Below w.heap.size A W)
    (fun _ _ _ => False)
    (OwnFrom.and (Own.from (fun s A B row hs hg hr => ⟨cell_kept hs.1 hg hr, (frozen_kept hs.1 hg hr).trans hs.2⟩) _) (ownFrom_below (by omega) (by simp; omega)))
    (fun _ _ _ _ _ hs _ _ => hs)
    ⟨⟨(bS.alloc _).cell, (bS.alloc _).frozen⟩, hB0⟩
    (fun x => { tmps := #[.pointer (some ⟨β, 0, none⟩), .int .i64 n, undef, undef, .int .u64 0, .pointer (some ⟨w.heap.size, 0, none⟩), undef, .int .u8 x.2, .pointer (some ⟨β, 0, none⟩), .int .i64 n, .slice none 0 0, .func (.func 63) #[] #[.pointer (some ⟨w.heap.size + 1, 0, none⟩)], .int .i64 x.1, .int .u8 x.2, undef, undef, undef, undef, undef, undef], defers := [] }) ?assign ?body ?done ?stop
  case assign =>
    intro l x W K hK
    gi_wp2
    exact hK
  case body =>
    rintro l pre x W _ hlen
    exact absurd hlen (Nat.not_lt_zero _)
  case done =>
    rintro D ys W hD rfl ⟨⟨hc, _⟩, hB⟩ hK
    gi_wp2
    refine ⟨by simp, .inl ⟨_, _, rfl, run_takeDeferred hK, ?_⟩⟩
    exact ⟨_, results_tmp rfl _ _ _, rfl, by rw [hA]; exact hB.trans (belowK_b (w := A) (by omega) W D _ _ (by simp at hD; omega) hK rfl rfl)⟩
  case stop =>
    rintro D c pre W _ _ h _
    exact h.elim
set_option maxRecDepth 100000 in
set_option maxHeartbeats 2000000 in
theorem number_good (β b off len cap : Nat) (zs : List Int) (w : World) (hn : 1 ≤ zs.length) (hnl : zs.length ≤ len) (hcap : len ≤ cap) (hmax : zs.length ≤ 140737488351232) (hβ : β < w.heap.size)
    (hb : b < w.heap.size) (hne : b ≠ β) (h0 : w.cell? ⟨β, 0, none⟩ = some (.slice (some ⟨b, off, none⟩) len cap)) (h1 : w.cell? ⟨β, 1, none⟩ = some (.bool false)) (hf : w.frozen? ⟨β, 0, none⟩ = false)
    (hc : ∀ j, j < zs.length → w.cell? ⟨b, off + j, none⟩ = some (.int .u8 (zs[j]?.getD 0))) :
    CallsIn Fence.wide 5 Tryd.prog 42 #[.pointer (some ⟨β, 0, none⟩), .int .i64 (zs.length : Int)] w fun e W' => e = .returned (.int .u64 ((upTo (backAt zs zs.length) zs.length).foldl numStep 0)) ∧
      Below w.heap.size (w.setCell ⟨β, 0, none⟩ (leftOf b off len cap zs.length)) W' := by
  refine callsIn_of_wp_marks Tryd.func42 rfl trivial ?_ rfl
  simp only [Tryd.ntmps42, List.size_toArray, List.length_cons, List.length_nil, Nat.reduceAdd, Nat.reduceSub, Array.replicate_succ, Array.replicate_zero, List.push_toArray, List.append_toArray, List.nil_append, List.cons_append]
  have h0' : (w.alloc (.cells #[.int .u64 0] 86)).cell? ⟨β, 0, none⟩ = some (.slice (some ⟨b, off, none⟩) len cap) := by rw [World.cell?_alloc_lt _ _ _ hβ]; exact h0
  have h1' : (w.alloc (.cells #[.int .u64 0] 86)).cell? ⟨β, 1, none⟩ = some (.bool false) := by rw [World.cell?_alloc_lt _ _ _ hβ]; exact h1
  have hf' : (w.alloc (.cells #[.int .u64 0] 86)).frozen? ⟨β, 0, none⟩ = false := by rw [frozen?_alloc_cells]; exact hf
  gi_wp2_with (first | (refine ⟨trivial, ?_⟩; gi_at_call 53; refine (backward_in Fence.wide _ trivial rfl _ _ _ _).mono ?_; rintro e w' ⟨rfl, rfl⟩) | (refine ⟨trivial, ?_⟩; gi_at_call 54; refine (callsIn_wide.2 (take_good β b off len cap zs.length _ hn hnl hcap h0' h1' hf')).mono ?_; rintro e w' ⟨rfl, rfl⟩))
  have hAs : (w.setCell ⟨β, 0, none⟩ (leftOf b off len cap zs.length)).heap.size = w.heap.size := by simp
  generalize hA : w.setCell ⟨β, 0, none⟩ (leftOf b off len cap zs.length) = A at hAs ⊢
  have bS := Boxed.new A 86 (.int .u64 0)
  have bN := Boxed.new (A.alloc (.cells #[.int .u64 0] 86)) 44 (.slice (some ⟨b, off, none⟩) zs.length cap)
  rw [World.size_alloc, hAs] at bN
  rw [hAs] at bS
  have hB0 : Below w.heap.size A ((A.alloc (.cells #[.int .u64 0] 86)).alloc (.cells #[.slice (some ⟨b, off, none⟩) zs.length cap] 44)) := ((Below.refl _ A).alloc (by omega) _).alloc (by simp; omega) _
  have hBy : Bytes w.heap.size A (.slice (some ⟨b, off, none⟩) zs.length cap) zs := .inr ⟨b, off, cap, rfl, hb, fun j hj => by
    rw [← hA, World.cell?_setCell_other _ _ _ _ (by simp)]
    exact hc j hj⟩
  refine wpIn_rangeFunc_ownG rfl (by omega) (gf := 63) (lb := #[.pointer (some ⟨w.heap.size + 1, 0, none⟩)]) (by simp [Act.eval]) trivial (enters_of Tryd.func63 (by kernel_rfl) rfl)
    (back_stops Fence.wide 4 trivial rfl (by omega) (w.heap.size + 1) w.heap.size _ zs (by omega) _ (by simp; omega) (by simp; omega) bN.cell (hBy.below hB0)) KeepB.trans
    (fun W l o o' hl h hcl _ => ⟨fun v e => by
      have hne' : l ≠ w.heap.size + 1 := fun el => by
        subst el
        unfold World.cell? at e
        rw [h] at e
        cases o <;> simp_all [Obj.isCells]
      exact cell_kept e (grownBy_putObj' W l o') (fun r e => by cases e; exact ⟨_, h, hcl⟩), belowK_b (w := A) (by omega) W l o o' (by simp at hl; omega) h hcl (by assumption)⟩) (Below.refl _ _) (fun _ => rfl)
    (fun pre W => (W.cell? ⟨w.heap.size, 0, none⟩ = some (.int .u64 (pre.foldl numStep 0)) ∧ W.frozen? ⟨w.heap.size, 0, none⟩ = false) ∧ Below w.heap.size A W)
    (fun _ _ _ => False)
    (OwnFrom.and (Own.from (fun s A B row hs hg hr => ⟨cell_kept hs.1 hg hr, (frozen_kept hs.1 hg hr).trans hs.2⟩) _) (ownFrom_below (by omega) (by simp; omega)))
    (fun _ _ _ _ _ hs _ _ => hs)
    ⟨⟨(bS.alloc _).cell, (bS.alloc _).frozen⟩, hB0⟩
    (fun x => { tmps := #[.pointer (some ⟨β, 0, none⟩), .int .i64 (zs.length : Int), undef, undef, .int .u64 0, .pointer (some ⟨w.heap.size, 0, none⟩), undef, .int .u8 x.2, .pointer (some ⟨β, 0, none⟩), .int .i64 (zs.length : Int), .slice (some ⟨b, off, none⟩) zs.length cap, .func (.func 63) #[] #[.pointer (some ⟨w.heap.size + 1, 0, none⟩)], .int .i64 x.1, .int .u8 x.2, undef, undef, undef, undef, undef, undef], defers := [] }) ?assign ?body ?done ?stop
  case assign =>
    intro l x W K hK
    gi_wp2
    exact hK
  case body =>
    rintro l pre x W ⟨⟨hc, hf⟩, hB⟩ _
    gi_wp2
    refine ⟨(KeepsOthers.setCell _ _ _).from _, ⟨fun v e => ?_, (Below.refl w.heap.size W).setCell (p := ⟨w.heap.size, 0, none⟩) (Nat.le_refl _) _⟩, ⟨?_, by rw [World.frozen?_setCell]; exact hf⟩, hB.setCell (p := ⟨w.heap.size, 0, none⟩) (Nat.le_refl _) _⟩
    · rw [World.cell?_setCell_other _ _ _ _ (by simp)]; exact e
    · rw [List.foldl_append]; exact World.cell?_setCell_same' _ _ _ (by rw [hc]; rfl)
  case done =>
    rintro D ys W hD rfl ⟨⟨hc, _⟩, hB⟩ hK
    gi_wp2
    refine ⟨by simp, .inl ⟨_, _, rfl, run_takeDeferred hK, ?_⟩⟩
    exact ⟨_, results_tmp rfl _ _ _, rfl, by rw [hA]; exact hB.trans (belowK_b (w := A) (by omega) W D _ _ (by simp at hD; omega) hK rfl rfl)⟩
  case stop =>
    rintro D c pre W _ _ h _
    exact h.elim
end Go.Proofs.YtihignmcjldiiaaDoor
namespace Go.Proofs.YtihignmcjldiiaaDoor.Mir
open Go Go.RowKit
def numV (zs : List Int) : Int := (upTo (backAt zs zs.length) zs.length).foldl numStep 0
def rdF (n : Int) (xs : List Int) (bd : Bool) : Option (Int × List Int × Bool) :=
  bif decide (1 ≤ n ∧ n ≤ 140737488351232) then (bif bd || decide ((xs.length : Int) < n) then some (0, [], true) else some (numV (xs.take n.toNat), xs.drop n.toNat, false)) else none
def rdS : Sum := fnSum 2 1 1 [.one (.ptr 0 0), .one (.d (.int .i64)), .agg [.d (.sl [.int .u8]), .d .bool]] [.one (.d (.int .u64)), .agg [.d (.sl [.int .u8]), .d .bool]] (fun p => rdF p.2.1 p.2.2.1 p.2.2.2)
theorem ends1 {n : Nat} {PS RS : List ShA} {F : TAs PS → Option (TAs RS)} {al : List A} {cs cs' : List C} {r : TAs RS} {g : Gh} {w w' : World} {v : Value} {β : Nat} {vs : Array Value} {ty : TypeId}
    (htk : tksOf RS = []) (hB : Blks g w [cs]) (hk : Knows g w) (hj : g.j 0 = some β) (hout : ((fnSum n 1 1 PS RS F).out al [cs] r).2 = [cs'])
    (hv : RepV { K := g.K, j := g.j, th := fun _ _ => none } ((fnSum n 1 1 PS RS F).out al [cs] r).1 v)
    (hb : w'.heap[β]? = some (.cells vs ty (0, 0))) (hr : RepL { K := g.K, j := g.j, th := fun _ _ => none } cs' vs.toList) (ho : Only (fun k => k = β) w w') : Ends (fnSum n 1 1 PS RS F) al [cs] r g w v w' { K := g.K, j := g.j, th := fun _ _ => none } := by
  obtain ⟨β0, _, _, h1, h2, _, h4⟩ := hB.blk 0 cs rfl
  obtain rfl := Option.some.inj (hj.symm.trans h1)
  have dom : ∀ n β', g.j n = some β' → n = 0 := fun n β' e => by
    obtain ⟨i, h5, h6⟩ := hB.dom n β' e
    simp only [List.length_singleton] at h6
    omega
  refine ⟨fun _ _ _ e => e, fun _ _ _ e => .inl e, fun β' o u e => ?_, hv, ⟨fun i cs0 e => ?_, fun i k β' e1 e2 => ?_, fun m β' e => ?_⟩, ?_, fun i _ => rfl, fun i β' hi e => ?_, noTks (fun _ _ => rfl) (fun p => ?_), noLvs (fun p => ?_), fun β' ⟨n', e, cap, h⟩ => (by cases h), ?_⟩
  · have hne : β' ≠ β := fun e' => by subst e'; have := h4 o; rw [this] at e; cases e
    have := hk β' o u e
    have hl := block_lt_of_cell this
    unfold World.cell? at this ⊢
    rw [ho.block β' hl hne]; exact this
  · rw [hout] at e
    cases i with
    | zero => simp at e; subst e; exact ⟨β, vs, ty, h1, hb, hr, h4⟩
    | succ i => simp at e
  · have := dom _ _ e1; have := dom _ _ e2; omega
  · rw [hout]; exact ⟨0, dom m β' e, by simp⟩
  · rw [hout]; simp
  · have := dom _ _ e; simp at hi; omega
  · show (tksOf RS)[p]? = none
    rw [htk]; rfl
  · show (tksOf RS)[p]? = none
    rw [htk]; rfl
  · exact ho.mono fun k _ e => .inl ⟨0, by simp, by subst e; exact h1⟩
theorem setCell_row {w : World} {β o : Nat} {vs : Array Value} {ty : TypeId} {u : Value} (h : w.heap[β]? = some (.cells vs ty (0, 0))) : (w.setCell ⟨β, o, none⟩ u).heap[β]? = some (.cells (vs.setIfInBounds o u) ty (0, 0)) := by
  have hl := (Array.getElem?_eq_some_iff.1 h).1
  have he := (Array.getElem?_eq_some_iff.1 h).2
  show (w.heap.modify β _)[β]? = _
  rw [Array.getElem?_eq_getElem (by simpa using hl), Array.getElem_modify_self, he]
  rfl
theorem frozen_row {w : World} {β o : Nat} {vs : Array Value} {ty : TypeId} (h : w.heap[β]? = some (.cells vs ty (0, 0))) : w.frozen? ⟨β, o, none⟩ = false := by
  simp [World.frozen?, h]
set_option maxRecDepth 100000 in
theorem rdS_ok {laid : List (Nat × Nat × Value)} : SumOk Tryd.prog laid 42 rdS := by
  intro al bs r hr g w vs hlaid hknown hA hB hTk hLv
  simp only [rdS, fnSum] at hr
  cases hk : (Nat.beq al.length 2 && Nat.beq bs.length 1) with
  | false => rw [hk] at hr; cases hr
  | true =>
    rw [hk] at hr
    simp only [cond_true] at hr
    simp only [Bool.and_eq_true] at hk
    obtain ⟨a0, a1, rfl⟩ : ∃ a0 a1, al = [a0, a1] := by
      match al, Nat.eq_of_beq_eq_true hk.1 with
      | [a0, a1], _ => exact ⟨a0, a1, rfl⟩
    obtain ⟨cs, rfl⟩ : ∃ cs, bs = [cs] := by
      match bs, Nat.eq_of_beq_eq_true hk.2 with
      | [cs], _ => exact ⟨cs, rfl⟩
    split at hr
    · rename_i p ep
      obtain ⟨u, n, xs, bd⟩ := p
      simp only at hr
      obtain ⟨d1, d2⟩ := decAs_get ep
      obtain ⟨x0, _, rfl, h0, x1, _, rfl, h1, rfl⟩ := hA
      obtain ⟨a0', e0, q0, _⟩ := d2 0 a0 rfl
      obtain rfl := Option.some.inj e0
      obtain ⟨β, hj, rfl⟩ : RepC g (.ptr 0 0) x0 := q0 g x0 h0
      obtain ⟨a1', e1, q1, _⟩ := d2 1 a1 rfl
      obtain rfl := Option.some.inj e1
      obtain rfl : x1 = .int .i64 n := q1 g x1 h1
      obtain ⟨a2', e2, q2, _⟩ := d2 2 (.agg cs) rfl
      obtain rfl := Option.some.inj e2
      obtain ⟨β', vs', ty, hb1, hb2, hb3, hb4⟩ := hB.blk 0 cs rfl
      obtain rfl := Option.some.inj (hj.symm.trans hb1)
      obtain ⟨us, eu, hu⟩ := q2 g (.agg vs') ⟨vs'.toList, by simp, hb3⟩
      injection eu with eu
      subst eu
      obtain ⟨sv, _, rfl, hs, bv, _, rfl, hv, rfl⟩ : RepL g [.sl none [.int .u8] xs, boolC bd] us := hu
      obtain rfl : bv = .bool bd := hv
      have hβ : β < w.heap.size := (Array.getElem?_eq_some_iff.1 hb2).1
      have c0 : w.cell? ⟨β, 0, none⟩ = some sv := by rw [cell_row hb2]; rfl
      have c1 : w.cell? ⟨β, 1, none⟩ = some (.bool bd) := by rw [cell_row hb2]; rfl
      have f0 := frozen_row (o := 0) hb2
      have f1 := frozen_row (o := 1) hb2
      unfold rdF at hr
      cases hn : decide (1 ≤ n ∧ n ≤ 140737488351232) with
      | false => rw [hn] at hr; cases hr
      | true =>
        rw [hn] at hr
        simp only [cond_true] at hr
        obtain ⟨hn1, hn2⟩ := of_decide_eq_true hn
        obtain ⟨m, hm⟩ := Int.eq_ofNat_of_zero_le (a := n) (Int.le_trans (by decide) hn1)
        subst hm
        have hn1 : (1 : Int) ≤ (m : Int) := hn1
        have hn2 : (m : Int) ≤ (140737488351232 : Int) := hn2
        have hslice : ∃ ad cap, sv = .slice ad xs.length cap := by
          rcases hs.1 with ⟨rfl, ad, cz, rfl⟩ | ⟨b, off, cap, rfl, _⟩
          · exact ⟨ad, cz, rfl⟩
          · exact ⟨_, cap, rfl⟩
        cases hbad : (bd || decide ((xs.length : Int) < (m : Int))) with
        | true =>
          rw [hbad] at hr
          obtain rfl := Option.some.inj hr
          obtain ⟨ad, cap, rfl⟩ := hslice
          have hb' : bd = true ∨ xs.length < m := by
            rcases Bool.or_eq_true_iff.1 hbad with h | h
            · exact .inl h
            · have h2 : ((List.length (α := Int) xs : Nat) : Int) < (m : Int) := of_decide_eq_true h
              exact .inr (by omega)
          have hC := callsIn_wide.1 (number_bad β xs.length cap m ad bd w hb' hβ c0 c1 f0 f1)
          refine invokes_of_calls Tryd.func42 (by kernel_rfl) rfl (Calls.mono hC ?_)
          rintro e w' ⟨rfl, hw⟩
          refine ⟨_, rfl, _, ends1 (cs := cs) (cs' := [.sl none [.int .u8] [], boolC true]) (β := β) (vs := #[.slice none 0 0, .bool true]) (ty := ty) rfl hB hknown hj rfl rfl ?_ ?_ ?_⟩
          · rw [hw.block β hβ]
            exact setCell_row (setCell_row hb2)
          · exact ⟨_, _, rfl, ⟨.inl ⟨rfl, none, 0, rfl⟩, fun _ _ e => by cases e⟩, _, _, rfl, rfl, rfl⟩
          · refine ⟨hw.os, hw.tape, hw.output, ?_, fun k hk hne => ?_⟩
            · have := hw.size; simpa [gone] using this
            · rw [hw.block k hk]
              unfold gone
              rw [Below.heap_setCell _ _ _ _ hne, Below.heap_setCell _ _ _ _ hne]
        | false =>
          rw [hbad] at hr
          obtain rfl := Option.some.inj hr
          obtain ⟨rfl, hlt⟩ := Bool.or_eq_false_iff.1 hbad
          have hlt : ¬ (((List.length (α := Int) xs : Nat) : Int) < (m : Int)) := of_decide_eq_false hlt
          rcases hs.1 with ⟨rfl, _⟩ | ⟨b, off, cap, rfl, hcap, hel⟩
          · simp at hlt; omega
          have hcap : List.length (α := Int) xs ≤ cap := hcap
          have hbl : ∀ j, j < List.length (α := Int) xs → g.K b (off + j) = some (.int .u8 (xs[j]?.getD 0)) := fun j hj => by
            obtain ⟨us, u1, u2, u3⟩ := hel j xs[j] (List.getElem?_eq_getElem hj)
            obtain rfl : us = [Value.int .u8 xs[j]] := u2
            have := u3 0 _ rfl
            rw [List.getElem?_eq_getElem hj]
            simpa [widSL, widS] using this
          have hbK := hbl 0 (by omega)
          have hbs : b < w.heap.size := block_lt_of_cell (hknown _ _ _ hbK)
          have hne : b ≠ β := fun e => by subst e; rw [hb4] at hbK; cases hbK
          have hzl : (xs.take m).length = m := by rw [List.length_take]; omega
          have hC := callsIn_wide.1 (number_good β b off xs.length cap (xs.take m) w (by omega) (by omega) hcap (by omega) hβ hbs hne c0 c1 f0 (fun j hj => by
            rw [hknown _ _ _ (hbl j (by omega)), List.getElem?_take, if_pos (by omega)]))
          rw [hzl] at hC
          refine invokes_of_calls Tryd.func42 (by kernel_rfl) rfl (Calls.mono hC ?_)
          rintro e w' ⟨rfl, hw⟩
          refine ⟨_, rfl, _, ends1 (cs := cs) (cs' := [.sl none [.int .u8] (xs.drop m), boolC false]) (β := β) (vs := #[leftOf b off xs.length cap m, .bool false]) (ty := ty) rfl hB hknown hj rfl ?_ ?_ ?_ ?_⟩
          · show Value.int .u64 _ = Value.int .u64 (numV (xs.take m))
            unfold numV
            rw [hzl]
          · rw [hw.block β hβ]
            exact setCell_row hb2
          · refine ⟨_, _, rfl, ⟨?_, fun _ _ e => by cases e⟩, _, _, rfl, rfl, rfl⟩
            show RowS g.K _ _ (xs.drop m) (leftOf b off xs.length cap m)
            unfold leftOf
            refine .inr ⟨b, if cap = m then off else off + m, cap - m, by simp, by simp; omega, fun i x hx => ?_⟩
            rw [List.getElem?_drop] at hx
            have hi := (List.getElem?_eq_some_iff.1 hx).1
            obtain ⟨us, u1, u2, u3⟩ := hel (m + i) x hx
            refine ⟨us, u1, u2, fun j u hu => ?_⟩
            rw [if_neg (by omega)]
            have := u3 j u hu
            rw [show off + m + (i * widSL [.int .u8] + j) = off + ((m + i) * widSL [.int .u8] + j) by simp [widSL, widS]; omega]
            exact this
          · refine ⟨hw.os, hw.tape, hw.output, ?_, fun k hk hne => ?_⟩
            · have := hw.size; simpa using this
            · rw [hw.block k hk, Below.heap_setCell _ _ _ _ hne]
    · cases hr
end Go.Proofs.YtihignmcjldiiaaDoor.Mir
namespace Go.Proofs.YtihignmcjldiiaaDoor.Mir
open Go Go.RowKit
set_option maxRecDepth 1000000
def trimF (s c : ByteArray) : Option (TAs [.one (.d .str)]) := bif Nat.blt c.size 4294967281 && c.data.toList.all (fun b => Nat.blt b.toNat 128) then some ⟨(Lib.trimLeftS s.data.toList c.data.toList).toArray⟩ else none
def trimS : Sum := fnSum 2 0 1 [.one (.d .str), .one (.d .str)] [.one (.d .str)] (fun p => trimF p.1 p.2)
theorem trimS_ok : SumOk Tryd.prog laidL 45 trimS := by
  refine bridge rfl (fun _ => rfl) ?_
  rintro ⟨s, c⟩ r h g w vs _ ⟨_, _, rfl, hs, _, _, rfl, hc, rfl⟩
  simp only [trimF] at h
  cases hk : (Nat.blt c.size 4294967281 && c.data.toList.all (fun b => Nat.blt b.toNat 128)) with
  | false => rw [hk] at h; cases h
  | true =>
    rw [hk] at h
    obtain rfl := Option.some.inj h
    simp only [Bool.and_eq_true] at hk
    cases hs; cases hc
    refine invokes_of_calls Tryd.func45 (by kernel_rfl) (by kernel_rfl) ((Any.strings_TrimLeft_laid Tryd.lays161 (by kernel_rfl) s c w (Nat.le_of_ble_eq_true hk.1) (fun j b hb => ?_)).mono ?_)
    · exact Nat.le_of_ble_eq_true (List.all_eq_true.1 hk.2 b (List.mem_of_getElem? hb))
    · rintro e w' ⟨rfl, hw⟩
      exact ⟨_, rfl, rfl, hw⟩
end Go.Proofs.YtihignmcjldiiaaDoor.Mir
namespace Go.Proofs
open Go.Shelf
def Tryd.growB_ren : Go.Shelf.Ren := ⟨fun | 4 => 51 | n => n, fun | 22 => 44 | 25 => 5 | 3 => 3 | 4 => 4 | 9 => 9 | 20 => 20 | 0 => 0 | n => n, fun | n => n⟩
theorem Tryd.growB : Go.Proofs.Lays8.n4 Tryd.prog Tryd.growB_ren := {
  mixed := by kernel_rfl
  f4 := ⟨Tryd.f51.name, by decide, Tryd.func51.trans (congrArg some (by kernel_rfl))⟩
  t0 := Tryd.underlying0
  a0 := Tryd.isAgg0
  z0 := Tryd.sizeOf0
  v0 := Tryd.zeroValue0
  t3 := Tryd.underlying3
  a3 := Tryd.isAgg3
  z3 := Tryd.sizeOf3
  v3 := Tryd.zeroValue3
  t4 := Tryd.underlying4
  a4 := Tryd.isAgg4
  z4 := Tryd.sizeOf4
  v4 := Tryd.zeroValue4
  t9 := Tryd.underlying9
  a9 := Tryd.isAgg9
  z9 := Tryd.sizeOf9
  v9 := Tryd.zeroValue9
  t20 := Tryd.underlying20
  a20 := Tryd.isAgg20
  z20 := Tryd.sizeOf20
  v20 := Tryd.zeroValue20
  t22 := Tryd.underlying44
  a22 := Tryd.isAgg44
  z22 := Tryd.sizeOf44
  v22 := Tryd.zeroValue44 }
end Go.Proofs
namespace Go.Proofs.YtihignmcjldiiaaDoor.Mir
open Go Go.RowKit
set_option maxRecDepth 100000
def growBs : Sum := growS [.int .u8] 5 1 1
theorem growBs_ok {laid : List (Nat × Nat × Value)} : SumOk Tryd.prog laid 51 growBs := by
  refine growS_ok_of Tryd.func51 (by kernel_rfl) (by kernel_rfl) (fun w => ?_) (fun n w hn hb hm => ?_)
  · exact Any8.slices_Grow_room Tryd.growB none 0 0 0 w (by omega) (by omega) (by omega) (by omega)
  · refine (Any8.slices_Grow_grow Tryd.growB Tryd.t5 (.int .u8 0) (by kernel_rfl) (by kernel_rfl) (by rw [show (Tryd.t5).size = 1 from by kernel_rfl]; omega) none 0 0 n [] w (by omega) (by omega) ?_ (by omega) rfl (fun _ => rfl) (fun a e => by cases e)).mono ?_
    · rw [show (Tryd.t5).bytes = 1 from by kernel_rfl]; omega
    · rintro e w' ⟨rfl, rfl⟩
      have hG := grownCap_le_maxLen w (0 + n) 0 (Tryd.growB_ren.t 25) (by unfold maxLen; omega)
      have hg := grownCap_ge w (0 + n) 0 (Tryd.growB_ren.t 25)
      refine ⟨_, _, hG, ?_, rfl, rfl⟩
      simp only [Array.size_append, size_zeroCells]
      rw [show (Value.int IntKind.u8 0).cells.size = 1 from rfl]
      generalize grownCap w (0 + n) 0 (Tryd.growB_ren.t 25) = G at hg ⊢
      simp only [List.size_toArray, List.length_nil]
      omega
def growBsL : Sum := growSL [.int .u8] 5 1 1
theorem growBsL_ok {laid : List (Nat × Nat × Value)} : SumOk Tryd.prog laid 51 growBsL := by
  refine growSL_ok_of Tryd.func51 (by kernel_rfl) (by kernel_rfl) rfl (fun w => ?_) (fun n w hn hb hm => ?_)
  · exact Any8.slices_Grow_room Tryd.growB none 0 0 0 w (by omega) (by omega) (by omega) (by omega)
  · refine (Any8.slices_Grow_grow Tryd.growB Tryd.t5 (.int .u8 0) (by kernel_rfl) (by kernel_rfl) (by rw [show (Tryd.t5).size = 1 from by kernel_rfl]; omega) none 0 0 n [] w (by omega) (by omega) ?_ (by omega) rfl (fun _ => rfl) (fun a e => by cases e)).mono ?_
    · rw [show (Tryd.t5).bytes = 1 from by kernel_rfl]; omega
    · rintro e w' ⟨rfl, rfl⟩
      have hG := grownCap_le_maxLen w (0 + n) 0 (Tryd.growB_ren.t 25) (by unfold maxLen; omega)
      have hg := grownCap_ge w (0 + n) 0 (Tryd.growB_ren.t 25)
      refine ⟨_, _, hG, ?_, rfl, rfl⟩
      simp only [Array.size_append, size_zeroCells]
      rw [show (Value.int IntKind.u8 0).cells.size = 1 from rfl]
      generalize grownCap w (0 + n) 0 (Tryd.growB_ren.t 25) = G at hg ⊢
      simp only [List.size_toArray, List.length_nil]
      omega
end Go.Proofs.YtihignmcjldiiaaDoor.Mir
namespace Go.Proofs.YtihignmcjldiiaaDoor.Mir
open Go Go.RowKit
def ti_2 : TI := ⟨.int .i64, 1, 8, [int .i64 0], [.int .i64]⟩
theorem tk_2 : TyOk1 Go.Proofs.Tryd.prog 2 ti_2 := ⟨by kernel_rfl, fieldsNone (fun fs h => by cases h), ⟨Go.Proofs.Tryd.t2, (Go.Proofs.Tryd.t2.zero).getD .nilIface, by kernel_rfl, by kernel_rfl, by kernel_rfl, by kernel_rfl, by kernel_rfl⟩⟩
def ti_3 : TI := ⟨.int .i64, 1, 8, [int .i64 0], [.int .i64]⟩
theorem tk_3 : TyOk1 Go.Proofs.Tryd.prog 3 ti_3 := ⟨by kernel_rfl, fieldsNone (fun fs h => by cases h), ⟨Go.Proofs.Tryd.t3, (Go.Proofs.Tryd.t3.zero).getD .nilIface, by kernel_rfl, by kernel_rfl, by kernel_rfl, by kernel_rfl, by kernel_rfl⟩⟩
def ti_4 : TI := ⟨.bool, 1, 1, [boolC false], [.bool]⟩
theorem tk_4 : TyOk1 Go.Proofs.Tryd.prog 4 ti_4 := ⟨by kernel_rfl, fieldsNone (fun fs h => by cases h), ⟨Go.Proofs.Tryd.t4, (Go.Proofs.Tryd.t4.zero).getD .nilIface, by kernel_rfl, by kernel_rfl, by kernel_rfl, by kernel_rfl, by kernel_rfl⟩⟩
def ti_5 : TI := ⟨.int .u8, 1, 1, [int .u8 0], [.int .u8]⟩
theorem tk_5 : TyOk1 Go.Proofs.Tryd.prog 5 ti_5 := ⟨by kernel_rfl, fieldsNone (fun fs h => by cases h), ⟨Go.Proofs.Tryd.t5, (Go.Proofs.Tryd.t5.zero).getD .nilIface, by kernel_rfl, by kernel_rfl, by kernel_rfl, by kernel_rfl, by kernel_rfl⟩⟩
def ti_9 : TI := ⟨.string, 1, 16, [.lit (.string ByteArray.empty)], [.str]⟩
theorem tk_9 : TyOk1 Go.Proofs.Tryd.prog 9 ti_9 := ⟨by kernel_rfl, fieldsNone (fun fs h => by cases h), ⟨Go.Proofs.Tryd.t9, (Go.Proofs.Tryd.t9.zero).getD .nilIface, by kernel_rfl, by kernel_rfl, by kernel_rfl, by kernel_rfl, by kernel_rfl⟩⟩
def ti_23 : TI := ⟨.struct #[{ name := "Kind", type := 3, offset := 0, embedded := false, tag := "", pkgPath := "", byteOffset := 0 }, { name := "Before", type := 2, offset := 1, embedded := false, tag := "", pkgPath := "", byteOffset := 8 }, { name := "After", type := 2, offset := 2, embedded := false, tag := "", pkgPath := "", byteOffset := 16 }], 3, 24, [int .i64 0, int .i64 0, int .i64 0], [.int .i64, .int .i64, .int .i64]⟩
theorem tk_23 : TyOk1 Go.Proofs.Tryd.prog 23 ti_23 := ⟨by kernel_rfl, fieldsSome rfl (by kernel_rfl), ⟨Go.Proofs.Tryd.t23, (Go.Proofs.Tryd.t23.zero).getD .nilIface, by kernel_rfl, by kernel_rfl, by kernel_rfl, by kernel_rfl, by kernel_rfl⟩⟩
def ti_25 : TI := ⟨.struct #[{ name := "Width", type := 2, offset := 0, embedded := false, tag := "", pkgPath := "", byteOffset := 0 }, { name := "Cell", type := 2, offset := 1, embedded := false, tag := "", pkgPath := "", byteOffset := 8 }], 2, 16, [int .i64 0, int .i64 0], [.int .i64, .int .i64]⟩
theorem tk_25 : TyOk1 Go.Proofs.Tryd.prog 25 ti_25 := ⟨by kernel_rfl, fieldsSome rfl (by kernel_rfl), ⟨Go.Proofs.Tryd.t25, (Go.Proofs.Tryd.t25.zero).getD .nilIface, by kernel_rfl, by kernel_rfl, by kernel_rfl, by kernel_rfl, by kernel_rfl⟩⟩
def ti_26 : TI := ⟨.slice 54, 1, 24, [.lit (.slice none 0 0)], [.sl [.int .i64, .int .i64, .str]]⟩
theorem tk_26 : TyOk1 Go.Proofs.Tryd.prog 26 ti_26 := ⟨by kernel_rfl, fieldsNone (fun fs h => by cases h), ⟨Go.Proofs.Tryd.t26, (Go.Proofs.Tryd.t26.zero).getD .nilIface, by kernel_rfl, by kernel_rfl, by kernel_rfl, by kernel_rfl, by kernel_rfl⟩⟩
def ti_28 : TI := ⟨.struct #[{ name := "Name", type := 9, offset := 0, embedded := false, tag := "", pkgPath := "", byteOffset := 0 }, { name := "First", type := 2, offset := 1, embedded := false, tag := "", pkgPath := "", byteOffset := 16 }, { name := "L", type := 26, offset := 2, embedded := false, tag := "", pkgPath := "", byteOffset := 24 }], 3, 48, [.lit (.string ByteArray.empty), int .i64 0, .lit (.slice none 0 0)], [.str, .int .i64, .sl [.int .i64, .int .i64, .str]]⟩
theorem tk_28 : TyOk1 Go.Proofs.Tryd.prog 28 ti_28 := ⟨by kernel_rfl, fieldsSome rfl (by kernel_rfl), ⟨Go.Proofs.Tryd.t28, (Go.Proofs.Tryd.t28.zero).getD .nilIface, by kernel_rfl, by kernel_rfl, by kernel_rfl, by kernel_rfl, by kernel_rfl⟩⟩
def ti_30 : TI := ⟨.struct #[{ name := "Smear", type := 23, offset := 0, embedded := false, tag := "", pkgPath := "", byteOffset := 0 }, { name := "Quantum", type := 2, offset := 3, embedded := false, tag := "", pkgPath := "", byteOffset := 24 }, { name := "Fuzz", type := 25, offset := 4, embedded := false, tag := "", pkgPath := "", byteOffset := 32 }, { name := "Jump", type := 4, offset := 6, embedded := false, tag := "", pkgPath := "", byteOffset := 48 }, { name := "Zone", type := 28, offset := 7, embedded := false, tag := "", pkgPath := "", byteOffset := 56 }], 10, 104, [int .i64 0, int .i64 0, int .i64 0, int .i64 0, int .i64 0, int .i64 0, boolC false, .lit (.string ByteArray.empty), int .i64 0, .lit (.slice none 0 0)], [.int .i64, .int .i64, .int .i64, .int .i64, .int .i64, .int .i64, .bool, .str, .int .i64, .sl [.int .i64, .int .i64, .str]]⟩
theorem tk_30 : TyOk1 Go.Proofs.Tryd.prog 30 ti_30 := ⟨by kernel_rfl, fieldsSome rfl (by kernel_rfl), ⟨Go.Proofs.Tryd.t30, (Go.Proofs.Tryd.t30.zero).getD .nilIface, by kernel_rfl, by kernel_rfl, by kernel_rfl, by kernel_rfl, by kernel_rfl⟩⟩
def ti_31 : TI := ⟨.struct #[{ name := "Kind", type := 3, offset := 0, embedded := false, tag := "", pkgPath := "", byteOffset := 0 }, { name := "Before", type := 2, offset := 1, embedded := false, tag := "", pkgPath := "", byteOffset := 8 }, { name := "After", type := 2, offset := 2, embedded := false, tag := "", pkgPath := "", byteOffset := 16 }], 3, 24, [int .i64 0, int .i64 0, int .i64 0], [.int .i64, .int .i64, .int .i64]⟩
theorem tk_31 : TyOk1 Go.Proofs.Tryd.prog 31 ti_31 := ⟨by kernel_rfl, fieldsSome rfl (by kernel_rfl), ⟨Go.Proofs.Tryd.t31, (Go.Proofs.Tryd.t31.zero).getD .nilIface, by kernel_rfl, by kernel_rfl, by kernel_rfl, by kernel_rfl, by kernel_rfl⟩⟩
def ti_32 : TI := ⟨.struct #[{ name := "Width", type := 2, offset := 0, embedded := false, tag := "", pkgPath := "", byteOffset := 0 }, { name := "Cell", type := 2, offset := 1, embedded := false, tag := "", pkgPath := "", byteOffset := 8 }], 2, 16, [int .i64 0, int .i64 0], [.int .i64, .int .i64]⟩
theorem tk_32 : TyOk1 Go.Proofs.Tryd.prog 32 ti_32 := ⟨by kernel_rfl, fieldsSome rfl (by kernel_rfl), ⟨Go.Proofs.Tryd.t32, (Go.Proofs.Tryd.t32.zero).getD .nilIface, by kernel_rfl, by kernel_rfl, by kernel_rfl, by kernel_rfl, by kernel_rfl⟩⟩
def ti_33 : TI := ⟨.slice 79, 1, 24, [.lit (.slice none 0 0)], [.sl [.int .i64, .int .i64, .str]]⟩
theorem tk_33 : TyOk1 Go.Proofs.Tryd.prog 33 ti_33 := ⟨by kernel_rfl, fieldsNone (fun fs h => by cases h), ⟨Go.Proofs.Tryd.t33, (Go.Proofs.Tryd.t33.zero).getD .nilIface, by kernel_rfl, by kernel_rfl, by kernel_rfl, by kernel_rfl, by kernel_rfl⟩⟩
def ti_35 : TI := ⟨.struct #[{ name := "Name", type := 9, offset := 0, embedded := false, tag := "", pkgPath := "", byteOffset := 0 }, { name := "First", type := 2, offset := 1, embedded := false, tag := "", pkgPath := "", byteOffset := 16 }, { name := "L", type := 33, offset := 2, embedded := false, tag := "", pkgPath := "", byteOffset := 24 }], 3, 48, [.lit (.string ByteArray.empty), int .i64 0, .lit (.slice none 0 0)], [.str, .int .i64, .sl [.int .i64, .int .i64, .str]]⟩
theorem tk_35 : TyOk1 Go.Proofs.Tryd.prog 35 ti_35 := ⟨by kernel_rfl, fieldsSome rfl (by kernel_rfl), ⟨Go.Proofs.Tryd.t35, (Go.Proofs.Tryd.t35.zero).getD .nilIface, by kernel_rfl, by kernel_rfl, by kernel_rfl, by kernel_rfl, by kernel_rfl⟩⟩
def ti_37 : TI := ⟨.struct #[{ name := "Smear", type := 31, offset := 0, embedded := false, tag := "", pkgPath := "", byteOffset := 0 }, { name := "Quantum", type := 2, offset := 3, embedded := false, tag := "", pkgPath := "", byteOffset := 24 }, { name := "Fuzz", type := 32, offset := 4, embedded := false, tag := "", pkgPath := "", byteOffset := 32 }, { name := "Jump", type := 4, offset := 6, embedded := false, tag := "", pkgPath := "", byteOffset := 48 }, { name := "Zone", type := 35, offset := 7, embedded := false, tag := "", pkgPath := "", byteOffset := 56 }], 10, 104, [int .i64 0, int .i64 0, int .i64 0, int .i64 0, int .i64 0, int .i64 0, boolC false, .lit (.string ByteArray.empty), int .i64 0, .lit (.slice none 0 0)], [.int .i64, .int .i64, .int .i64, .int .i64, .int .i64, .int .i64, .bool, .str, .int .i64, .sl [.int .i64, .int .i64, .str]]⟩
theorem tk_37 : TyOk1 Go.Proofs.Tryd.prog 37 ti_37 := ⟨by kernel_rfl, fieldsSome rfl (by kernel_rfl), ⟨Go.Proofs.Tryd.t37, (Go.Proofs.Tryd.t37.zero).getD .nilIface, by kernel_rfl, by kernel_rfl, by kernel_rfl, by kernel_rfl, by kernel_rfl⟩⟩
def ti_41 : TI := ⟨.interface #[("Error", 96)], 1, 16, [.lit .nilIface], [.err 60]⟩
theorem tk_41 : TyOk1 Go.Proofs.Tryd.prog 41 ti_41 := ⟨by kernel_rfl, fieldsNone (fun fs h => by cases h), ⟨Go.Proofs.Tryd.t41, (Go.Proofs.Tryd.t41.zero).getD .nilIface, by kernel_rfl, by kernel_rfl, by kernel_rfl, by kernel_rfl, by kernel_rfl⟩⟩
def ti_44 : TI := ⟨.slice 5, 1, 24, [.lit (.slice none 0 0)], [.sl [.int .u8]]⟩
theorem tk_44 : TyOk1 Go.Proofs.Tryd.prog 44 ti_44 := ⟨by kernel_rfl, fieldsNone (fun fs h => by cases h), ⟨Go.Proofs.Tryd.t44, (Go.Proofs.Tryd.t44.zero).getD .nilIface, by kernel_rfl, by kernel_rfl, by kernel_rfl, by kernel_rfl, by kernel_rfl⟩⟩
def ti_50 : TI := ⟨.int .u64, 1, 8, [int .u64 0], [.int .u64]⟩
theorem tk_50 : TyOk1 Go.Proofs.Tryd.prog 50 ti_50 := ⟨by kernel_rfl, fieldsNone (fun fs h => by cases h), ⟨Go.Proofs.Tryd.t50, (Go.Proofs.Tryd.t50.zero).getD .nilIface, by kernel_rfl, by kernel_rfl, by kernel_rfl, by kernel_rfl, by kernel_rfl⟩⟩
def ti_54 : TI := ⟨.struct #[{ name := "At", type := 2, offset := 0, embedded := false, tag := "", pkgPath := "", byteOffset := 0 }, { name := "Off", type := 2, offset := 1, embedded := false, tag := "", pkgPath := "", byteOffset := 8 }, { name := "Name", type := 9, offset := 2, embedded := false, tag := "", pkgPath := "", byteOffset := 16 }], 3, 32, [int .i64 0, int .i64 0, .lit (.string ByteArray.empty)], [.int .i64, .int .i64, .str]⟩
theorem tk_54 : TyOk1 Go.Proofs.Tryd.prog 54 ti_54 := ⟨by kernel_rfl, fieldsSome rfl (by kernel_rfl), ⟨Go.Proofs.Tryd.t54, (Go.Proofs.Tryd.t54.zero).getD .nilIface, by kernel_rfl, by kernel_rfl, by kernel_rfl, by kernel_rfl, by kernel_rfl⟩⟩
def ti_59 : TI := ⟨.array 4 41, 4, 64, [.lit .nilIface, .lit .nilIface, .lit .nilIface, .lit .nilIface], [.err 60, .err 60, .err 60, .err 60]⟩
theorem tk_59 : TyOk1 Go.Proofs.Tryd.prog 59 ti_59 := ⟨by kernel_rfl, fieldsNone (fun fs h => by cases h), ⟨Go.Proofs.Tryd.t59, (Go.Proofs.Tryd.t59.zero).getD .nilIface, by kernel_rfl, by kernel_rfl, by kernel_rfl, by kernel_rfl, by kernel_rfl⟩⟩
def ti_60 : TI := ⟨.int .i64, 1, 8, [int .i64 0], [.int .i64]⟩
theorem tk_60 : TyOk1 Go.Proofs.Tryd.prog 60 ti_60 := ⟨by kernel_rfl, fieldsNone (fun fs h => by cases h), ⟨Go.Proofs.Tryd.t60, (Go.Proofs.Tryd.t60.zero).getD .nilIface, by kernel_rfl, by kernel_rfl, by kernel_rfl, by kernel_rfl, by kernel_rfl⟩⟩
def ti_64 : TI := ⟨.array 5 2, 5, 40, [.arr .i64 5 (List.replicate 5 0)], [.arr .i64 5]⟩
theorem tk_64 : TyOk1 Go.Proofs.Tryd.prog 64 ti_64 := ⟨by kernel_rfl, fieldsNone (fun fs h => by cases h), ⟨Go.Proofs.Tryd.t64, (Go.Proofs.Tryd.t64.zero).getD .nilIface, by kernel_rfl, by kernel_rfl, by kernel_rfl, by kernel_rfl, by kernel_rfl⟩⟩
def ti_68 : TI := ⟨.int .u16, 1, 2, [int .u16 0], [.int .u16]⟩
theorem tk_68 : TyOk1 Go.Proofs.Tryd.prog 68 ti_68 := ⟨by kernel_rfl, fieldsNone (fun fs h => by cases h), ⟨Go.Proofs.Tryd.t68, (Go.Proofs.Tryd.t68.zero).getD .nilIface, by kernel_rfl, by kernel_rfl, by kernel_rfl, by kernel_rfl, by kernel_rfl⟩⟩
def ti_70 : TI := ⟨.pointer 94, 1, 8, [.lit (Value.pointer none)], []⟩
theorem tk_70 : TyOk1 Go.Proofs.Tryd.prog 70 ti_70 := ⟨by kernel_rfl, fieldsNone (fun fs h => by cases h), ⟨Go.Proofs.Tryd.t70, (Go.Proofs.Tryd.t70.zero).getD .nilIface, by kernel_rfl, by kernel_rfl, by kernel_rfl, by kernel_rfl, by kernel_rfl⟩⟩
def ti_79 : TI := ⟨.struct #[{ name := "At", type := 2, offset := 0, embedded := false, tag := "", pkgPath := "", byteOffset := 0 }, { name := "Off", type := 2, offset := 1, embedded := false, tag := "", pkgPath := "", byteOffset := 8 }, { name := "Name", type := 9, offset := 2, embedded := false, tag := "", pkgPath := "", byteOffset := 16 }], 3, 32, [int .i64 0, int .i64 0, .lit (.string ByteArray.empty)], [.int .i64, .int .i64, .str]⟩
theorem tk_79 : TyOk1 Go.Proofs.Tryd.prog 79 ti_79 := ⟨by kernel_rfl, fieldsSome rfl (by kernel_rfl), ⟨Go.Proofs.Tryd.t79, (Go.Proofs.Tryd.t79.zero).getD .nilIface, by kernel_rfl, by kernel_rfl, by kernel_rfl, by kernel_rfl, by kernel_rfl⟩⟩
def ti_83 : TI := ⟨.pointer 60, 1, 8, [.lit (Value.pointer none)], []⟩
theorem tk_83 : TyOk1 Go.Proofs.Tryd.prog 83 ti_83 := ⟨by kernel_rfl, fieldsNone (fun fs h => by cases h), ⟨Go.Proofs.Tryd.t83, (Go.Proofs.Tryd.t83.zero).getD .nilIface, by kernel_rfl, by kernel_rfl, by kernel_rfl, by kernel_rfl, by kernel_rfl⟩⟩
def ti_86 : TI := ⟨.int .u64, 1, 8, [int .u64 0], [.int .u64]⟩
theorem tk_86 : TyOk1 Go.Proofs.Tryd.prog 86 ti_86 := ⟨by kernel_rfl, fieldsNone (fun fs h => by cases h), ⟨Go.Proofs.Tryd.t86, (Go.Proofs.Tryd.t86.zero).getD .nilIface, by kernel_rfl, by kernel_rfl, by kernel_rfl, by kernel_rfl, by kernel_rfl⟩⟩
def ti_94 : TI := ⟨.struct #[{ name := "b", type := 44, offset := 0, embedded := false, tag := "", pkgPath := "fusee/fields", byteOffset := 0 }, { name := "bad", type := 4, offset := 1, embedded := false, tag := "", pkgPath := "fusee/fields", byteOffset := 24 }], 2, 32, [.lit (.slice none 0 0), boolC false], [.sl [.int .u8], .bool]⟩
theorem tk_94 : TyOk1 Go.Proofs.Tryd.prog 94 ti_94 := ⟨by kernel_rfl, fieldsSome rfl (by kernel_rfl), ⟨Go.Proofs.Tryd.t94, (Go.Proofs.Tryd.t94.zero).getD .nilIface, by kernel_rfl, by kernel_rfl, by kernel_rfl, by kernel_rfl, by kernel_rfl⟩⟩
def ti_111 : TI := ⟨.int .u32, 1, 4, [int .u32 0], [.int .u32]⟩
theorem tk_111 : TyOk1 Go.Proofs.Tryd.prog 111 ti_111 := ⟨by kernel_rfl, fieldsNone (fun fs h => by cases h), ⟨Go.Proofs.Tryd.t111, (Go.Proofs.Tryd.t111.zero).getD .nilIface, by kernel_rfl, by kernel_rfl, by kernel_rfl, by kernel_rfl, by kernel_rfl⟩⟩
def ti_113 : TI := ⟨.slice 44, 1, 24, [.lit (.slice none 0 0)], [.sl [.sl [.int .u8]]]⟩
theorem tk_113 : TyOk1 Go.Proofs.Tryd.prog 113 ti_113 := ⟨by kernel_rfl, fieldsNone (fun fs h => by cases h), ⟨Go.Proofs.Tryd.t113, (Go.Proofs.Tryd.t113.zero).getD .nilIface, by kernel_rfl, by kernel_rfl, by kernel_rfl, by kernel_rfl, by kernel_rfl⟩⟩
def tab : List (Nat × TI) := [(2, ti_2), (3, ti_3), (4, ti_4), (5, ti_5), (9, ti_9), (23, ti_23), (25, ti_25), (26, ti_26), (28, ti_28), (30, ti_30), (31, ti_31), (32, ti_32), (33, ti_33), (35, ti_35), (37, ti_37), (41, ti_41), (44, ti_44), (50, ti_50), (54, ti_54), (59, ti_59), (60, ti_60), (64, ti_64), (68, ti_68), (70, ti_70), (79, ti_79), (83, ti_83), (86, ti_86), (94, ti_94), (111, ti_111), (113, ti_113)]
def tyT : TypeId → Option TI := lookT tab
theorem tyOk : TyOk Go.Proofs.Tryd.prog tyT := TysOk.ok (tysOk_cons tk_2 (tysOk_cons tk_3 (tysOk_cons tk_4 (tysOk_cons tk_5 (tysOk_cons tk_9 (tysOk_cons tk_23 (tysOk_cons tk_25 (tysOk_cons tk_26 (tysOk_cons tk_28 (tysOk_cons tk_30 (tysOk_cons tk_31 (tysOk_cons tk_32 (tysOk_cons tk_33 (tysOk_cons tk_35 (tysOk_cons tk_37 (tysOk_cons tk_41 (tysOk_cons tk_44 (tysOk_cons tk_50 (tysOk_cons tk_54 (tysOk_cons tk_59 (tysOk_cons tk_60 (tysOk_cons tk_64 (tysOk_cons tk_68 (tysOk_cons tk_70 (tysOk_cons tk_79 (tysOk_cons tk_83 (tysOk_cons tk_86 (tysOk_cons tk_94 (tysOk_cons tk_111 (tysOk_cons tk_113 tysOk_nil))))))))))))))))))))))))))))))
theorem ek_31 : EqOk Go.Proofs.Tryd.prog 31 (eqQ [.int .i64, .int .i64, .int .i64]) := eqQ_ok (d := 9) (by kernel_rfl) (by omega) (by kernel_rfl) (by kernel_rfl)
theorem ek_32 : EqOk Go.Proofs.Tryd.prog 32 (eqQ [.int .i64, .int .i64]) := eqQ_ok (d := 9) (by kernel_rfl) (by omega) (by kernel_rfl) (by kernel_rfl)
theorem ek_79 : EqOk Go.Proofs.Tryd.prog 79 (eqQ [.int .i64, .int .i64, .str]) := eqQ_ok (d := 9) (by kernel_rfl) (by omega) (by kernel_rfl) (by kernel_rfl)
def eqT : TypeId → Option (List C → List C → Option Bool) := lookE [(31, eqQ [.int .i64, .int .i64, .int .i64]), (32, eqQ [.int .i64, .int .i64]), (79, eqQ [.int .i64, .int .i64, .str])]
theorem eqOk : ∀ t q, eqT t = some q → EqOk Go.Proofs.Tryd.prog t q := (eqsOk_cons ek_31 (eqsOk_cons ek_32 (eqsOk_cons ek_79 eqsOk_nil)))
end Go.Proofs.YtihignmcjldiiaaDoor.Mir
namespace Go.Proofs.YtihignmcjldiiaaDoor.Mir
open Go Go.RowKit
set_option maxRecDepth 100000
noncomputable def X_5 (_ : Nat) : Ctx := ⟨tyT, lookF [], eqT, fun _ => false⟩
noncomputable def c_5 : Code := bodyOf Go.Proofs.Tryd.f5
theorem x_5 (N : Nat) : CtxOk Go.Proofs.Tryd.prog laidL (X_5 N) := ⟨tyOk, eqOk, fun _ _ => fnsOk_nil.get, by kernel_rfl⟩
noncomputable def nd_5_0 : Code := loopAt 0 0 c_5
noncomputable def cb_5_0 : Code := unloop nd_5_0
theorem ne_5_0 : nd_5_0 = .loop cb_5_0 := by kernel_rfl
noncomputable def sh_5_0 : List ShA := [.one (.ptr 144 0), .one (.d (.int .i64)), .agg [.d (.str), .d (.int .i64), .d (.sl [.int .i64, .int .i64, .str])]]
noncomputable def o_5_0 : OutK 0 (((TAs [.one (.d (.bool))]) ⊕ (TAs [.one (.ptr 144 0), .agg [.d (.str), .d (.int .i64), .d (.sl [.int .i64, .int .i64, .str])]]))) := (outTwo (outOne 0 .ret [2] [] [.one (.d (.bool))]) (outOne 0 (.exit 0) [1] [144] [.one (.ptr 144 0), .agg [.d (.str), .d (.int .i64), .d (.sl [.int .i64, .int .i64, .str])]]))
noncomputable def b_5_0 (_ : Nat) (ih : TAs sh_5_0 → Option (((TAs [.one (.d (.bool))]) ⊕ (TAs [.one (.ptr 144 0), .agg [.d (.str), .d (.int .i64), .d (.sl [.int .i64, .int .i64, .str])]])))) : TAs sh_5_0 → Option (((TAs [.one (.d (.bool))]) ⊕ (TAs [.one (.ptr 144 0), .agg [.d (.str), .d (.int .i64), .d (.sl [.int .i64, .int .i64, .str])]]))) := fun (_, y4, (y5, y6, y7)) =>
  (bif (decide (y4 < (List.length y7 : Int))) then (bif (decide (y4 < 60)) then (bif (decide (0 ≤ y4 ∧ y4 < (List.length y7 : Int))) then (bif (decide ((ByteArray.size (List.getD y7 (Int.toNat y4) (0, 0, ByteArray.empty)).2.2 : Int) > 200)) then (some (.inl true)) else (ih ((), (IntKind.i64.wrap (y4 + 1)), (y5, y6, y7)))) else none) else (some (.inr ((), (y5, y6, y7))))) else (some (.inr ((), (y5, y6, y7)))))
noncomputable def l_5_0 (N : Nat) : TAs sh_5_0 → Option (((TAs [.one (.d (.bool))]) ⊕ (TAs [.one (.ptr 144 0), .agg [.d (.str), .d (.int .i64), .d (.sl [.int .i64, .int .i64, .str])]]))) := iter (b_5_0 N) N
noncomputable def lp_5_0 (_ : Nat) : Nat → Option LSum := lookL []
noncomputable def L_5_0 (N : Nat) : LSum := loopSum [1, 3] [144] sh_5_0 o_5_0 (l_5_0 N)
theorem b_ok_5_0 (N : Nat) (ih : TAs sh_5_0 → Option (((TAs [.one (.d (.bool))]) ⊕ (TAs [.one (.ptr 144 0), .agg [.d (.str), .d (.int .i64), .d (.sl [.int .i64, .int .i64, .str])]])))) (p : TAs sh_5_0) : b_5_0 N ih p = exec (X_5 N) Go.Proofs.Tryd.f5.ntmps (lp_5_0 N) cb_5_0 0 (roundK [1, 3] [144] sh_5_0 o_5_0 ih) (stOf [1, 3] [144] sh_5_0 p) := by kernel_rfl
theorem L_ok_5_0 (N : Nat) : SegOk Go.Proofs.Tryd.prog laidL 0 Go.Proofs.Tryd.f5.ntmps nd_5_0 (L_5_0 N) :=
  ne_5_0 ▸ loop_ok (cur := 0) (lp := lp_5_0 N) (x_5 N) (fun n => iter (b_5_0 N) n) (fun _ => rfl) (fun n p => b_ok_5_0 N (iter (b_5_0 N) n) p) (loopsAll (by kernel_rfl) (lookOk_nil)) N
noncomputable def lp_5 (N : Nat) : Nat → Option LSum := lookL [(0, L_5_0 N)]
noncomputable def f_5 (N : Nat) (x1 : ByteArray) (x2 : Int) (x3 : List (Int × Int × ByteArray)) : Option (TAs [.one (.d (.bool))]) :=
  ((l_5_0 N ((), 0, (x1, x2, x3))).bind fun q => (match q with | .inl q8 => (some q8) | .inr q9 => (bif (decide ((List.length q9.2.2.2 : Int) > 60)) then (some true) else (some (decide ((ByteArray.size q9.2.1 : Int) > 200))))))
theorem ok_5 (N : Nat) (x1 : ByteArray) (x2 : Int) (x3 : List (Int × Int × ByteArray)) : f_5 N x1 x2 x3 = exec (X_5 N) Go.Proofs.Tryd.f5.ntmps (lp_5 N) c_5 0 (fnK (X_5 N) Go.Proofs.Tryd.f5.results.toList 0 [.one (.d (.bool))]) (fnSt 1 0 [.agg [.d (.str), .d (.int .i64), .d (.sl [.int .i64, .int .i64, .str])]] (x1, x2, x3)) := by kernel_rfl
noncomputable def S_5 (N : Nat) : Sum := fnSum 1 0 1 [.agg [.d (.str), .d (.int .i64), .d (.sl [.int .i64, .int .i64, .str])]] [.one (.d (.bool))] (fun p => f_5 N p.1 p.2.1 p.2.2)
theorem s_5 (N : Nat) : SumOk Go.Proofs.Tryd.prog laidL 5 (S_5 N) :=
  fn_ok (lp := lp_5 N) (x_5 N) Go.Proofs.Tryd.func5 (c := c_5) (by kernel_rfl) (by kernel_rfl) rfl (fun p => ok_5 N p.1 p.2.1 p.2.2) (loopsAll (by kernel_rfl) ((lookOk_cons (L_ok_5_0 N) lookOk_nil)))
noncomputable def X_11 (_ : Nat) : Ctx := ⟨tyT, lookF [], eqT, fun _ => false⟩
noncomputable def c_11 : Code := bodyOf Go.Proofs.Tryd.f11
theorem x_11 (N : Nat) : CtxOk Go.Proofs.Tryd.prog laidL (X_11 N) := ⟨tyOk, eqOk, fun _ _ => fnsOk_nil.get, by kernel_rfl⟩
noncomputable def nd_11_0 : Code := loopAt 0 0 c_11
noncomputable def cb_11_0 : Code := unloop nd_11_0
theorem ne_11_0 : nd_11_0 = .loop cb_11_0 := by kernel_rfl
noncomputable def sh_11_0 : List ShA := [.one (.ptr 144 0), .one (.ptr 160 0), .one (.ptr 176 0), .one (.d (.int .i64)), .agg [.d (.str), .d (.int .i64), .d (.sl [.int .i64, .int .i64, .str])], .agg [.d (.str), .d (.int .i64), .slt [.int .i64, .int .i64, .str] 79 3], .agg [.d (.str), .d (.int .i64), .slt [.int .i64, .int .i64, .str] 79 3]]
noncomputable def o_11_0 : OutK 0 (TAs [.one (.ptr 160 0), .one (.ptr 176 0), .agg [.d (.str), .d (.int .i64), .slt [.int .i64, .int .i64, .str] 79 3], .agg [.d (.str), .d (.int .i64), .slt [.int .i64, .int .i64, .str] 79 3]]) := (outOne 0 (.exit 0) [2, 3] [160, 176] [.one (.ptr 160 0), .one (.ptr 176 0), .agg [.d (.str), .d (.int .i64), .slt [.int .i64, .int .i64, .str] 79 3], .agg [.d (.str), .d (.int .i64), .slt [.int .i64, .int .i64, .str] 79 3]])
noncomputable def b_11_0 (_ : Nat) (ih : TAs sh_11_0 → Option (TAs [.one (.ptr 160 0), .one (.ptr 176 0), .agg [.d (.str), .d (.int .i64), .slt [.int .i64, .int .i64, .str] 79 3], .agg [.d (.str), .d (.int .i64), .slt [.int .i64, .int .i64, .str] 79 3]])) : TAs sh_11_0 → Option (TAs [.one (.ptr 160 0), .one (.ptr 176 0), .agg [.d (.str), .d (.int .i64), .slt [.int .i64, .int .i64, .str] 79 3], .agg [.d (.str), .d (.int .i64), .slt [.int .i64, .int .i64, .str] 79 3]]) := fun (_, _, _, y4, (y5, y6, y7), (y8, y9, y10), (y11, y12, y13)) =>
  (bif (decide (y4 < (List.length y7 : Int))) then (bif (decide (0 ≤ y4 ∧ y4 < (List.length y7 : Int))) then (bif (decide ((List.length y13 + List.length ([((List.getD y7 (Int.toNat y4) (0, 0, ByteArray.empty)).1, (List.getD y7 (Int.toNat y4) (0, 0, ByteArray.empty)).2.1, (List.getD y7 (Int.toNat y4) (0, 0, ByteArray.empty)).2.2)] : List (Int × Int × ByteArray))) * 32 ≤ 140737488355328)) then (ih ((), (), (), (IntKind.i64.wrap (y4 + 1)), (y5, y6, y7), (y8, y9, y10), (y11, y12, (y13 ++ ([((List.getD y7 (Int.toNat y4) (0, 0, ByteArray.empty)).1, (List.getD y7 (Int.toNat y4) (0, 0, ByteArray.empty)).2.1, (List.getD y7 (Int.toNat y4) (0, 0, ByteArray.empty)).2.2)] : List (Int × Int × ByteArray)))))) else none) else none) else (some (((), (), (y8, y9, y10), (y11, y12, y13)))))
noncomputable def l_11_0 (N : Nat) : TAs sh_11_0 → Option (TAs [.one (.ptr 160 0), .one (.ptr 176 0), .agg [.d (.str), .d (.int .i64), .slt [.int .i64, .int .i64, .str] 79 3], .agg [.d (.str), .d (.int .i64), .slt [.int .i64, .int .i64, .str] 79 3]]) := iter (b_11_0 N) N
noncomputable def lp_11_0 (_ : Nat) : Nat → Option LSum := lookL []
noncomputable def L_11_0 (N : Nat) : LSum := loopSum [1, 2, 3, 4] [144, 160, 176] sh_11_0 o_11_0 (l_11_0 N)
theorem b_ok_11_0 (N : Nat) (ih : TAs sh_11_0 → Option (TAs [.one (.ptr 160 0), .one (.ptr 176 0), .agg [.d (.str), .d (.int .i64), .slt [.int .i64, .int .i64, .str] 79 3], .agg [.d (.str), .d (.int .i64), .slt [.int .i64, .int .i64, .str] 79 3]])) (p : TAs sh_11_0) : b_11_0 N ih p = exec (X_11 N) Go.Proofs.Tryd.f11.ntmps (lp_11_0 N) cb_11_0 0 (roundK [1, 2, 3, 4] [144, 160, 176] sh_11_0 o_11_0 ih) (stOf [1, 2, 3, 4] [144, 160, 176] sh_11_0 p) := by kernel_rfl
theorem L_ok_11_0 (N : Nat) : SegOk Go.Proofs.Tryd.prog laidL 0 Go.Proofs.Tryd.f11.ntmps nd_11_0 (L_11_0 N) :=
  ne_11_0 ▸ loop_ok (cur := 0) (lp := lp_11_0 N) (x_11 N) (fun n => iter (b_11_0 N) n) (fun _ => rfl) (fun n p => b_ok_11_0 N (iter (b_11_0 N) n) p) (loopsAll (by kernel_rfl) (lookOk_nil)) N
noncomputable def lp_11 (N : Nat) : Nat → Option LSum := lookL [(0, L_11_0 N)]
noncomputable def f_11 (N : Nat) (x1 : ByteArray) (x2 : Int) (x3 : List (Int × Int × ByteArray)) : Option (TAs [.agg [.d (.str), .d (.int .i64), .slt [.int .i64, .int .i64, .str] 79 3]]) :=
  ((l_11_0 N ((), (), (), 0, (x1, x2, x3), (ByteArray.empty, 0, ([] : List (Int × Int × ByteArray))), (x1, x2, ([] : List (Int × Int × ByteArray))))).bind fun q14 => (some (q14.2.2.2.1, q14.2.2.2.2.1, q14.2.2.2.2.2)))
theorem ok_11 (N : Nat) (x1 : ByteArray) (x2 : Int) (x3 : List (Int × Int × ByteArray)) : f_11 N x1 x2 x3 = exec (X_11 N) Go.Proofs.Tryd.f11.ntmps (lp_11 N) c_11 0 (fnK (X_11 N) Go.Proofs.Tryd.f11.results.toList 0 [.agg [.d (.str), .d (.int .i64), .slt [.int .i64, .int .i64, .str] 79 3]]) (fnSt 1 0 [.agg [.d (.str), .d (.int .i64), .d (.sl [.int .i64, .int .i64, .str])]] (x1, x2, x3)) := by kernel_rfl
noncomputable def S_11 (N : Nat) : Sum := fnSum 1 0 1 [.agg [.d (.str), .d (.int .i64), .d (.sl [.int .i64, .int .i64, .str])]] [.agg [.d (.str), .d (.int .i64), .slt [.int .i64, .int .i64, .str] 79 3]] (fun p => f_11 N p.1 p.2.1 p.2.2)
theorem s_11 (N : Nat) : SumOk Go.Proofs.Tryd.prog laidL 11 (S_11 N) :=
  fn_ok (lp := lp_11 N) (x_11 N) Go.Proofs.Tryd.func11 (c := c_11) (by kernel_rfl) (by kernel_rfl) rfl (fun p => ok_11 N p.1 p.2.1 p.2.2) (loopsAll (by kernel_rfl) ((lookOk_cons (L_ok_11_0 N) lookOk_nil)))
noncomputable def X_12 (_ : Nat) : Ctx := ⟨tyT, lookF [], eqT, fun _ => false⟩
noncomputable def c_12 : Code := bodyOf Go.Proofs.Tryd.f12
theorem x_12 (N : Nat) : CtxOk Go.Proofs.Tryd.prog laidL (X_12 N) := ⟨tyOk, eqOk, fun _ _ => fnsOk_nil.get, by kernel_rfl⟩
noncomputable def lp_12 (_ : Nat) : Nat → Option LSum := lookL []
noncomputable def f_12 (_ : Nat) (x1 : Int) (x2 : Int) (x3 : Int) : Option (TAs [.one (.d (.err 60))]) :=
  (bif (decide (x2 < 0)) then (some (some 1)) else (bif (decide (x2 > 43200)) then (some (some 1)) else (bif (decide (x3 < 0)) then (some (some 1)) else (bif (decide (x3 > 43200)) then (some (some 1)) else (bif (x1 == 0) then (bif ((IntKind.i64.wrap (x2 + x3)) == 0) then (some none) else (some (some 1))) else (bif (x1 == 1) then (bif (decide ((IntKind.i64.wrap (x2 + x3)) > 0)) then (some none) else (some (some 1))) else (bif (x1 == 2) then (bif (decide ((IntKind.i64.wrap (x2 + x3)) ≥ 3600)) then (some none) else (some (some 1))) else (some (some 1)))))))))
theorem ok_12 (N : Nat) (x1 : Int) (x2 : Int) (x3 : Int) : f_12 N x1 x2 x3 = exec (X_12 N) Go.Proofs.Tryd.f12.ntmps (lp_12 N) c_12 0 (fnK (X_12 N) Go.Proofs.Tryd.f12.results.toList 0 [.one (.d (.err 60))]) (fnSt 1 0 [.agg [.d (.int .i64), .d (.int .i64), .d (.int .i64)]] (x1, x2, x3)) := by kernel_rfl
noncomputable def S_12 (N : Nat) : Sum := fnSum 1 0 1 [.agg [.d (.int .i64), .d (.int .i64), .d (.int .i64)]] [.one (.d (.err 60))] (fun p => f_12 N p.1 p.2.1 p.2.2)
theorem s_12 (N : Nat) : SumOk Go.Proofs.Tryd.prog laidL 12 (S_12 N) :=
  fn_ok (lp := lp_12 N) (x_12 N) Go.Proofs.Tryd.func12 (c := c_12) (by kernel_rfl) (by kernel_rfl) rfl (fun p => ok_12 N p.1 p.2.1 p.2.2) (loopsAll (by kernel_rfl) (lookOk_nil))
noncomputable def X_13 (_ : Nat) : Ctx := ⟨tyT, lookF [], eqT, fun _ => false⟩
noncomputable def c_13 : Code := bodyOf Go.Proofs.Tryd.f13
theorem x_13 (N : Nat) : CtxOk Go.Proofs.Tryd.prog laidL (X_13 N) := ⟨tyOk, eqOk, fun _ _ => fnsOk_nil.get, by kernel_rfl⟩
noncomputable def lp_13 (_ : Nat) : Nat → Option LSum := lookL []
noncomputable def f_13 (_ : Nat) (x1 : Int) : Option (TAs [.one (.d (.err 60))]) :=
  (bif (decide (x1 < 1)) then (some (some 1)) else (bif (decide (x1 > 68719476736)) then (some (some 1)) else (some none)))
theorem ok_13 (N : Nat) (x1 : Int) : f_13 N x1 = exec (X_13 N) Go.Proofs.Tryd.f13.ntmps (lp_13 N) c_13 0 (fnK (X_13 N) Go.Proofs.Tryd.f13.results.toList 0 [.one (.d (.err 60))]) (fnSt 1 0 [.one (.d (.int .i64))] x1) := by kernel_rfl
noncomputable def S_13 (N : Nat) : Sum := fnSum 1 0 1 [.one (.d (.int .i64))] [.one (.d (.err 60))] (fun p => f_13 N p)
theorem s_13 (N : Nat) : SumOk Go.Proofs.Tryd.prog laidL 13 (S_13 N) :=
  fn_ok (lp := lp_13 N) (x_13 N) Go.Proofs.Tryd.func13 (c := c_13) (by kernel_rfl) (by kernel_rfl) rfl (fun p => ok_13 N p) (loopsAll (by kernel_rfl) (lookOk_nil))
noncomputable def X_14 (_ : Nat) : Ctx := ⟨tyT, lookF [], eqT, fun _ => false⟩
noncomputable def c_14 : Code := bodyOf Go.Proofs.Tryd.f14
theorem x_14 (N : Nat) : CtxOk Go.Proofs.Tryd.prog laidL (X_14 N) := ⟨tyOk, eqOk, fun _ _ => fnsOk_nil.get, by kernel_rfl⟩
noncomputable def lp_14 (_ : Nat) : Nat → Option LSum := lookL []
noncomputable def f_14 (_ : Nat) (x1 : Int) (x2 : Int) : Option (TAs [.one (.d (.err 60))]) :=
  (bif (decide (x1 < 0)) then (some (some 1)) else (bif (decide (x1 > 1099511627776)) then (some (some 1)) else (bif (decide (x2 < 1)) then (some (some 1)) else (bif (decide (x2 > 1125899906842624)) then (some (some 1)) else (some none)))))
theorem ok_14 (N : Nat) (x1 : Int) (x2 : Int) : f_14 N x1 x2 = exec (X_14 N) Go.Proofs.Tryd.f14.ntmps (lp_14 N) c_14 0 (fnK (X_14 N) Go.Proofs.Tryd.f14.results.toList 0 [.one (.d (.err 60))]) (fnSt 1 0 [.agg [.d (.int .i64), .d (.int .i64)]] (x1, x2)) := by kernel_rfl
noncomputable def S_14 (N : Nat) : Sum := fnSum 1 0 1 [.agg [.d (.int .i64), .d (.int .i64)]] [.one (.d (.err 60))] (fun p => f_14 N p.1 p.2)
theorem s_14 (N : Nat) : SumOk Go.Proofs.Tryd.prog laidL 14 (S_14 N) :=
  fn_ok (lp := lp_14 N) (x_14 N) Go.Proofs.Tryd.func14 (c := c_14) (by kernel_rfl) (by kernel_rfl) rfl (fun p => ok_14 N p.1 p.2) (loopsAll (by kernel_rfl) (lookOk_nil))
noncomputable def X_16 (_ : Nat) : Ctx := ⟨tyT, lookF [], eqT, fun _ => false⟩
noncomputable def c_16 : Code := bodyOf Go.Proofs.Tryd.f16
theorem x_16 (N : Nat) : CtxOk Go.Proofs.Tryd.prog laidL (X_16 N) := ⟨tyOk, eqOk, fun _ _ => fnsOk_nil.get, by kernel_rfl⟩
noncomputable def lp_16 (_ : Nat) : Nat → Option LSum := lookL []
noncomputable def f_16 (_ : Nat) : Option (TAs [.agg [.d (.int .i64), .d (.int .i64), .d (.int .i64), .d (.int .i64), .d (.int .i64), .d (.int .i64), .d (.bool), .d (.str), .d (.int .i64), .slt [.int .i64, .int .i64, .str] 79 3]]) :=
  (some (0, 0, 0, 1, 0, 1, false, ⟨#[85, 84, 67]⟩, 0, ([] : List (Int × Int × ByteArray))))
theorem ok_16 (N : Nat) : f_16 N = exec (X_16 N) Go.Proofs.Tryd.f16.ntmps (lp_16 N) c_16 0 (fnK (X_16 N) Go.Proofs.Tryd.f16.results.toList 0 [.agg [.d (.int .i64), .d (.int .i64), .d (.int .i64), .d (.int .i64), .d (.int .i64), .d (.int .i64), .d (.bool), .d (.str), .d (.int .i64), .slt [.int .i64, .int .i64, .str] 79 3]]) (fnSt 0 0 [] ()) := by kernel_rfl
noncomputable def S_16 (N : Nat) : Sum := fnSum 0 0 1 [] [.agg [.d (.int .i64), .d (.int .i64), .d (.int .i64), .d (.int .i64), .d (.int .i64), .d (.int .i64), .d (.bool), .d (.str), .d (.int .i64), .slt [.int .i64, .int .i64, .str] 79 3]] (fun _ => f_16 N)
theorem s_16 (N : Nat) : SumOk Go.Proofs.Tryd.prog laidL 16 (S_16 N) :=
  fn_ok (lp := lp_16 N) (x_16 N) Go.Proofs.Tryd.func16 (c := c_16) (by kernel_rfl) (by kernel_rfl) rfl (fun _ => ok_16 N) (loopsAll (by kernel_rfl) (lookOk_nil))
noncomputable def X_17 (_ : Nat) : Ctx := ⟨tyT, lookF [(33, asS)], eqT, fun _ => false⟩
noncomputable def c_17 : Code := bodyOf Go.Proofs.Tryd.f17
theorem x_17 (N : Nat) : CtxOk Go.Proofs.Tryd.prog laidL (X_17 N) := ⟨tyOk, eqOk, fun _ _ => (fnsOk_cons asS_ok fnsOk_nil).get, by kernel_rfl⟩
noncomputable def lp_17 (_ : Nat) : Nat → Option LSum := lookL []
noncomputable def f_17 (_ : Nat) (x1 : Option Int) : Option (TAs [.one (.d (.int .i64))]) :=
  (bif (Option.isNone x1) then (some 0) else ((some (x1, (0 : Int)) : Option (Option Int × Int)).bind fun r2 => (bif (Option.isSome r2.1) then (some (asVal r2.2 r2.1)) else (some (-1)))))
theorem ok_17 (N : Nat) (x1 : Option Int) : f_17 N x1 = exec (X_17 N) Go.Proofs.Tryd.f17.ntmps (lp_17 N) c_17 0 (fnK (X_17 N) Go.Proofs.Tryd.f17.results.toList 0 [.one (.d (.int .i64))]) (fnSt 1 0 [.one (.d (.err 60))] x1) := by kernel_rfl
noncomputable def S_17 (N : Nat) : Sum := fnSum 1 0 1 [.one (.d (.err 60))] [.one (.d (.int .i64))] (fun p => f_17 N p)
theorem s_17 (N : Nat) : SumOk Go.Proofs.Tryd.prog laidL 17 (S_17 N) :=
  fn_ok (lp := lp_17 N) (x_17 N) Go.Proofs.Tryd.func17 (c := c_17) (by kernel_rfl) (by kernel_rfl) rfl (fun p => ok_17 N p) (loopsAll (by kernel_rfl) (lookOk_nil))
noncomputable def X_21 (_ : Nat) : Ctx := ⟨tyT, lookF [], eqT, fun _ => false⟩
noncomputable def c_21 : Code := bodyOf Go.Proofs.Tryd.f21
theorem x_21 (N : Nat) : CtxOk Go.Proofs.Tryd.prog laidL (X_21 N) := ⟨tyOk, eqOk, fun _ _ => fnsOk_nil.get, by kernel_rfl⟩
noncomputable def lp_21 (_ : Nat) : Nat → Option LSum := lookL []
noncomputable def f_21 (_ : Nat) (x1 : Bool) : Option (TAs [.one (.d (.int .u8))]) :=
  (bif x1 then (some 1) else (some 0))
theorem ok_21 (N : Nat) (x1 : Bool) : f_21 N x1 = exec (X_21 N) Go.Proofs.Tryd.f21.ntmps (lp_21 N) c_21 0 (fnK (X_21 N) Go.Proofs.Tryd.f21.results.toList 0 [.one (.d (.int .u8))]) (fnSt 1 0 [.one (.d (.bool))] x1) := by kernel_rfl
noncomputable def S_21 (N : Nat) : Sum := fnSum 1 0 1 [.one (.d (.bool))] [.one (.d (.int .u8))] (fun p => f_21 N p)
theorem s_21 (N : Nat) : SumOk Go.Proofs.Tryd.prog laidL 21 (S_21 N) :=
  fn_ok (lp := lp_21 N) (x_21 N) Go.Proofs.Tryd.func21 (c := c_21) (by kernel_rfl) (by kernel_rfl) rfl (fun p => ok_21 N p) (loopsAll (by kernel_rfl) (lookOk_nil))
noncomputable def X_25 (_ : Nat) : Ctx := ⟨tyT, lookF [(42, rdS)], eqT, fun _ => false⟩
noncomputable def c_25 : Code := bodyOf Go.Proofs.Tryd.f25
theorem x_25 (N : Nat) : CtxOk Go.Proofs.Tryd.prog laidL (X_25 N) := ⟨tyOk, eqOk, fun _ _ => (fnsOk_cons rdS_ok fnsOk_nil).get, by kernel_rfl⟩
noncomputable def lp_25 (_ : Nat) : Nat → Option LSum := lookL []
noncomputable def f_25 (_ : Nat) (x1 : List Int) (x2 : Bool) : Option (TAs [.one (.d (.int .u8)), .agg [.d (.sl [.int .u8]), .d (.bool)]]) :=
  ((rdF 1 x1 x2).bind fun r3 => (some ((IntKind.u8.wrap r3.1), (r3.2.1, r3.2.2))))
theorem ok_25 (N : Nat) (x1 : List Int) (x2 : Bool) : f_25 N x1 x2 = exec (X_25 N) Go.Proofs.Tryd.f25.ntmps (lp_25 N) c_25 0 (fnK (X_25 N) Go.Proofs.Tryd.f25.results.toList 1 [.one (.d (.int .u8)), .agg [.d (.sl [.int .u8]), .d (.bool)]]) (fnSt 1 1 [.one (.ptr 0 0), .agg [.d (.sl [.int .u8]), .d (.bool)]] ((), (x1, x2))) := by kernel_rfl
noncomputable def S_25 (N : Nat) : Sum := fnSum 1 1 1 [.one (.ptr 0 0), .agg [.d (.sl [.int .u8]), .d (.bool)]] [.one (.d (.int .u8)), .agg [.d (.sl [.int .u8]), .d (.bool)]] (fun p => f_25 N p.2.1 p.2.2)
theorem s_25 (N : Nat) : SumOk Go.Proofs.Tryd.prog laidL 25 (S_25 N) :=
  fn_ok (lp := lp_25 N) (x_25 N) Go.Proofs.Tryd.func25 (c := c_25) (by kernel_rfl) (by kernel_rfl) rfl (fun p => ok_25 N p.2.1 p.2.2) (loopsAll (by kernel_rfl) (lookOk_nil))
noncomputable def X_26 (_ : Nat) : Ctx := ⟨tyT, lookF [(42, rdS)], eqT, fun _ => false⟩
noncomputable def c_26 : Code := bodyOf Go.Proofs.Tryd.f26
theorem x_26 (N : Nat) : CtxOk Go.Proofs.Tryd.prog laidL (X_26 N) := ⟨tyOk, eqOk, fun _ _ => (fnsOk_cons rdS_ok fnsOk_nil).get, by kernel_rfl⟩
noncomputable def lp_26 (_ : Nat) : Nat → Option LSum := lookL []
noncomputable def f_26 (_ : Nat) (x1 : List Int) (x2 : Bool) : Option (TAs [.one (.d (.int .i64)), .agg [.d (.sl [.int .u8]), .d (.bool)]]) :=
  ((rdF 8 x1 x2).bind fun r3 => (some ((IntKind.i64.wrap r3.1), (r3.2.1, r3.2.2))))
theorem ok_26 (N : Nat) (x1 : List Int) (x2 : Bool) : f_26 N x1 x2 = exec (X_26 N) Go.Proofs.Tryd.f26.ntmps (lp_26 N) c_26 0 (fnK (X_26 N) Go.Proofs.Tryd.f26.results.toList 1 [.one (.d (.int .i64)), .agg [.d (.sl [.int .u8]), .d (.bool)]]) (fnSt 1 1 [.one (.ptr 0 0), .agg [.d (.sl [.int .u8]), .d (.bool)]] ((), (x1, x2))) := by kernel_rfl
noncomputable def S_26 (N : Nat) : Sum := fnSum 1 1 1 [.one (.ptr 0 0), .agg [.d (.sl [.int .u8]), .d (.bool)]] [.one (.d (.int .i64)), .agg [.d (.sl [.int .u8]), .d (.bool)]] (fun p => f_26 N p.2.1 p.2.2)
theorem s_26 (N : Nat) : SumOk Go.Proofs.Tryd.prog laidL 26 (S_26 N) :=
  fn_ok (lp := lp_26 N) (x_26 N) Go.Proofs.Tryd.func26 (c := c_26) (by kernel_rfl) (by kernel_rfl) rfl (fun p => ok_26 N p.2.1 p.2.2) (loopsAll (by kernel_rfl) (lookOk_nil))
noncomputable def X_27 (_ : Nat) : Ctx := ⟨tyT, lookF [(42, rdS)], eqT, fun _ => false⟩
noncomputable def c_27 : Code := bodyOf Go.Proofs.Tryd.f27
theorem x_27 (N : Nat) : CtxOk Go.Proofs.Tryd.prog laidL (X_27 N) := ⟨tyOk, eqOk, fun _ _ => (fnsOk_cons rdS_ok fnsOk_nil).get, by kernel_rfl⟩
noncomputable def lp_27 (_ : Nat) : Nat → Option LSum := lookL []
noncomputable def f_27 (_ : Nat) (x1 : List Int) (x2 : Bool) : Option (TAs [.one (.d (.int .u16)), .agg [.d (.sl [.int .u8]), .d (.bool)]]) :=
  ((rdF 2 x1 x2).bind fun r3 => (some ((IntKind.u16.wrap r3.1), (r3.2.1, r3.2.2))))
theorem ok_27 (N : Nat) (x1 : List Int) (x2 : Bool) : f_27 N x1 x2 = exec (X_27 N) Go.Proofs.Tryd.f27.ntmps (lp_27 N) c_27 0 (fnK (X_27 N) Go.Proofs.Tryd.f27.results.toList 1 [.one (.d (.int .u16)), .agg [.d (.sl [.int .u8]), .d (.bool)]]) (fnSt 1 1 [.one (.ptr 0 0), .agg [.d (.sl [.int .u8]), .d (.bool)]] ((), (x1, x2))) := by kernel_rfl
noncomputable def S_27 (N : Nat) : Sum := fnSum 1 1 1 [.one (.ptr 0 0), .agg [.d (.sl [.int .u8]), .d (.bool)]] [.one (.d (.int .u16)), .agg [.d (.sl [.int .u8]), .d (.bool)]] (fun p => f_27 N p.2.1 p.2.2)
theorem s_27 (N : Nat) : SumOk Go.Proofs.Tryd.prog laidL 27 (S_27 N) :=
  fn_ok (lp := lp_27 N) (x_27 N) Go.Proofs.Tryd.func27 (c := c_27) (by kernel_rfl) (by kernel_rfl) rfl (fun p => ok_27 N p.2.1 p.2.2) (loopsAll (by kernel_rfl) (lookOk_nil))
noncomputable def X_28 (_ : Nat) : Ctx := ⟨tyT, lookF [], eqT, fun _ => false⟩
noncomputable def c_28 : Code := bodyOf Go.Proofs.Tryd.f28
theorem x_28 (N : Nat) : CtxOk Go.Proofs.Tryd.prog laidL (X_28 N) := ⟨tyOk, eqOk, fun _ _ => fnsOk_nil.get, by kernel_rfl⟩
noncomputable def lp_28 (_ : Nat) : Nat → Option LSum := lookL []
noncomputable def f_28 (_ : Nat) (x1 : List Int) (x2 : Bool) : Option (TAs [.one (.d (.int .i64)), .agg [.d (.sl [.int .u8]), .d (.bool)]]) :=
  (some ((List.length x1 : Int), (x1, x2)))
theorem ok_28 (N : Nat) (x1 : List Int) (x2 : Bool) : f_28 N x1 x2 = exec (X_28 N) Go.Proofs.Tryd.f28.ntmps (lp_28 N) c_28 0 (fnK (X_28 N) Go.Proofs.Tryd.f28.results.toList 1 [.one (.d (.int .i64)), .agg [.d (.sl [.int .u8]), .d (.bool)]]) (fnSt 1 1 [.one (.ptr 0 0), .agg [.d (.sl [.int .u8]), .d (.bool)]] ((), (x1, x2))) := by kernel_rfl
noncomputable def S_28 (N : Nat) : Sum := fnSum 1 1 1 [.one (.ptr 0 0), .agg [.d (.sl [.int .u8]), .d (.bool)]] [.one (.d (.int .i64)), .agg [.d (.sl [.int .u8]), .d (.bool)]] (fun p => f_28 N p.2.1 p.2.2)
theorem s_28 (N : Nat) : SumOk Go.Proofs.Tryd.prog laidL 28 (S_28 N) :=
  fn_ok (lp := lp_28 N) (x_28 N) Go.Proofs.Tryd.func28 (c := c_28) (by kernel_rfl) (by kernel_rfl) rfl (fun p => ok_28 N p.2.1 p.2.2) (loopsAll (by kernel_rfl) (lookOk_nil))
noncomputable def X_30 (_ : Nat) : Ctx := ⟨tyT, lookF [], eqT, fun _ => false⟩
noncomputable def c_30 : Code := bodyOf Go.Proofs.Tryd.f30
theorem x_30 (N : Nat) : CtxOk Go.Proofs.Tryd.prog laidL (X_30 N) := ⟨tyOk, eqOk, fun _ _ => fnsOk_nil.get, by kernel_rfl⟩
noncomputable def nd_30_0 : Code := loopAt 0 0 c_30
noncomputable def cb_30_0 : Code := unloop nd_30_0
theorem ne_30_0 : nd_30_0 = .loop cb_30_0 := by kernel_rfl
noncomputable def sh_30_0 : List ShA := [.one (.d (.sl [.int .i64, .int .i64, .str])), .one (.d (.sl [.int .i64, .int .i64, .str])), .one (.d (.int .i64)), .one (.d (.int .i64))]
noncomputable def o_30_0 : OutK 0 (((TAs [.one (.d (.bool))]) ⊕ (TAs []))) := (outTwo (outOne 0 .ret [4] [] [.one (.d (.bool))]) (outOne 0 (.exit 0) [] [] []))
noncomputable def b_30_0 (_ : Nat) (ih : TAs sh_30_0 → Option (((TAs [.one (.d (.bool))]) ⊕ (TAs [])))) : TAs sh_30_0 → Option (((TAs [.one (.d (.bool))]) ⊕ (TAs []))) := fun (y3, y4, y5, y6) =>
  (bif (decide (y6 < y5)) then (bif (decide (0 ≤ y6 ∧ y6 < (List.length y3 : Int))) then (bif (decide (0 ≤ y6 ∧ y6 < (List.length y4 : Int))) then (bif (!(((List.getD y3 (Int.toNat y6) (0, 0, ByteArray.empty)).1 == (List.getD y4 (Int.toNat y6) (0, 0, ByteArray.empty)).1) && (((List.getD y3 (Int.toNat y6) (0, 0, ByteArray.empty)).2.1 == (List.getD y4 (Int.toNat y6) (0, 0, ByteArray.empty)).2.1) && ((List.getD y3 (Int.toNat y6) (0, 0, ByteArray.empty)).2.2.toList == (List.getD y4 (Int.toNat y6) (0, 0, ByteArray.empty)).2.2.toList)))) then (some (.inl false)) else (ih (y3, y4, y5, (IntKind.i64.wrap (y6 + 1))))) else none) else none) else (some (.inr ())))
noncomputable def l_30_0 (N : Nat) : TAs sh_30_0 → Option (((TAs [.one (.d (.bool))]) ⊕ (TAs []))) := iter (b_30_0 N) N
noncomputable def lp_30_0 (_ : Nat) : Nat → Option LSum := lookL []
noncomputable def L_30_0 (N : Nat) : LSum := loopSum [0, 1, 12, 13] [] sh_30_0 o_30_0 (l_30_0 N)
theorem b_ok_30_0 (N : Nat) (ih : TAs sh_30_0 → Option (((TAs [.one (.d (.bool))]) ⊕ (TAs [])))) (p : TAs sh_30_0) : b_30_0 N ih p = exec (X_30 N) Go.Proofs.Tryd.f30.ntmps (lp_30_0 N) cb_30_0 0 (roundK [0, 1, 12, 13] [] sh_30_0 o_30_0 ih) (stOf [0, 1, 12, 13] [] sh_30_0 p) := by kernel_rfl
theorem L_ok_30_0 (N : Nat) : SegOk Go.Proofs.Tryd.prog laidL 0 Go.Proofs.Tryd.f30.ntmps nd_30_0 (L_30_0 N) :=
  ne_30_0 ▸ loop_ok (cur := 0) (lp := lp_30_0 N) (x_30 N) (fun n => iter (b_30_0 N) n) (fun _ => rfl) (fun n p => b_ok_30_0 N (iter (b_30_0 N) n) p) (loopsAll (by kernel_rfl) (lookOk_nil)) N
noncomputable def lp_30 (N : Nat) : Nat → Option LSum := lookL [(0, L_30_0 N)]
noncomputable def f_30 (N : Nat) (x1 : List (Int × Int × ByteArray)) (x2 : List (Int × Int × ByteArray)) : Option (TAs [.one (.d (.bool))]) :=
  (bif ((List.length x1 : Int) != (List.length x2 : Int)) then (some false) else ((l_30_0 N (x1, x2, (List.length x1 : Int), 0)).bind fun q => (match q with | .inl q7 => (some q7) | .inr _ => (some true))))
theorem ok_30 (N : Nat) (x1 : List (Int × Int × ByteArray)) (x2 : List (Int × Int × ByteArray)) : f_30 N x1 x2 = exec (X_30 N) Go.Proofs.Tryd.f30.ntmps (lp_30 N) c_30 0 (fnK (X_30 N) Go.Proofs.Tryd.f30.results.toList 0 [.one (.d (.bool))]) (fnSt 2 0 [.one (.d (.sl [.int .i64, .int .i64, .str])), .one (.d (.sl [.int .i64, .int .i64, .str]))] (x1, x2)) := by kernel_rfl
noncomputable def S_30 (N : Nat) : Sum := fnSum 2 0 1 [.one (.d (.sl [.int .i64, .int .i64, .str])), .one (.d (.sl [.int .i64, .int .i64, .str]))] [.one (.d (.bool))] (fun p => f_30 N p.1 p.2)
theorem s_30 (N : Nat) : SumOk Go.Proofs.Tryd.prog laidL 30 (S_30 N) :=
  fn_ok (lp := lp_30 N) (x_30 N) Go.Proofs.Tryd.func30 (c := c_30) (by kernel_rfl) (by kernel_rfl) rfl (fun p => ok_30 N p.1 p.2) (loopsAll (by kernel_rfl) ((lookOk_cons (L_ok_30_0 N) lookOk_nil)))
noncomputable def X_31 (_ : Nat) : Ctx := ⟨tyT, lookF [(45, trimS)], eqT, fun _ => false⟩
noncomputable def c_31 : Code := bodyOf Go.Proofs.Tryd.f31
theorem x_31 (N : Nat) : CtxOk Go.Proofs.Tryd.prog laidL (X_31 N) := ⟨tyOk, eqOk, fun _ _ => (fnsOk_cons trimS_ok fnsOk_nil).get, by kernel_rfl⟩
noncomputable def lp_31 (_ : Nat) : Nat → Option LSum := lookL []
noncomputable def f_31 (_ : Nat) (x1 : ByteArray) : Option (TAs [.one (.d (.bool))]) :=
  (bif (!((ByteArray.toList x1) == (ByteArray.toList (⟨#[]⟩ : ByteArray)))) then (bif (decide ((ByteArray.size x1 : Int) ≤ 12)) then ((trimF x1 (⟨#[65, 66, 67, 68, 69, 70, 71, 72, 73, 74, 75, 76, 77, 78, 79, 80, 81, 82, 83, 84, 85, 86, 87, 88, 89, 90, 97, 98, 99, 100, 101, 102, 103, 104, 105, 106, 107, 108, 109, 110, 111, 112, 113, 114, 115, 116, 117, 118, 119, 120, 121, 122, 48, 49, 50, 51, 52, 53, 54, 55, 56, 57, 47, 95, 43, 45]⟩)).bind fun r2 => (some ((ByteArray.toList r2) == (ByteArray.toList (⟨#[]⟩ : ByteArray))))) else (some false)) else (some false))
theorem ok_31 (N : Nat) (x1 : ByteArray) : f_31 N x1 = exec (X_31 N) Go.Proofs.Tryd.f31.ntmps (lp_31 N) c_31 0 (fnK (X_31 N) Go.Proofs.Tryd.f31.results.toList 0 [.one (.d (.bool))]) (fnSt 1 0 [.one (.d (.str))] x1) := by kernel_rfl
noncomputable def S_31 (N : Nat) : Sum := fnSum 1 0 1 [.one (.d (.str))] [.one (.d (.bool))] (fun p => f_31 N p)
theorem s_31 (N : Nat) : SumOk Go.Proofs.Tryd.prog laidL 31 (S_31 N) :=
  fn_ok (lp := lp_31 N) (x_31 N) Go.Proofs.Tryd.func31 (c := c_31) (by kernel_rfl) (by kernel_rfl) rfl (fun p => ok_31 N p) (loopsAll (by kernel_rfl) (lookOk_nil))
noncomputable def X_32 (_ : Nat) : Ctx := ⟨tyT, lookF [], eqT, fun _ => false⟩
noncomputable def c_32 : Code := bodyOf Go.Proofs.Tryd.f32
theorem x_32 (N : Nat) : CtxOk Go.Proofs.Tryd.prog laidL (X_32 N) := ⟨tyOk, eqOk, fun _ _ => fnsOk_nil.get, by kernel_rfl⟩
noncomputable def lp_32 (_ : Nat) : Nat → Option LSum := lookL []
noncomputable def f_32 (_ : Nat) (x1 : Int) : Option (TAs [.one (.d (.bool))]) :=
  (bif (decide (x1 ≥ (-86399))) then (some (decide (x1 ≤ 86399))) else (some false))
theorem ok_32 (N : Nat) (x1 : Int) : f_32 N x1 = exec (X_32 N) Go.Proofs.Tryd.f32.ntmps (lp_32 N) c_32 0 (fnK (X_32 N) Go.Proofs.Tryd.f32.results.toList 0 [.one (.d (.bool))]) (fnSt 1 0 [.one (.d (.int .i64))] x1) := by kernel_rfl
noncomputable def S_32 (N : Nat) : Sum := fnSum 1 0 1 [.one (.d (.int .i64))] [.one (.d (.bool))] (fun p => f_32 N p)
theorem s_32 (N : Nat) : SumOk Go.Proofs.Tryd.prog laidL 32 (S_32 N) :=
  fn_ok (lp := lp_32 N) (x_32 N) Go.Proofs.Tryd.func32 (c := c_32) (by kernel_rfl) (by kernel_rfl) rfl (fun p => ok_32 N p) (loopsAll (by kernel_rfl) (lookOk_nil))
noncomputable def X_36 (_ : Nat) : Ctx := ⟨tyT, lookF [], eqT, fun _ => false⟩
noncomputable def c_36 : Code := bodyOf Go.Proofs.Tryd.f36
theorem x_36 (N : Nat) : CtxOk Go.Proofs.Tryd.prog laidL (X_36 N) := ⟨tyOk, eqOk, fun _ _ => fnsOk_nil.get, by kernel_rfl⟩
noncomputable def lp_36 (_ : Nat) : Nat → Option LSum := lookL []
noncomputable def f_36 (_ : Nat) (x1 : Int) : Option (TAs [.one (.d (.bool))]) :=
  (bif (decide (x1 ≥ 1)) then (some (decide (x1 ≤ 6))) else (some false))
theorem ok_36 (N : Nat) (x1 : Int) : f_36 N x1 = exec (X_36 N) Go.Proofs.Tryd.f36.ntmps (lp_36 N) c_36 0 (fnK (X_36 N) Go.Proofs.Tryd.f36.results.toList 0 [.one (.d (.bool))]) (fnSt 1 0 [.one (.d (.int .u8))] x1) := by kernel_rfl
noncomputable def S_36 (N : Nat) : Sum := fnSum 1 0 1 [.one (.d (.int .u8))] [.one (.d (.bool))] (fun p => f_36 N p)
theorem s_36 (N : Nat) : SumOk Go.Proofs.Tryd.prog laidL 36 (S_36 N) :=
  fn_ok (lp := lp_36 N) (x_36 N) Go.Proofs.Tryd.func36 (c := c_36) (by kernel_rfl) (by kernel_rfl) rfl (fun p => ok_36 N p) (loopsAll (by kernel_rfl) (lookOk_nil))
noncomputable def X_38 (_ : Nat) : Ctx := ⟨tyT, lookF [(51, growBsL)], eqT, fun _ => false⟩
noncomputable def c_38 : Code := bodyOf Go.Proofs.Tryd.f38
theorem x_38 (N : Nat) : CtxOk Go.Proofs.Tryd.prog laidL (X_38 N) := ⟨tyOk, eqOk, fun _ _ => (fnsOk_cons growBsL_ok fnsOk_nil).get, by kernel_rfl⟩
noncomputable def nd_38_0 : Code := loopAt 0 0 c_38
noncomputable def cb_38_0 : Code := unloop nd_38_0
theorem ne_38_0 : nd_38_0 = .loop cb_38_0 := by kernel_rfl
noncomputable def nd_38_2 : Code := loopAt 0 2 c_38
noncomputable def cb_38_2 : Code := unloop nd_38_2
theorem ne_38_2 : nd_38_2 = .loop cb_38_2 := by kernel_rfl
noncomputable def sh_38_0 : List ShA := [.one (.d (.sl [.sl [.int .u8]])), .one (.d (.int .i64)), .one (.d (.sl [.sl [.int .u8]])), .one (.d (.int .i64)), .one (.d (.int .i64))]
noncomputable def o_38_0 : OutK 0 (TAs [.one (.d (.sl [.sl [.int .u8]])), .one (.d (.int .i64))]) := (outOne 0 (.exit 0) [0, 3] [] [.one (.d (.sl [.sl [.int .u8]])), .one (.d (.int .i64))])
noncomputable def b_38_0 (_ : Nat) (ih : TAs sh_38_0 → Option (TAs [.one (.d (.sl [.sl [.int .u8]])), .one (.d (.int .i64))])) : TAs sh_38_0 → Option (TAs [.one (.d (.sl [.sl [.int .u8]])), .one (.d (.int .i64))]) := fun (y2, y3, y4, y5, y6) =>
  (bif (decide (y6 < y5)) then (bif (decide (0 ≤ y6 ∧ y6 < (List.length y4 : Int))) then (bif (decide ((IntKind.i64.wrap (y3 + (List.length (List.getD y4 (Int.toNat y6) []) : Int))) < 0)) then none else (ih (y2, (IntKind.i64.wrap (y3 + (List.length (List.getD y4 (Int.toNat y6) []) : Int))), y4, y5, (IntKind.i64.wrap (y6 + 1))))) else none) else (some ((y2, y3))))
noncomputable def l_38_0 (N : Nat) : TAs sh_38_0 → Option (TAs [.one (.d (.sl [.sl [.int .u8]])), .one (.d (.int .i64))]) := iter (b_38_0 N) N
noncomputable def lp_38_0 (_ : Nat) : Nat → Option LSum := lookL []
noncomputable def L_38_0 (N : Nat) : LSum := loopSum [0, 3, 9, 10, 11] [] sh_38_0 o_38_0 (l_38_0 N)
theorem b_ok_38_0 (N : Nat) (ih : TAs sh_38_0 → Option (TAs [.one (.d (.sl [.sl [.int .u8]])), .one (.d (.int .i64))])) (p : TAs sh_38_0) : b_38_0 N ih p = exec (X_38 N) Go.Proofs.Tryd.f38.ntmps (lp_38_0 N) cb_38_0 0 (roundK [0, 3, 9, 10, 11] [] sh_38_0 o_38_0 ih) (stOf [0, 3, 9, 10, 11] [] sh_38_0 p) := by kernel_rfl
theorem L_ok_38_0 (N : Nat) : SegOk Go.Proofs.Tryd.prog laidL 0 Go.Proofs.Tryd.f38.ntmps nd_38_0 (L_38_0 N) :=
  ne_38_0 ▸ loop_ok (cur := 0) (lp := lp_38_0 N) (x_38 N) (fun n => iter (b_38_0 N) n) (fun _ => rfl) (fun n p => b_ok_38_0 N (iter (b_38_0 N) n) p) (loopsAll (by kernel_rfl) (lookOk_nil)) N
noncomputable def sh_38_2 : List ShA := [.one (.slv [.int .u8] 5 1), .one (.d (.sl [.sl [.int .u8]])), .one (.d (.int .i64)), .one (.d (.int .i64))]
noncomputable def o_38_2 : OutK 0 (TAs [.one (.slv [.int .u8] 5 1)]) := (outOne 0 (.exit 2) [6] [] [.one (.slv [.int .u8] 5 1)])
noncomputable def b_38_2 (_ : Nat) (ih : TAs sh_38_2 → Option (TAs [.one (.slv [.int .u8] 5 1)])) : TAs sh_38_2 → Option (TAs [.one (.slv [.int .u8] 5 1)]) := fun (y9, y10, y11, y12) =>
  (bif (decide (y12 < y11)) then (bif (decide (0 ≤ y12 ∧ y12 < (List.length y10 : Int))) then (bif (decide ((List.length y9 + List.length (List.getD y10 (Int.toNat y12) [])) * 1 ≤ 140737488355328)) then (ih ((y9 ++ (List.getD y10 (Int.toNat y12) [])), y10, y11, (IntKind.i64.wrap (y12 + 1)))) else none) else none) else (some (y9)))
noncomputable def l_38_2 (N : Nat) : TAs sh_38_2 → Option (TAs [.one (.slv [.int .u8] 5 1)]) := iter (b_38_2 N) N
noncomputable def lp_38_2 (_ : Nat) : Nat → Option LSum := lookL []
noncomputable def L_38_2 (N : Nat) : LSum := loopSum [6, 25, 26, 27] [] sh_38_2 o_38_2 (l_38_2 N)
theorem b_ok_38_2 (N : Nat) (ih : TAs sh_38_2 → Option (TAs [.one (.slv [.int .u8] 5 1)])) (p : TAs sh_38_2) : b_38_2 N ih p = exec (X_38 N) Go.Proofs.Tryd.f38.ntmps (lp_38_2 N) cb_38_2 2 (roundK [6, 25, 26, 27] [] sh_38_2 o_38_2 ih) (stOf [6, 25, 26, 27] [] sh_38_2 p) := by kernel_rfl
theorem L_ok_38_2 (N : Nat) : SegOk Go.Proofs.Tryd.prog laidL 0 Go.Proofs.Tryd.f38.ntmps nd_38_2 (L_38_2 N) :=
  ne_38_2 ▸ loop_ok (cur := 2) (lp := lp_38_2 N) (x_38 N) (fun n => iter (b_38_2 N) n) (fun _ => rfl) (fun n p => b_ok_38_2 N (iter (b_38_2 N) n) p) (loopsAll (by kernel_rfl) (lookOk_nil)) N
noncomputable def lp_38 (N : Nat) : Nat → Option LSum := lookL [(0, L_38_0 N), (2, L_38_2 N)]
noncomputable def f_38 (N : Nat) (x1 : List ((List Int))) : Option (TAs [.one (.slv [.int .u8] 5 1)]) :=
  ((l_38_0 N (x1, 0, x1, (List.length x1 : Int), 0)).bind fun q7 => ((growF 1 q7.2).bind fun _ => ((l_38_2 N (([] : List Int), q7.1, (List.length q7.1 : Int), 0)).bind fun q13 => (some q13))))
theorem ok_38 (N : Nat) (x1 : List ((List Int))) : f_38 N x1 = exec (X_38 N) Go.Proofs.Tryd.f38.ntmps (lp_38 N) c_38 0 (fnK (X_38 N) Go.Proofs.Tryd.f38.results.toList 0 [.one (.slv [.int .u8] 5 1)]) (fnSt 1 0 [.one (.d (.sl [.sl [.int .u8]]))] x1) := by kernel_rfl
noncomputable def S_38 (N : Nat) : Sum := fnSum 1 0 1 [.one (.d (.sl [.sl [.int .u8]]))] [.one (.slv [.int .u8] 5 1)] (fun p => f_38 N p)
theorem s_38 (N : Nat) : SumOk Go.Proofs.Tryd.prog laidL 38 (S_38 N) :=
  fn_ok (lp := lp_38 N) (x_38 N) Go.Proofs.Tryd.func38 (c := c_38) (by kernel_rfl) (by kernel_rfl) rfl (fun p => ok_38 N p) (loopsAll (by kernel_rfl) ((lookOk_cons (L_ok_38_0 N) (lookOk_cons (L_ok_38_2 N) lookOk_nil))))
noncomputable def Xc_41 : Ctx := ⟨tyT, lookF [], eqT, fun _ => false⟩
theorem xc_41 : CtxOk Go.Proofs.Tryd.prog laidL Xc_41 := ⟨tyOk, eqOk, fun _ _ => fnsOk_nil.get, by kernel_rfl⟩
noncomputable def cl_41 : Sum := fnSum 1 0 1 [.one (.d (.sl [.int .u8]))] [.one (.slt [.int .u8] 5 1)] (cloneF [.int .u8] 1)
theorem cl_41_ok : SumOk Go.Proofs.Tryd.prog laidL 41 cl_41 :=
  clone_ok (t := 44) (bt := 4) (e := 5) xc_41 Go.Proofs.Tryd.func41 (by kernel_rfl) rfl rfl rfl (by kernel_rfl) (fun b xs h => by
    cases b with
    | false => kernel_rfl
    | true => obtain rfl := h rfl; kernel_rfl)
noncomputable def X_44 (_ : Nat) : Ctx := ⟨tyT, lookF [], eqT, fun _ => false⟩
noncomputable def c_44 : Code := bodyOf Go.Proofs.Tryd.f44
theorem x_44 (N : Nat) : CtxOk Go.Proofs.Tryd.prog laidL (X_44 N) := ⟨tyOk, eqOk, fun _ _ => fnsOk_nil.get, by kernel_rfl⟩
noncomputable def lp_44 (_ : Nat) : Nat → Option LSum := lookL []
noncomputable def f_44 (_ : Nat) (x1 : List Int) (x2 : Bool) : Option (TAs [.one (.d (.err 60)), .agg [.d (.sl [.int .u8]), .d (.bool)]]) :=
  (bif x2 then (some ((some 3), (x1, x2))) else (bif (decide ((List.length x1 : Int) > 0)) then (some ((some 3), (x1, x2))) else (some (none, (x1, x2)))))
theorem ok_44 (N : Nat) (x1 : List Int) (x2 : Bool) : f_44 N x1 x2 = exec (X_44 N) Go.Proofs.Tryd.f44.ntmps (lp_44 N) c_44 0 (fnK (X_44 N) Go.Proofs.Tryd.f44.results.toList 1 [.one (.d (.err 60)), .agg [.d (.sl [.int .u8]), .d (.bool)]]) (fnSt 1 1 [.one (.ptr 0 0), .agg [.d (.sl [.int .u8]), .d (.bool)]] ((), (x1, x2))) := by kernel_rfl
noncomputable def S_44 (N : Nat) : Sum := fnSum 1 1 1 [.one (.ptr 0 0), .agg [.d (.sl [.int .u8]), .d (.bool)]] [.one (.d (.err 60)), .agg [.d (.sl [.int .u8]), .d (.bool)]] (fun p => f_44 N p.2.1 p.2.2)
theorem s_44 (N : Nat) : SumOk Go.Proofs.Tryd.prog laidL 44 (S_44 N) :=
  fn_ok (lp := lp_44 N) (x_44 N) Go.Proofs.Tryd.func44 (c := c_44) (by kernel_rfl) (by kernel_rfl) rfl (fun p => ok_44 N p.2.1 p.2.2) (loopsAll (by kernel_rfl) (lookOk_nil))
noncomputable def X_52 (_ : Nat) : Ctx := ⟨tyT, lookF [], eqT, fun _ => false⟩
noncomputable def c_52 : Code := bodyOf Go.Proofs.Tryd.f52
theorem x_52 (N : Nat) : CtxOk Go.Proofs.Tryd.prog laidL (X_52 N) := ⟨tyOk, eqOk, fun _ _ => fnsOk_nil.get, by kernel_rfl⟩
noncomputable def nd_52_0 : Code := loopAt 0 0 c_52
noncomputable def cb_52_0 : Code := unloop nd_52_0
theorem ne_52_0 : nd_52_0 = .loop cb_52_0 := by kernel_rfl
noncomputable def sh_52_0 : List ShA := [.one (.d (.sl [.int .u8])), .one (.d (.sl [.int .u8])), .one (.d (.int .i64)), .one (.d (.int .i64))]
noncomputable def o_52_0 : OutK 0 (((TAs [.one (.d (.bool))]) ⊕ (TAs []))) := (outTwo (outOne 0 .ret [4] [] [.one (.d (.bool))]) (outOne 0 (.exit 0) [] [] []))
noncomputable def b_52_0 (_ : Nat) (ih : TAs sh_52_0 → Option (((TAs [.one (.d (.bool))]) ⊕ (TAs [])))) : TAs sh_52_0 → Option (((TAs [.one (.d (.bool))]) ⊕ (TAs []))) := fun (y3, y4, y5, y6) =>
  (bif (decide (y6 < y5)) then (bif (decide (0 ≤ y6 ∧ y6 < (List.length y3 : Int))) then (bif (decide (0 ≤ y6 ∧ y6 < (List.length y4 : Int))) then (bif ((List.getD y3 (Int.toNat y6) 0) != (List.getD y4 (Int.toNat y6) 0)) then (some (.inl false)) else (ih (y3, y4, y5, (IntKind.i64.wrap (y6 + 1))))) else none) else none) else (some (.inr ())))
noncomputable def l_52_0 (N : Nat) : TAs sh_52_0 → Option (((TAs [.one (.d (.bool))]) ⊕ (TAs []))) := iter (b_52_0 N) N
noncomputable def lp_52_0 (_ : Nat) : Nat → Option LSum := lookL []
noncomputable def L_52_0 (N : Nat) : LSum := loopSum [0, 1, 12, 13] [] sh_52_0 o_52_0 (l_52_0 N)
theorem b_ok_52_0 (N : Nat) (ih : TAs sh_52_0 → Option (((TAs [.one (.d (.bool))]) ⊕ (TAs [])))) (p : TAs sh_52_0) : b_52_0 N ih p = exec (X_52 N) Go.Proofs.Tryd.f52.ntmps (lp_52_0 N) cb_52_0 0 (roundK [0, 1, 12, 13] [] sh_52_0 o_52_0 ih) (stOf [0, 1, 12, 13] [] sh_52_0 p) := by kernel_rfl
theorem L_ok_52_0 (N : Nat) : SegOk Go.Proofs.Tryd.prog laidL 0 Go.Proofs.Tryd.f52.ntmps nd_52_0 (L_52_0 N) :=
  ne_52_0 ▸ loop_ok (cur := 0) (lp := lp_52_0 N) (x_52 N) (fun n => iter (b_52_0 N) n) (fun _ => rfl) (fun n p => b_ok_52_0 N (iter (b_52_0 N) n) p) (loopsAll (by kernel_rfl) (lookOk_nil)) N
noncomputable def lp_52 (N : Nat) : Nat → Option LSum := lookL [(0, L_52_0 N)]
noncomputable def f_52 (N : Nat) (x1 : List Int) (x2 : List Int) : Option (TAs [.one (.d (.bool))]) :=
  (bif ((List.length x1 : Int) != (List.length x2 : Int)) then (some false) else ((l_52_0 N (x1, x2, (List.length x1 : Int), 0)).bind fun q => (match q with | .inl q7 => (some q7) | .inr _ => (some true))))
theorem ok_52 (N : Nat) (x1 : List Int) (x2 : List Int) : f_52 N x1 x2 = exec (X_52 N) Go.Proofs.Tryd.f52.ntmps (lp_52 N) c_52 0 (fnK (X_52 N) Go.Proofs.Tryd.f52.results.toList 0 [.one (.d (.bool))]) (fnSt 2 0 [.one (.d (.sl [.int .u8])), .one (.d (.sl [.int .u8]))] (x1, x2)) := by kernel_rfl
noncomputable def S_52 (N : Nat) : Sum := fnSum 2 0 1 [.one (.d (.sl [.int .u8])), .one (.d (.sl [.int .u8]))] [.one (.d (.bool))] (fun p => f_52 N p.1 p.2)
theorem s_52 (N : Nat) : SumOk Go.Proofs.Tryd.prog laidL 52 (S_52 N) :=
  fn_ok (lp := lp_52 N) (x_52 N) Go.Proofs.Tryd.func52 (c := c_52) (by kernel_rfl) (by kernel_rfl) rfl (fun p => ok_52 N p.1 p.2) (loopsAll (by kernel_rfl) ((lookOk_cons (L_ok_52_0 N) lookOk_nil)))
noncomputable def X_54 (_ : Nat) : Ctx := ⟨tyT, lookF [], eqT, fun _ => false⟩
noncomputable def c_54 : Code := bodyOf Go.Proofs.Tryd.f54
theorem x_54 (N : Nat) : CtxOk Go.Proofs.Tryd.prog laidL (X_54 N) := ⟨tyOk, eqOk, fun _ _ => fnsOk_nil.get, by kernel_rfl⟩
noncomputable def lp_54 (_ : Nat) : Nat → Option LSum := lookL []
noncomputable def f_54 (_ : Nat) (x1 : Int) (x2 : List Int) (x3 : Bool) : Option (TAs [.one (.d (.sl [.int .u8])), .agg [.d (.sl [.int .u8]), .d (.bool)]]) :=
  (bif x3 then (some (([] : List Int), (([] : List Int), true))) else (bif (decide (x1 > (List.length x2 : Int))) then (some (([] : List Int), (([] : List Int), true))) else (bif (decide (0 ≤ x1 ∧ x1 ≤ (List.length x2 : Int))) then (bif (decide (0 ≤ (0 : Int) ∧ (0 : Int) ≤ x1)) then (bif (decide (0 ≤ (List.length x2 : Int) ∧ (List.length x2 : Int) ≤ (List.length x2 : Int))) then (bif (decide (0 ≤ x1 ∧ x1 ≤ (List.length x2 : Int))) then (some ((List.drop (Int.toNat (0 : Int)) (List.take (Int.toNat x1) x2)), ((List.drop (Int.toNat x1) (List.take (Int.toNat (List.length x2 : Int)) x2)), x3))) else none) else none) else none) else none)))
theorem ok_54 (N : Nat) (x1 : Int) (x2 : List Int) (x3 : Bool) : f_54 N x1 x2 x3 = exec (X_54 N) Go.Proofs.Tryd.f54.ntmps (lp_54 N) c_54 0 (fnK (X_54 N) Go.Proofs.Tryd.f54.results.toList 1 [.one (.d (.sl [.int .u8])), .agg [.d (.sl [.int .u8]), .d (.bool)]]) (fnSt 2 1 [.one (.ptr 0 0), .one (.d (.int .i64)), .agg [.d (.sl [.int .u8]), .d (.bool)]] ((), x1, (x2, x3))) := by kernel_rfl
noncomputable def S_54 (N : Nat) : Sum := fnSum 2 1 1 [.one (.ptr 0 0), .one (.d (.int .i64)), .agg [.d (.sl [.int .u8]), .d (.bool)]] [.one (.d (.sl [.int .u8])), .agg [.d (.sl [.int .u8]), .d (.bool)]] (fun p => f_54 N p.2.1 p.2.2.1 p.2.2.2)
theorem s_54 (N : Nat) : SumOk Go.Proofs.Tryd.prog laidL 54 (S_54 N) :=
  fn_ok (lp := lp_54 N) (x_54 N) Go.Proofs.Tryd.func54 (c := c_54) (by kernel_rfl) (by kernel_rfl) rfl (fun p => ok_54 N p.2.1 p.2.2.1 p.2.2.2) (loopsAll (by kernel_rfl) (lookOk_nil))
noncomputable def X_67 (_ : Nat) : Ctx := ⟨tyT, lookF [], eqT, fun _ => false⟩
noncomputable def c_67 : Code := bodyOf Go.Proofs.Tryd.f67
theorem x_67 (N : Nat) : CtxOk Go.Proofs.Tryd.prog laidL (X_67 N) := ⟨tyOk, eqOk, fun _ _ => fnsOk_nil.get, by kernel_rfl⟩
noncomputable def nd_67_0 : Code := loopAt 0 0 c_67
noncomputable def cb_67_0 : Code := unloop nd_67_0
theorem ne_67_0 : nd_67_0 = .loop cb_67_0 := by kernel_rfl
noncomputable def sh_67_0 : List ShA := [.one (.d (.int .u32)), .one (.d (.int .i64))]
noncomputable def o_67_0 : OutK 0 (TAs [.one (.d (.int .u32))]) := (outOne 0 (.exit 0) [0] [] [.one (.d (.int .u32))])
noncomputable def b_67_0 (_ : Nat) (ih : TAs sh_67_0 → Option (TAs [.one (.d (.int .u32))])) : TAs sh_67_0 → Option (TAs [.one (.d (.int .u32))]) := fun (y3, y4) =>
  (bif (decide (y4 < 8)) then (bif ((ibits .and .u32 y3 1) == 1) then (ih ((ibits .xor .u32 (y3 / 2 ^ (min (Int.toNat 1) IntKind.u32.bits)) 3988292384), (IntKind.i64.wrap (y4 + 1)))) else (ih ((y3 / 2 ^ (min (Int.toNat 1) IntKind.u32.bits)), (IntKind.i64.wrap (y4 + 1))))) else (some (y3)))
noncomputable def l_67_0 (N : Nat) : TAs sh_67_0 → Option (TAs [.one (.d (.int .u32))]) := iter (b_67_0 N) N
noncomputable def lp_67_0 (_ : Nat) : Nat → Option LSum := lookL []
noncomputable def L_67_0 (N : Nat) : LSum := loopSum [0, 9] [] sh_67_0 o_67_0 (l_67_0 N)
theorem b_ok_67_0 (N : Nat) (ih : TAs sh_67_0 → Option (TAs [.one (.d (.int .u32))])) (p : TAs sh_67_0) : b_67_0 N ih p = exec (X_67 N) Go.Proofs.Tryd.f67.ntmps (lp_67_0 N) cb_67_0 0 (roundK [0, 9] [] sh_67_0 o_67_0 ih) (stOf [0, 9] [] sh_67_0 p) := by kernel_rfl
theorem L_ok_67_0 (N : Nat) : SegOk Go.Proofs.Tryd.prog laidL 0 Go.Proofs.Tryd.f67.ntmps nd_67_0 (L_67_0 N) :=
  ne_67_0 ▸ loop_ok (cur := 0) (lp := lp_67_0 N) (x_67 N) (fun n => iter (b_67_0 N) n) (fun _ => rfl) (fun n p => b_ok_67_0 N (iter (b_67_0 N) n) p) (loopsAll (by kernel_rfl) (lookOk_nil)) N
noncomputable def lp_67 (N : Nat) : Nat → Option LSum := lookL [(0, L_67_0 N)]
noncomputable def f_67 (N : Nat) (x1 : Int) (x2 : Int) : Option (TAs [.one (.d (.int .u32))]) :=
  ((l_67_0 N ((ibits .xor .u32 x1 (IntKind.u32.wrap x2)), 0)).bind fun q5 => (some q5))
theorem ok_67 (N : Nat) (x1 : Int) (x2 : Int) : f_67 N x1 x2 = exec (X_67 N) Go.Proofs.Tryd.f67.ntmps (lp_67 N) c_67 0 (fnK (X_67 N) Go.Proofs.Tryd.f67.results.toList 0 [.one (.d (.int .u32))]) (fnSt 2 0 [.one (.d (.int .u32)), .one (.d (.int .u8))] (x1, x2)) := by kernel_rfl
noncomputable def S_67 (N : Nat) : Sum := fnSum 2 0 1 [.one (.d (.int .u32)), .one (.d (.int .u8))] [.one (.d (.int .u32))] (fun p => f_67 N p.1 p.2)
theorem s_67 (N : Nat) : SumOk Go.Proofs.Tryd.prog laidL 67 (S_67 N) :=
  fn_ok (lp := lp_67 N) (x_67 N) Go.Proofs.Tryd.func67 (c := c_67) (by kernel_rfl) (by kernel_rfl) rfl (fun p => ok_67 N p.1 p.2) (loopsAll (by kernel_rfl) ((lookOk_cons (L_ok_67_0 N) lookOk_nil)))
noncomputable def X_4 (N : Nat) : Ctx := ⟨tyT, lookF [(11, (S_11 N))], eqT, fun _ => false⟩
noncomputable def c_4 : Code := bodyOf Go.Proofs.Tryd.f4
theorem x_4 (N : Nat) : CtxOk Go.Proofs.Tryd.prog laidL (X_4 N) := ⟨tyOk, eqOk, fun _ _ => (fnsOk_cons (s_11 N) fnsOk_nil).get, by kernel_rfl⟩
noncomputable def lp_4 (_ : Nat) : Nat → Option LSum := lookL []
noncomputable def f_4 (N : Nat) (x1 : Int) (x2 : Int) (x3 : Int) (x4 : Int) (x5 : Int) (x6 : Int) (x7 : Bool) (x8 : ByteArray) (x9 : Int) (x10 : List (Int × Int × ByteArray)) : Option (TAs [.agg [.d (.int .i64), .d (.int .i64), .d (.int .i64), .d (.int .i64), .d (.int .i64), .d (.int .i64), .d (.bool), .d (.str), .d (.int .i64), .slt [.int .i64, .int .i64, .str] 79 3]]) :=
  ((f_11 N x8 x9 x10).bind fun r11 => (some (x1, x2, x3, x4, x5, x6, x7, r11.1, r11.2.1, r11.2.2)))
theorem ok_4 (N : Nat) (x1 : Int) (x2 : Int) (x3 : Int) (x4 : Int) (x5 : Int) (x6 : Int) (x7 : Bool) (x8 : ByteArray) (x9 : Int) (x10 : List (Int × Int × ByteArray)) : f_4 N x1 x2 x3 x4 x5 x6 x7 x8 x9 x10 = exec (X_4 N) Go.Proofs.Tryd.f4.ntmps (lp_4 N) c_4 0 (fnK (X_4 N) Go.Proofs.Tryd.f4.results.toList 0 [.agg [.d (.int .i64), .d (.int .i64), .d (.int .i64), .d (.int .i64), .d (.int .i64), .d (.int .i64), .d (.bool), .d (.str), .d (.int .i64), .slt [.int .i64, .int .i64, .str] 79 3]]) (fnSt 1 0 [.agg [.d (.int .i64), .d (.int .i64), .d (.int .i64), .d (.int .i64), .d (.int .i64), .d (.int .i64), .d (.bool), .d (.str), .d (.int .i64), .d (.sl [.int .i64, .int .i64, .str])]] (x1, x2, x3, x4, x5, x6, x7, x8, x9, x10)) := by kernel_rfl
noncomputable def S_4 (N : Nat) : Sum := fnSum 1 0 1 [.agg [.d (.int .i64), .d (.int .i64), .d (.int .i64), .d (.int .i64), .d (.int .i64), .d (.int .i64), .d (.bool), .d (.str), .d (.int .i64), .d (.sl [.int .i64, .int .i64, .str])]] [.agg [.d (.int .i64), .d (.int .i64), .d (.int .i64), .d (.int .i64), .d (.int .i64), .d (.int .i64), .d (.bool), .d (.str), .d (.int .i64), .slt [.int .i64, .int .i64, .str] 79 3]] (fun p => f_4 N p.1 p.2.1 p.2.2.1 p.2.2.2.1 p.2.2.2.2.1 p.2.2.2.2.2.1 p.2.2.2.2.2.2.1 p.2.2.2.2.2.2.2.1 p.2.2.2.2.2.2.2.2.1 p.2.2.2.2.2.2.2.2.2)
theorem s_4 (N : Nat) : SumOk Go.Proofs.Tryd.prog laidL 4 (S_4 N) :=
  fn_ok (lp := lp_4 N) (x_4 N) Go.Proofs.Tryd.func4 (c := c_4) (by kernel_rfl) (by kernel_rfl) rfl (fun p => ok_4 N p.1 p.2.1 p.2.2.1 p.2.2.2.1 p.2.2.2.2.1 p.2.2.2.2.2.1 p.2.2.2.2.2.2.1 p.2.2.2.2.2.2.2.1 p.2.2.2.2.2.2.2.2.1 p.2.2.2.2.2.2.2.2.2) (loopsAll (by kernel_rfl) (lookOk_nil))
noncomputable def X_10 (N : Nat) : Ctx := ⟨tyT, lookF [(30, (S_30 N))], eqT, fun _ => false⟩
noncomputable def c_10 : Code := bodyOf Go.Proofs.Tryd.f10
theorem x_10 (N : Nat) : CtxOk Go.Proofs.Tryd.prog laidL (X_10 N) := ⟨tyOk, eqOk, fun _ _ => (fnsOk_cons (s_30 N) fnsOk_nil).get, by kernel_rfl⟩
noncomputable def lp_10 (_ : Nat) : Nat → Option LSum := lookL []
noncomputable def f_10 (N : Nat) (x1 : Int) (x2 : Int) (x3 : Int) (x4 : Int) (x5 : Int) (x6 : Int) (x7 : Bool) (x8 : ByteArray) (x9 : Int) (x10 : List (Int × Int × ByteArray)) (x11 : Int) (x12 : Int) (x13 : Int) (x14 : Int) (x15 : Int) (x16 : Int) (x17 : Bool) (x18 : ByteArray) (x19 : Int) (x20 : List (Int × Int × ByteArray)) : Option (TAs [.one (.d (.bool))]) :=
  (bif ((x1 == x11) && ((x2 == x12) && (x3 == x13))) then (bif (x4 == x14) then (bif ((x5 == x15) && (x6 == x16)) then (bif (x7 == x17) then (bif ((ByteArray.toList x8) == (ByteArray.toList x18)) then (bif (x9 == x19) then ((f_30 N x10 x20).bind fun r21 => (some r21)) else (some false)) else (some false)) else (some false)) else (some false)) else (some false)) else (some false))
theorem ok_10 (N : Nat) (x1 : Int) (x2 : Int) (x3 : Int) (x4 : Int) (x5 : Int) (x6 : Int) (x7 : Bool) (x8 : ByteArray) (x9 : Int) (x10 : List (Int × Int × ByteArray)) (x11 : Int) (x12 : Int) (x13 : Int) (x14 : Int) (x15 : Int) (x16 : Int) (x17 : Bool) (x18 : ByteArray) (x19 : Int) (x20 : List (Int × Int × ByteArray)) : f_10 N x1 x2 x3 x4 x5 x6 x7 x8 x9 x10 x11 x12 x13 x14 x15 x16 x17 x18 x19 x20 = exec (X_10 N) Go.Proofs.Tryd.f10.ntmps (lp_10 N) c_10 0 (fnK (X_10 N) Go.Proofs.Tryd.f10.results.toList 0 [.one (.d (.bool))]) (fnSt 2 0 [.agg [.d (.int .i64), .d (.int .i64), .d (.int .i64), .d (.int .i64), .d (.int .i64), .d (.int .i64), .d (.bool), .d (.str), .d (.int .i64), .d (.sl [.int .i64, .int .i64, .str])], .agg [.d (.int .i64), .d (.int .i64), .d (.int .i64), .d (.int .i64), .d (.int .i64), .d (.int .i64), .d (.bool), .d (.str), .d (.int .i64), .d (.sl [.int .i64, .int .i64, .str])]] ((x1, x2, x3, x4, x5, x6, x7, x8, x9, x10), (x11, x12, x13, x14, x15, x16, x17, x18, x19, x20))) := by kernel_rfl
noncomputable def S_10 (N : Nat) : Sum := fnSum 2 0 1 [.agg [.d (.int .i64), .d (.int .i64), .d (.int .i64), .d (.int .i64), .d (.int .i64), .d (.int .i64), .d (.bool), .d (.str), .d (.int .i64), .d (.sl [.int .i64, .int .i64, .str])], .agg [.d (.int .i64), .d (.int .i64), .d (.int .i64), .d (.int .i64), .d (.int .i64), .d (.int .i64), .d (.bool), .d (.str), .d (.int .i64), .d (.sl [.int .i64, .int .i64, .str])]] [.one (.d (.bool))] (fun p => f_10 N p.1.1 p.1.2.1 p.1.2.2.1 p.1.2.2.2.1 p.1.2.2.2.2.1 p.1.2.2.2.2.2.1 p.1.2.2.2.2.2.2.1 p.1.2.2.2.2.2.2.2.1 p.1.2.2.2.2.2.2.2.2.1 p.1.2.2.2.2.2.2.2.2.2 p.2.1 p.2.2.1 p.2.2.2.1 p.2.2.2.2.1 p.2.2.2.2.2.1 p.2.2.2.2.2.2.1 p.2.2.2.2.2.2.2.1 p.2.2.2.2.2.2.2.2.1 p.2.2.2.2.2.2.2.2.2.1 p.2.2.2.2.2.2.2.2.2.2)
theorem s_10 (N : Nat) : SumOk Go.Proofs.Tryd.prog laidL 10 (S_10 N) :=
  fn_ok (lp := lp_10 N) (x_10 N) Go.Proofs.Tryd.func10 (c := c_10) (by kernel_rfl) (by kernel_rfl) rfl (fun p => ok_10 N p.1.1 p.1.2.1 p.1.2.2.1 p.1.2.2.2.1 p.1.2.2.2.2.1 p.1.2.2.2.2.2.1 p.1.2.2.2.2.2.2.1 p.1.2.2.2.2.2.2.2.1 p.1.2.2.2.2.2.2.2.2.1 p.1.2.2.2.2.2.2.2.2.2 p.2.1 p.2.2.1 p.2.2.2.1 p.2.2.2.2.1 p.2.2.2.2.2.1 p.2.2.2.2.2.2.1 p.2.2.2.2.2.2.2.1 p.2.2.2.2.2.2.2.2.1 p.2.2.2.2.2.2.2.2.2.1 p.2.2.2.2.2.2.2.2.2.2) (loopsAll (by kernel_rfl) (lookOk_nil))
noncomputable def X_15 (N : Nat) : Ctx := ⟨tyT, lookF [(31, (S_31 N)), (32, (S_32 N))], eqT, fun _ => false⟩
noncomputable def c_15 : Code := bodyOf Go.Proofs.Tryd.f15
theorem x_15 (N : Nat) : CtxOk Go.Proofs.Tryd.prog laidL (X_15 N) := ⟨tyOk, eqOk, fun _ _ => (fnsOk_cons (s_31 N) (fnsOk_cons (s_32 N) fnsOk_nil)).get, by kernel_rfl⟩
noncomputable def nd_15_0 : Code := loopAt 0 0 c_15
noncomputable def cb_15_0 : Code := unloop nd_15_0
theorem ne_15_0 : nd_15_0 = .loop cb_15_0 := by kernel_rfl
noncomputable def sh_15_0 : List ShA := [.one (.ptr 144 0), .one (.d (.sl [.int .i64, .int .i64, .str])), .one (.d (.int .i64)), .one (.d (.int .i64)), .agg [.d (.str), .d (.int .i64), .d (.sl [.int .i64, .int .i64, .str])]]
noncomputable def o_15_0 : OutK 0 (((TAs [.one (.d (.err 60))]) ⊕ (TAs []))) := (outTwo (outOne 0 .ret [2] [] [.one (.d (.err 60))]) (outOne 0 (.exit 0) [] [] []))
noncomputable def b_15_0 (N : Nat) (ih : TAs sh_15_0 → Option (((TAs [.one (.d (.err 60))]) ⊕ (TAs [])))) : TAs sh_15_0 → Option (((TAs [.one (.d (.err 60))]) ⊕ (TAs []))) := fun (_, y6, y7, y8, (y9, y10, y11)) =>
  (bif (decide (y8 < y7)) then (bif (decide (0 ≤ y8 ∧ y8 < (List.length y6 : Int))) then ((f_31 N ((List.getD y6 (Int.toNat y8) (0, 0, ByteArray.empty)).2.2)).bind fun r12 => (bif (!r12) then (some (.inl (some 1))) else ((f_32 N ((List.getD y6 (Int.toNat y8) (0, 0, ByteArray.empty)).2.1)).bind fun r13 => (bif (!r13) then (some (.inl (some 1))) else (bif (decide ((List.getD y6 (Int.toNat y8) (0, 0, ByteArray.empty)).1 < (-1099511627776))) then (some (.inl (some 1))) else (bif (decide ((List.getD y6 (Int.toNat y8) (0, 0, ByteArray.empty)).1 > 1099511627776)) then (some (.inl (some 1))) else (bif (decide (y8 > 0)) then (bif (decide (0 ≤ (IntKind.i64.wrap (y8 - 1)) ∧ (IntKind.i64.wrap (y8 - 1)) < (List.length y11 : Int))) then (bif (decide ((List.getD y11 (Int.toNat (IntKind.i64.wrap (y8 - 1))) (0, 0, ByteArray.empty)).1 ≥ (List.getD y6 (Int.toNat y8) (0, 0, ByteArray.empty)).1)) then (some (.inl (some 1))) else (ih ((), y6, y7, (IntKind.i64.wrap (y8 + 1)), (y9, y10, y11)))) else none) else (ih ((), y6, y7, (IntKind.i64.wrap (y8 + 1)), (y9, y10, y11)))))))))) else none) else (some (.inr ())))
noncomputable def l_15_0 (N : Nat) : TAs sh_15_0 → Option (((TAs [.one (.d (.err 60))]) ⊕ (TAs []))) := iter (b_15_0 N) N
noncomputable def lp_15_0 (_ : Nat) : Nat → Option LSum := lookL []
noncomputable def L_15_0 (N : Nat) : LSum := loopSum [1, 23, 24, 25] [144] sh_15_0 o_15_0 (l_15_0 N)
theorem b_ok_15_0 (N : Nat) (ih : TAs sh_15_0 → Option (((TAs [.one (.d (.err 60))]) ⊕ (TAs [])))) (p : TAs sh_15_0) : b_15_0 N ih p = exec (X_15 N) Go.Proofs.Tryd.f15.ntmps (lp_15_0 N) cb_15_0 0 (roundK [1, 23, 24, 25] [144] sh_15_0 o_15_0 ih) (stOf [1, 23, 24, 25] [144] sh_15_0 p) := by kernel_rfl
theorem L_ok_15_0 (N : Nat) : SegOk Go.Proofs.Tryd.prog laidL 0 Go.Proofs.Tryd.f15.ntmps nd_15_0 (L_15_0 N) :=
  ne_15_0 ▸ loop_ok (cur := 0) (lp := lp_15_0 N) (x_15 N) (fun n => iter (b_15_0 N) n) (fun _ => rfl) (fun n p => b_ok_15_0 N (iter (b_15_0 N) n) p) (loopsAll (by kernel_rfl) (lookOk_nil)) N
noncomputable def lp_15 (N : Nat) : Nat → Option LSum := lookL [(0, L_15_0 N)]
noncomputable def f_15 (N : Nat) (x1 : ByteArray) (x2 : Int) (x3 : List (Int × Int × ByteArray)) : Option (TAs [.one (.d (.err 60))]) :=
  ((f_31 N x1).bind fun r4 => (bif (!r4) then (some (some 1)) else ((f_32 N x2).bind fun r5 => (bif (!r5) then (some (some 1)) else (bif (decide ((List.length x3 : Int) > 32)) then (some (some 1)) else ((l_15_0 N ((), x3, (List.length x3 : Int), 0, (x1, x2, x3))).bind fun q => (match q with | .inl q14 => (some q14) | .inr _ => (some none))))))))
theorem ok_15 (N : Nat) (x1 : ByteArray) (x2 : Int) (x3 : List (Int × Int × ByteArray)) : f_15 N x1 x2 x3 = exec (X_15 N) Go.Proofs.Tryd.f15.ntmps (lp_15 N) c_15 0 (fnK (X_15 N) Go.Proofs.Tryd.f15.results.toList 0 [.one (.d (.err 60))]) (fnSt 1 0 [.agg [.d (.str), .d (.int .i64), .d (.sl [.int .i64, .int .i64, .str])]] (x1, x2, x3)) := by kernel_rfl
noncomputable def S_15 (N : Nat) : Sum := fnSum 1 0 1 [.agg [.d (.str), .d (.int .i64), .d (.sl [.int .i64, .int .i64, .str])]] [.one (.d (.err 60))] (fun p => f_15 N p.1 p.2.1 p.2.2)
theorem s_15 (N : Nat) : SumOk Go.Proofs.Tryd.prog laidL 15 (S_15 N) :=
  fn_ok (lp := lp_15 N) (x_15 N) Go.Proofs.Tryd.func15 (c := c_15) (by kernel_rfl) (by kernel_rfl) rfl (fun p => ok_15 N p.1 p.2.1 p.2.2) (loopsAll (by kernel_rfl) ((lookOk_cons (L_ok_15_0 N) lookOk_nil)))
noncomputable def X_24 (_ : Nat) : Ctx := ⟨tyT, lookF [(41, cl_41)], eqT, fun _ => false⟩
noncomputable def c_24 : Code := bodyOf Go.Proofs.Tryd.f24
theorem x_24 (N : Nat) : CtxOk Go.Proofs.Tryd.prog laidL (X_24 N) := ⟨tyOk, eqOk, fun _ _ => (fnsOk_cons cl_41_ok fnsOk_nil).get, by kernel_rfl⟩
noncomputable def lp_24 (_ : Nat) : Nat → Option LSum := lookL []
noncomputable def f_24 (_ : Nat) (x1 : List Int) : Option (TAs [.one (.ptr 0 0), .agg [.slt [.int .u8] 5 1, .d (.bool)]]) :=
  ((cloneF [.int .u8] 1 x1).bind fun r2 => (some ((), (r2, false))))
theorem ok_24 (N : Nat) (x1 : List Int) : f_24 N x1 = exec (X_24 N) Go.Proofs.Tryd.f24.ntmps (lp_24 N) c_24 0 (fnK (X_24 N) Go.Proofs.Tryd.f24.results.toList 0 [.one (.ptr 0 0), .agg [.slt [.int .u8] 5 1, .d (.bool)]]) (fnSt 1 0 [.one (.d (.sl [.int .u8]))] x1) := by kernel_rfl
noncomputable def S_24 (N : Nat) : Sum := fnSum 1 0 1 [.one (.d (.sl [.int .u8]))] [.one (.ptr 0 0), .agg [.slt [.int .u8] 5 1, .d (.bool)]] (fun p => f_24 N p)
theorem s_24 (N : Nat) : SumOk Go.Proofs.Tryd.prog laidL 24 (S_24 N) :=
  fn_ok (lp := lp_24 N) (x_24 N) Go.Proofs.Tryd.func24 (c := c_24) (by kernel_rfl) (by kernel_rfl) rfl (fun p => ok_24 N p) (loopsAll (by kernel_rfl) (lookOk_nil))
noncomputable def X_35 (_ : Nat) : Ctx := ⟨tyT, lookF [(41, cl_41)], eqT, fun _ => false⟩
noncomputable def c_35 : Code := bodyOf Go.Proofs.Tryd.f35
theorem x_35 (N : Nat) : CtxOk Go.Proofs.Tryd.prog laidL (X_35 N) := ⟨tyOk, eqOk, fun _ _ => (fnsOk_cons cl_41_ok fnsOk_nil).get, by kernel_rfl⟩
noncomputable def nd_35_0 : Code := loopAt 0 0 c_35
noncomputable def cb_35_0 : Code := unloop nd_35_0
theorem ne_35_0 : nd_35_0 = .loop cb_35_0 := by kernel_rfl
noncomputable def sh_35_0 : List ShA := [.one (.d (.int .u64)), .one (.slt [.int .u8] 5 1), .one (.d (.int .i64)), .one (.d (.int .i64))]
noncomputable def o_35_0 : OutK 0 (TAs [.one (.slt [.int .u8] 5 1)]) := (outOne 0 (.exit 0) [7] [] [.one (.slt [.int .u8] 5 1)])
noncomputable def b_35_0 (_ : Nat) (ih : TAs sh_35_0 → Option (TAs [.one (.slt [.int .u8] 5 1)])) : TAs sh_35_0 → Option (TAs [.one (.slt [.int .u8] 5 1)]) := fun (y5, y6, y7, y8) =>
  (bif (decide (y8 < y7)) then (bif (decide ((IntKind.i64.wrap (8 * y8)) < 0)) then none else (bif (decide ((List.length y6 + List.length ([(IntKind.u8.wrap (y5 / 2 ^ (min (Int.toNat (IntKind.i64.wrap (8 * y8))) IntKind.u64.bits)))] : List Int)) * 1 ≤ 140737488355328)) then (ih (y5, (y6 ++ ([(IntKind.u8.wrap (y5 / 2 ^ (min (Int.toNat (IntKind.i64.wrap (8 * y8))) IntKind.u64.bits)))] : List Int)), y7, (IntKind.i64.wrap (y8 + 1)))) else none)) else (some (y6)))
noncomputable def l_35_0 (N : Nat) : TAs sh_35_0 → Option (TAs [.one (.slt [.int .u8] 5 1)]) := iter (b_35_0 N) N
noncomputable def lp_35_0 (_ : Nat) : Nat → Option LSum := lookL []
noncomputable def L_35_0 (N : Nat) : LSum := loopSum [1, 7, 11, 12] [] sh_35_0 o_35_0 (l_35_0 N)
theorem b_ok_35_0 (N : Nat) (ih : TAs sh_35_0 → Option (TAs [.one (.slt [.int .u8] 5 1)])) (p : TAs sh_35_0) : b_35_0 N ih p = exec (X_35 N) Go.Proofs.Tryd.f35.ntmps (lp_35_0 N) cb_35_0 0 (roundK [1, 7, 11, 12] [] sh_35_0 o_35_0 ih) (stOf [1, 7, 11, 12] [] sh_35_0 p) := by kernel_rfl
theorem L_ok_35_0 (N : Nat) : SegOk Go.Proofs.Tryd.prog laidL 0 Go.Proofs.Tryd.f35.ntmps nd_35_0 (L_35_0 N) :=
  ne_35_0 ▸ loop_ok (cur := 0) (lp := lp_35_0 N) (x_35 N) (fun n => iter (b_35_0 N) n) (fun _ => rfl) (fun n p => b_ok_35_0 N (iter (b_35_0 N) n) p) (loopsAll (by kernel_rfl) (lookOk_nil)) N
noncomputable def lp_35 (N : Nat) : Nat → Option LSum := lookL [(0, L_35_0 N)]
noncomputable def f_35 (N : Nat) (x1 : List Int) (x2 : Int) (x3 : Int) : Option (TAs [.one (.slt [.int .u8] 5 1)]) :=
  ((cloneF [.int .u8] 1 x1).bind fun r4 => ((l_35_0 N (x2, r4, x3, 0)).bind fun q9 => (some q9)))
theorem ok_35 (N : Nat) (x1 : List Int) (x2 : Int) (x3 : Int) : f_35 N x1 x2 x3 = exec (X_35 N) Go.Proofs.Tryd.f35.ntmps (lp_35 N) c_35 0 (fnK (X_35 N) Go.Proofs.Tryd.f35.results.toList 0 [.one (.slt [.int .u8] 5 1)]) (fnSt 3 0 [.one (.d (.sl [.int .u8])), .one (.d (.int .u64)), .one (.d (.int .i64))] (x1, x2, x3)) := by kernel_rfl
noncomputable def S_35 (N : Nat) : Sum := fnSum 3 0 1 [.one (.d (.sl [.int .u8])), .one (.d (.int .u64)), .one (.d (.int .i64))] [.one (.slt [.int .u8] 5 1)] (fun p => f_35 N p.1 p.2.1 p.2.2)
theorem s_35 (N : Nat) : SumOk Go.Proofs.Tryd.prog laidL 35 (S_35 N) :=
  fn_ok (lp := lp_35 N) (x_35 N) Go.Proofs.Tryd.func35 (c := c_35) (by kernel_rfl) (by kernel_rfl) rfl (fun p => ok_35 N p.1 p.2.1 p.2.2) (loopsAll (by kernel_rfl) ((lookOk_cons (L_ok_35_0 N) lookOk_nil)))
noncomputable def X_39 (N : Nat) : Ctx := ⟨tyT, lookF [(36, (S_36 N)), (24, (S_24 N)), (27, (S_27 N))], eqT, fun _ => false⟩
noncomputable def c_39 : Code := bodyOf Go.Proofs.Tryd.f39
theorem x_39 (N : Nat) : CtxOk Go.Proofs.Tryd.prog laidL (X_39 N) := ⟨tyOk, eqOk, fun _ _ => (fnsOk_cons (s_36 N) (fnsOk_cons (s_24 N) (fnsOk_cons (s_27 N) fnsOk_nil))).get, by kernel_rfl⟩
noncomputable def lp_39 (_ : Nat) : Nat → Option LSum := lookL []
noncomputable def f_39 (N : Nat) (x1 : List Int) : Option (TAs [.one (.d (.int .u8)), .one (.d (.int .i64)), .one (.d (.err 60))]) :=
  (bif (decide ((List.length x1 : Int) < 5)) then (some (0, 0, (some 3))) else (bif (decide (0 ≤ (2 : Int) ∧ (2 : Int) ≤ (List.length x1 : Int))) then (bif (decide (0 ≤ (0 : Int) ∧ (0 : Int) ≤ (2 : Int))) then (bif (!((ByteArray.toList (bytesS (List.drop (Int.toNat (0 : Int)) (List.take (Int.toNat (2 : Int)) x1)))) == (ByteArray.toList (⟨#[116, 109]⟩ : ByteArray)))) then (some (0, 0, (some 3))) else (bif (decide (0 ≤ (2 : Int) ∧ (2 : Int) < (List.length x1 : Int))) then ((f_36 N (List.getD x1 (Int.toNat 2) 0)).bind fun r2 => (bif (!r2) then (some (0, 0, (some 3))) else (bif (decide (0 ≤ (5 : Int) ∧ (5 : Int) ≤ (List.length x1 : Int))) then (bif (decide (0 ≤ (3 : Int) ∧ (3 : Int) ≤ (5 : Int))) then ((f_24 N (List.drop (Int.toNat (3 : Int)) (List.take (Int.toNat (5 : Int)) x1))).bind fun r3 => ((f_27 N r3.2.1 r3.2.2).bind fun r4 => (bif (decide ((IntKind.i64.wrap r4.1) > 1024)) then (some (0, 0, (some 3))) else (bif (decide (0 ≤ (2 : Int) ∧ (2 : Int) < (List.length x1 : Int))) then (some ((List.getD x1 (Int.toNat 2) 0), (IntKind.i64.wrap ((IntKind.i64.wrap (5 + (IntKind.i64.wrap r4.1))) + 4)), none)) else none)))) else none) else none))) else none)) else none) else none))
theorem ok_39 (N : Nat) (x1 : List Int) : f_39 N x1 = exec (X_39 N) Go.Proofs.Tryd.f39.ntmps (lp_39 N) c_39 0 (fnK (X_39 N) Go.Proofs.Tryd.f39.results.toList 0 [.one (.d (.int .u8)), .one (.d (.int .i64)), .one (.d (.err 60))]) (fnSt 1 0 [.one (.d (.sl [.int .u8]))] x1) := by kernel_rfl
noncomputable def S_39 (N : Nat) : Sum := fnSum 1 0 3 [.one (.d (.sl [.int .u8]))] [.one (.d (.int .u8)), .one (.d (.int .i64)), .one (.d (.err 60))] (fun p => f_39 N p)
theorem s_39 (N : Nat) : SumOk Go.Proofs.Tryd.prog laidL 39 (S_39 N) :=
  fn_ok (lp := lp_39 N) (x_39 N) Go.Proofs.Tryd.func39 (c := c_39) (by kernel_rfl) (by kernel_rfl) rfl (fun p => ok_39 N p) (loopsAll (by kernel_rfl) (lookOk_nil))
noncomputable def X_43 (N : Nat) : Ctx := ⟨tyT, lookF [(25, (S_25 N)), (54, (S_54 N))], eqT, fun _ => false⟩
noncomputable def c_43 : Code := bodyOf Go.Proofs.Tryd.f43
theorem x_43 (N : Nat) : CtxOk Go.Proofs.Tryd.prog laidL (X_43 N) := ⟨tyOk, eqOk, fun _ _ => (fnsOk_cons (s_25 N) (fnsOk_cons (s_54 N) fnsOk_nil)).get, by kernel_rfl⟩
noncomputable def lp_43 (_ : Nat) : Nat → Option LSum := lookL []
noncomputable def f_43 (N : Nat) (x1 : List Int) (x2 : Bool) : Option (TAs [.one (.d (.str)), .agg [.d (.sl [.int .u8]), .d (.bool)]]) :=
  ((f_25 N x1 x2).bind fun r3 => ((f_54 N (IntKind.i64.wrap r3.1) r3.2.1 r3.2.2).bind fun r4 => (some ((bytesS r4.1), (r4.2.1, r4.2.2)))))
theorem ok_43 (N : Nat) (x1 : List Int) (x2 : Bool) : f_43 N x1 x2 = exec (X_43 N) Go.Proofs.Tryd.f43.ntmps (lp_43 N) c_43 0 (fnK (X_43 N) Go.Proofs.Tryd.f43.results.toList 1 [.one (.d (.str)), .agg [.d (.sl [.int .u8]), .d (.bool)]]) (fnSt 1 1 [.one (.ptr 0 0), .agg [.d (.sl [.int .u8]), .d (.bool)]] ((), (x1, x2))) := by kernel_rfl
noncomputable def S_43 (N : Nat) : Sum := fnSum 1 1 1 [.one (.ptr 0 0), .agg [.d (.sl [.int .u8]), .d (.bool)]] [.one (.d (.str)), .agg [.d (.sl [.int .u8]), .d (.bool)]] (fun p => f_43 N p.2.1 p.2.2)
theorem s_43 (N : Nat) : SumOk Go.Proofs.Tryd.prog laidL 43 (S_43 N) :=
  fn_ok (lp := lp_43 N) (x_43 N) Go.Proofs.Tryd.func43 (c := c_43) (by kernel_rfl) (by kernel_rfl) rfl (fun p => ok_43 N p.2.1 p.2.2) (loopsAll (by kernel_rfl) (lookOk_nil))
noncomputable def X_62 (N : Nat) : Ctx := ⟨tyT, lookF [(67, (S_67 N))], eqT, fun _ => false⟩
noncomputable def c_62 : Code := bodyOf Go.Proofs.Tryd.f62
theorem x_62 (N : Nat) : CtxOk Go.Proofs.Tryd.prog laidL (X_62 N) := ⟨tyOk, eqOk, fun _ _ => (fnsOk_cons (s_67 N) fnsOk_nil).get, by kernel_rfl⟩
noncomputable def nd_62_0 : Code := loopAt 0 0 c_62
noncomputable def cb_62_0 : Code := unloop nd_62_0
theorem ne_62_0 : nd_62_0 = .loop cb_62_0 := by kernel_rfl
noncomputable def sh_62_0 : List ShA := [.one (.d (.int .u32)), .one (.d (.sl [.int .u8])), .one (.d (.int .i64)), .one (.d (.int .i64))]
noncomputable def o_62_0 : OutK 0 (TAs [.one (.d (.int .u32))]) := (outOne 0 (.exit 0) [5] [] [.one (.d (.int .u32))])
noncomputable def b_62_0 (N : Nat) (ih : TAs sh_62_0 → Option (TAs [.one (.d (.int .u32))])) : TAs sh_62_0 → Option (TAs [.one (.d (.int .u32))]) := fun (y3, y4, y5, y6) =>
  (bif (decide (y6 < y5)) then (bif (decide (0 ≤ y6 ∧ y6 < (List.length y4 : Int))) then ((f_67 N y3 (List.getD y4 (Int.toNat y6) 0)).bind fun r7 => (ih (r7, y4, y5, (IntKind.i64.wrap (y6 + 1))))) else none) else (some (y3)))
noncomputable def l_62_0 (N : Nat) : TAs sh_62_0 → Option (TAs [.one (.d (.int .u32))]) := iter (b_62_0 N) N
noncomputable def lp_62_0 (_ : Nat) : Nat → Option LSum := lookL []
noncomputable def L_62_0 (N : Nat) : LSum := loopSum [5, 10, 11, 12] [] sh_62_0 o_62_0 (l_62_0 N)
theorem b_ok_62_0 (N : Nat) (ih : TAs sh_62_0 → Option (TAs [.one (.d (.int .u32))])) (p : TAs sh_62_0) : b_62_0 N ih p = exec (X_62 N) Go.Proofs.Tryd.f62.ntmps (lp_62_0 N) cb_62_0 0 (roundK [5, 10, 11, 12] [] sh_62_0 o_62_0 ih) (stOf [5, 10, 11, 12] [] sh_62_0 p) := by kernel_rfl
theorem L_ok_62_0 (N : Nat) : SegOk Go.Proofs.Tryd.prog laidL 0 Go.Proofs.Tryd.f62.ntmps nd_62_0 (L_62_0 N) :=
  ne_62_0 ▸ loop_ok (cur := 0) (lp := lp_62_0 N) (x_62 N) (fun n => iter (b_62_0 N) n) (fun _ => rfl) (fun n p => b_ok_62_0 N (iter (b_62_0 N) n) p) (loopsAll (by kernel_rfl) (lookOk_nil)) N
noncomputable def lp_62 (N : Nat) : Nat → Option LSum := lookL [(0, L_62_0 N)]
noncomputable def f_62 (N : Nat) (x1 : Int) (x2 : List Int) : Option (TAs [.one (.d (.int .u32))]) :=
  ((l_62_0 N ((ibits .xor .u32 (if IntKind.u32.signed then -1 else IntKind.u32.max) x1), x2, (List.length x2 : Int), 0)).bind fun q8 => (some (ibits .xor .u32 (if IntKind.u32.signed then -1 else IntKind.u32.max) q8)))
theorem ok_62 (N : Nat) (x1 : Int) (x2 : List Int) : f_62 N x1 x2 = exec (X_62 N) Go.Proofs.Tryd.f62.ntmps (lp_62 N) c_62 0 (fnK (X_62 N) Go.Proofs.Tryd.f62.results.toList 0 [.one (.d (.int .u32))]) (fnSt 2 0 [.one (.d (.int .u32)), .one (.d (.sl [.int .u8]))] (x1, x2)) := by kernel_rfl
noncomputable def S_62 (N : Nat) : Sum := fnSum 2 0 1 [.one (.d (.int .u32)), .one (.d (.sl [.int .u8]))] [.one (.d (.int .u32))] (fun p => f_62 N p.1 p.2)
theorem s_62 (N : Nat) : SumOk Go.Proofs.Tryd.prog laidL 62 (S_62 N) :=
  fn_ok (lp := lp_62 N) (x_62 N) Go.Proofs.Tryd.func62 (c := c_62) (by kernel_rfl) (by kernel_rfl) rfl (fun p => ok_62 N p.1 p.2) (loopsAll (by kernel_rfl) ((lookOk_cons (L_ok_62_0 N) lookOk_nil)))
noncomputable def X_6 (N : Nat) : Ctx := ⟨tyT, lookF [(12, (S_12 N)), (13, (S_13 N)), (14, (S_14 N)), (15, (S_15 N))], eqT, fun _ => false⟩
noncomputable def c_6 : Code := bodyOf Go.Proofs.Tryd.f6
theorem x_6 (N : Nat) : CtxOk Go.Proofs.Tryd.prog laidL (X_6 N) := ⟨tyOk, eqOk, fun _ _ => (fnsOk_cons (s_12 N) (fnsOk_cons (s_13 N) (fnsOk_cons (s_14 N) (fnsOk_cons (s_15 N) fnsOk_nil)))).get, by kernel_rfl⟩
noncomputable def nd_6_0 : Code := loopAt 0 0 c_6
noncomputable def cb_6_0 : Code := unloop nd_6_0
theorem ne_6_0 : nd_6_0 = .loop cb_6_0 := by kernel_rfl
noncomputable def sh_6_0 : List ShA := [.agg [.d (.err 60), .d (.err 60), .d (.err 60), .d (.err 60)], .one (.d (.int .i64))]
noncomputable def o_6_0 : OutK 0 (((TAs [.one (.d (.err 60))]) ⊕ (TAs []))) := (outTwo (outOne 0 .ret [2] [] [.one (.d (.err 60))]) (outOne 0 (.exit 0) [] [] []))
noncomputable def b_6_0 (_ : Nat) (ih : TAs sh_6_0 → Option (((TAs [.one (.d (.err 60))]) ⊕ (TAs [])))) : TAs sh_6_0 → Option (((TAs [.one (.d (.err 60))]) ⊕ (TAs []))) := fun ((y15, y16, y17, y18), y19) =>
  (bif (decide (y19 < 4)) then (bif (decide (y19 = (0 : Int))) then (bif (!(Option.isNone y15)) then (some (.inl (some 1))) else (ih ((y15, y16, y17, y18), (IntKind.i64.wrap (y19 + 1))))) else (bif (decide (y19 = (1 : Int))) then (bif (!(Option.isNone y16)) then (some (.inl (some 1))) else (ih ((y15, y16, y17, y18), (IntKind.i64.wrap (y19 + 1))))) else (bif (decide (y19 = (2 : Int))) then (bif (!(Option.isNone y17)) then (some (.inl (some 1))) else (ih ((y15, y16, y17, y18), (IntKind.i64.wrap (y19 + 1))))) else (bif (decide (y19 = (3 : Int))) then (bif (!(Option.isNone y18)) then (some (.inl (some 1))) else (ih ((y15, y16, y17, y18), (IntKind.i64.wrap (y19 + 1))))) else none)))) else (some (.inr ())))
noncomputable def l_6_0 (N : Nat) : TAs sh_6_0 → Option (((TAs [.one (.d (.err 60))]) ⊕ (TAs []))) := iter (b_6_0 N) N
noncomputable def lp_6_0 (_ : Nat) : Nat → Option LSum := lookL []
noncomputable def L_6_0 (N : Nat) : LSum := loopSum [17, 18] [] sh_6_0 o_6_0 (l_6_0 N)
theorem b_ok_6_0 (N : Nat) (ih : TAs sh_6_0 → Option (((TAs [.one (.d (.err 60))]) ⊕ (TAs [])))) (p : TAs sh_6_0) : b_6_0 N ih p = exec (X_6 N) Go.Proofs.Tryd.f6.ntmps (lp_6_0 N) cb_6_0 0 (roundK [17, 18] [] sh_6_0 o_6_0 ih) (stOf [17, 18] [] sh_6_0 p) := by kernel_rfl
theorem L_ok_6_0 (N : Nat) : SegOk Go.Proofs.Tryd.prog laidL 0 Go.Proofs.Tryd.f6.ntmps nd_6_0 (L_6_0 N) :=
  ne_6_0 ▸ loop_ok (cur := 0) (lp := lp_6_0 N) (x_6 N) (fun n => iter (b_6_0 N) n) (fun _ => rfl) (fun n p => b_ok_6_0 N (iter (b_6_0 N) n) p) (loopsAll (by kernel_rfl) (lookOk_nil)) N
noncomputable def lp_6 (N : Nat) : Nat → Option LSum := lookL [(0, L_6_0 N)]
noncomputable def f_6 (N : Nat) (x1 : Int) (x2 : Int) (x3 : Int) (x4 : Int) (x5 : Int) (x6 : Int) (_x7 : Bool) (x8 : ByteArray) (x9 : Int) (x10 : List (Int × Int × ByteArray)) : Option (TAs [.one (.d (.err 60))]) :=
  ((f_12 N x1 x2 x3).bind fun r11 => ((f_13 N x4).bind fun r12 => ((f_14 N x5 x6).bind fun r13 => ((f_15 N x8 x9 x10).bind fun r14 => ((l_6_0 N ((r11, r12, r13, r14), 0)).bind fun q => (match q with | .inl q20 => (some q20) | .inr _ => (some none)))))))
theorem ok_6 (N : Nat) (x1 : Int) (x2 : Int) (x3 : Int) (x4 : Int) (x5 : Int) (x6 : Int) (x7 : Bool) (x8 : ByteArray) (x9 : Int) (x10 : List (Int × Int × ByteArray)) : f_6 N x1 x2 x3 x4 x5 x6 x7 x8 x9 x10 = exec (X_6 N) Go.Proofs.Tryd.f6.ntmps (lp_6 N) c_6 0 (fnK (X_6 N) Go.Proofs.Tryd.f6.results.toList 0 [.one (.d (.err 60))]) (fnSt 1 0 [.agg [.d (.int .i64), .d (.int .i64), .d (.int .i64), .d (.int .i64), .d (.int .i64), .d (.int .i64), .d (.bool), .d (.str), .d (.int .i64), .d (.sl [.int .i64, .int .i64, .str])]] (x1, x2, x3, x4, x5, x6, x7, x8, x9, x10)) := by kernel_rfl
noncomputable def S_6 (N : Nat) : Sum := fnSum 1 0 1 [.agg [.d (.int .i64), .d (.int .i64), .d (.int .i64), .d (.int .i64), .d (.int .i64), .d (.int .i64), .d (.bool), .d (.str), .d (.int .i64), .d (.sl [.int .i64, .int .i64, .str])]] [.one (.d (.err 60))] (fun p => f_6 N p.1 p.2.1 p.2.2.1 p.2.2.2.1 p.2.2.2.2.1 p.2.2.2.2.2.1 p.2.2.2.2.2.2.1 p.2.2.2.2.2.2.2.1 p.2.2.2.2.2.2.2.2.1 p.2.2.2.2.2.2.2.2.2)
theorem s_6 (N : Nat) : SumOk Go.Proofs.Tryd.prog laidL 6 (S_6 N) :=
  fn_ok (lp := lp_6 N) (x_6 N) Go.Proofs.Tryd.func6 (c := c_6) (by kernel_rfl) (by kernel_rfl) rfl (fun p => ok_6 N p.1 p.2.1 p.2.2.1 p.2.2.2.1 p.2.2.2.2.1 p.2.2.2.2.2.1 p.2.2.2.2.2.2.1 p.2.2.2.2.2.2.2.1 p.2.2.2.2.2.2.2.2.1 p.2.2.2.2.2.2.2.2.2) (loopsAll (by kernel_rfl) ((lookOk_cons (L_ok_6_0 N) lookOk_nil)))
noncomputable def X_19 (N : Nat) : Ctx := ⟨tyT, lookF [(35, (S_35 N))], eqT, fun _ => false⟩
noncomputable def c_19 : Code := bodyOf Go.Proofs.Tryd.f19
theorem x_19 (N : Nat) : CtxOk Go.Proofs.Tryd.prog laidL (X_19 N) := ⟨tyOk, eqOk, fun _ _ => (fnsOk_cons (s_35 N) fnsOk_nil).get, by kernel_rfl⟩
noncomputable def lp_19 (_ : Nat) : Nat → Option LSum := lookL []
noncomputable def f_19 (N : Nat) (x1 : List Int) (x2 : Int) : Option (TAs [.one (.slt [.int .u8] 5 1)]) :=
  ((f_35 N x1 (IntKind.u64.wrap x2) 8).bind fun r3 => (some r3))
theorem ok_19 (N : Nat) (x1 : List Int) (x2 : Int) : f_19 N x1 x2 = exec (X_19 N) Go.Proofs.Tryd.f19.ntmps (lp_19 N) c_19 0 (fnK (X_19 N) Go.Proofs.Tryd.f19.results.toList 0 [.one (.slt [.int .u8] 5 1)]) (fnSt 2 0 [.one (.d (.sl [.int .u8])), .one (.d (.int .i64))] (x1, x2)) := by kernel_rfl
noncomputable def S_19 (N : Nat) : Sum := fnSum 2 0 1 [.one (.d (.sl [.int .u8])), .one (.d (.int .i64))] [.one (.slt [.int .u8] 5 1)] (fun p => f_19 N p.1 p.2)
theorem s_19 (N : Nat) : SumOk Go.Proofs.Tryd.prog laidL 19 (S_19 N) :=
  fn_ok (lp := lp_19 N) (x_19 N) Go.Proofs.Tryd.func19 (c := c_19) (by kernel_rfl) (by kernel_rfl) rfl (fun p => ok_19 N p.1 p.2) (loopsAll (by kernel_rfl) (lookOk_nil))
noncomputable def X_20 (N : Nat) : Ctx := ⟨tyT, lookF [(35, (S_35 N))], eqT, fun _ => false⟩
noncomputable def c_20 : Code := bodyOf Go.Proofs.Tryd.f20
theorem x_20 (N : Nat) : CtxOk Go.Proofs.Tryd.prog laidL (X_20 N) := ⟨tyOk, eqOk, fun _ _ => (fnsOk_cons (s_35 N) fnsOk_nil).get, by kernel_rfl⟩
noncomputable def lp_20 (_ : Nat) : Nat → Option LSum := lookL []
noncomputable def f_20 (N : Nat) (x1 : List Int) (x2 : Int) : Option (TAs [.one (.slt [.int .u8] 5 1)]) :=
  ((f_35 N x1 (IntKind.u64.wrap x2) 2).bind fun r3 => (some r3))
theorem ok_20 (N : Nat) (x1 : List Int) (x2 : Int) : f_20 N x1 x2 = exec (X_20 N) Go.Proofs.Tryd.f20.ntmps (lp_20 N) c_20 0 (fnK (X_20 N) Go.Proofs.Tryd.f20.results.toList 0 [.one (.slt [.int .u8] 5 1)]) (fnSt 2 0 [.one (.d (.sl [.int .u8])), .one (.d (.int .u16))] (x1, x2)) := by kernel_rfl
noncomputable def S_20 (N : Nat) : Sum := fnSum 2 0 1 [.one (.d (.sl [.int .u8])), .one (.d (.int .u16))] [.one (.slt [.int .u8] 5 1)] (fun p => f_20 N p.1 p.2)
theorem s_20 (N : Nat) : SumOk Go.Proofs.Tryd.prog laidL 20 (S_20 N) :=
  fn_ok (lp := lp_20 N) (x_20 N) Go.Proofs.Tryd.func20 (c := c_20) (by kernel_rfl) (by kernel_rfl) rfl (fun p => ok_20 N p.1 p.2) (loopsAll (by kernel_rfl) (lookOk_nil))
noncomputable def X_34 (N : Nat) : Ctx := ⟨tyT, lookF [(35, (S_35 N))], eqT, fun _ => false⟩
noncomputable def c_34 : Code := bodyOf Go.Proofs.Tryd.f34
theorem x_34 (N : Nat) : CtxOk Go.Proofs.Tryd.prog laidL (X_34 N) := ⟨tyOk, eqOk, fun _ _ => (fnsOk_cons (s_35 N) fnsOk_nil).get, by kernel_rfl⟩
noncomputable def lp_34 (_ : Nat) : Nat → Option LSum := lookL []
noncomputable def f_34 (N : Nat) (x1 : List Int) (x2 : ByteArray) : Option (TAs [.one (.slt [.int .u8] 5 1), .one (.d (.err 60))]) :=
  (bif (decide ((ByteArray.size x2 : Int) > 255)) then (some (([] : List Int), (some 5))) else ((f_35 N x1 (IntKind.u64.wrap (ByteArray.size x2 : Int)) 1).bind fun r3 => (bif (decide ((List.length r3 + List.length (bytesL x2)) * 1 ≤ 140737488355328)) then (some ((r3 ++ (bytesL x2)), none)) else none)))
theorem ok_34 (N : Nat) (x1 : List Int) (x2 : ByteArray) : f_34 N x1 x2 = exec (X_34 N) Go.Proofs.Tryd.f34.ntmps (lp_34 N) c_34 0 (fnK (X_34 N) Go.Proofs.Tryd.f34.results.toList 0 [.one (.slt [.int .u8] 5 1), .one (.d (.err 60))]) (fnSt 2 0 [.one (.d (.sl [.int .u8])), .one (.d (.str))] (x1, x2)) := by kernel_rfl
noncomputable def S_34 (N : Nat) : Sum := fnSum 2 0 2 [.one (.d (.sl [.int .u8])), .one (.d (.str))] [.one (.slt [.int .u8] 5 1), .one (.d (.err 60))] (fun p => f_34 N p.1 p.2)
theorem s_34 (N : Nat) : SumOk Go.Proofs.Tryd.prog laidL 34 (S_34 N) :=
  fn_ok (lp := lp_34 N) (x_34 N) Go.Proofs.Tryd.func34 (c := c_34) (by kernel_rfl) (by kernel_rfl) rfl (fun p => ok_34 N p.1 p.2) (loopsAll (by kernel_rfl) (lookOk_nil))
noncomputable def X_50 (N : Nat) : Ctx := ⟨tyT, lookF [(62, (S_62 N))], eqT, fun _ => false⟩
noncomputable def c_50 : Code := bodyOf Go.Proofs.Tryd.f50
theorem x_50 (N : Nat) : CtxOk Go.Proofs.Tryd.prog laidL (X_50 N) := ⟨tyOk, eqOk, fun _ _ => (fnsOk_cons (s_62 N) fnsOk_nil).get, by kernel_rfl⟩
noncomputable def lp_50 (_ : Nat) : Nat → Option LSum := lookL []
noncomputable def f_50 (N : Nat) (x1 : List Int) : Option (TAs [.one (.d (.int .u32))]) :=
  ((f_62 N 0 x1).bind fun r2 => (some r2))
theorem ok_50 (N : Nat) (x1 : List Int) : f_50 N x1 = exec (X_50 N) Go.Proofs.Tryd.f50.ntmps (lp_50 N) c_50 0 (fnK (X_50 N) Go.Proofs.Tryd.f50.results.toList 0 [.one (.d (.int .u32))]) (fnSt 1 0 [.one (.d (.sl [.int .u8]))] x1) := by kernel_rfl
noncomputable def S_50 (N : Nat) : Sum := fnSum 1 0 1 [.one (.d (.sl [.int .u8]))] [.one (.d (.int .u32))] (fun p => f_50 N p)
theorem s_50 (N : Nat) : SumOk Go.Proofs.Tryd.prog laidL 50 (S_50 N) :=
  fn_ok (lp := lp_50 N) (x_50 N) Go.Proofs.Tryd.func50 (c := c_50) (by kernel_rfl) (by kernel_rfl) rfl (fun p => ok_50 N p) (loopsAll (by kernel_rfl) (lookOk_nil))
noncomputable def X_37 (N : Nat) : Ctx := ⟨tyT, lookF [(50, (S_50 N)), (38, (S_38 N))], eqT, fun _ => false⟩
noncomputable def c_37 : Code := bodyOf Go.Proofs.Tryd.f37
theorem x_37 (N : Nat) : CtxOk Go.Proofs.Tryd.prog laidL (X_37 N) := ⟨tyOk, eqOk, fun _ _ => (fnsOk_cons (s_50 N) (fnsOk_cons (s_38 N) fnsOk_nil)).get, by kernel_rfl⟩
noncomputable def lp_37 (_ : Nat) : Nat → Option LSum := lookL []
noncomputable def f_37 (N : Nat) (x1 : List Int) : Option (TAs [.one (.slv [.int .u8] 5 1)]) :=
  ((f_50 N x1).bind fun r2 => ((f_38 N ([x1, ([(IntKind.u8.wrap r2), (IntKind.u8.wrap (r2 / 2 ^ (min (Int.toNat 8) IntKind.u32.bits))), (IntKind.u8.wrap (r2 / 2 ^ (min (Int.toNat 16) IntKind.u32.bits))), (IntKind.u8.wrap (r2 / 2 ^ (min (Int.toNat 24) IntKind.u32.bits)))] : List Int)] : List ((List Int)))).bind fun r3 => (some r3)))
theorem ok_37 (N : Nat) (x1 : List Int) : f_37 N x1 = exec (X_37 N) Go.Proofs.Tryd.f37.ntmps (lp_37 N) c_37 0 (fnK (X_37 N) Go.Proofs.Tryd.f37.results.toList 0 [.one (.slv [.int .u8] 5 1)]) (fnSt 1 0 [.one (.d (.sl [.int .u8]))] x1) := by kernel_rfl
noncomputable def S_37 (N : Nat) : Sum := fnSum 1 0 1 [.one (.d (.sl [.int .u8]))] [.one (.slv [.int .u8] 5 1)] (fun p => f_37 N p)
theorem s_37 (N : Nat) : SumOk Go.Proofs.Tryd.prog laidL 37 (S_37 N) :=
  fn_ok (lp := lp_37 N) (x_37 N) Go.Proofs.Tryd.func37 (c := c_37) (by kernel_rfl) (by kernel_rfl) rfl (fun p => ok_37 N p) (loopsAll (by kernel_rfl) (lookOk_nil))
noncomputable def X_40 (N : Nat) : Ctx := ⟨tyT, lookF [(37, (S_37 N)), (52, (S_52 N)), (41, cl_41)], eqT, fun _ => false⟩
noncomputable def c_40 : Code := bodyOf Go.Proofs.Tryd.f40
theorem x_40 (N : Nat) : CtxOk Go.Proofs.Tryd.prog laidL (X_40 N) := ⟨tyOk, eqOk, fun _ _ => (fnsOk_cons (s_37 N) (fnsOk_cons (s_52 N) (fnsOk_cons cl_41_ok fnsOk_nil))).get, by kernel_rfl⟩
noncomputable def lp_40 (_ : Nat) : Nat → Option LSum := lookL []
noncomputable def f_40 (N : Nat) (x1 : List Int) : Option (TAs [.one (.slt [.int .u8] 5 1), .one (.d (.err 60))]) :=
  (bif (decide ((IntKind.i64.wrap ((List.length x1 : Int) - 4)) < 0)) then (some (([] : List Int), (some 4))) else (bif (decide (0 ≤ (IntKind.i64.wrap ((List.length x1 : Int) - 4)) ∧ (IntKind.i64.wrap ((List.length x1 : Int) - 4)) ≤ (List.length x1 : Int))) then (bif (decide (0 ≤ (0 : Int) ∧ (0 : Int) ≤ (IntKind.i64.wrap ((List.length x1 : Int) - 4)))) then ((f_37 N (List.drop (Int.toNat (0 : Int)) (List.take (Int.toNat (IntKind.i64.wrap ((List.length x1 : Int) - 4))) x1))).bind fun r2 => ((f_52 N r2 x1).bind fun r3 => (bif (!r3) then (some (([] : List Int), (some 4))) else (bif (decide (0 ≤ (IntKind.i64.wrap ((List.length x1 : Int) - 4)) ∧ (IntKind.i64.wrap ((List.length x1 : Int) - 4)) ≤ (List.length x1 : Int))) then (bif (decide (0 ≤ (0 : Int) ∧ (0 : Int) ≤ (IntKind.i64.wrap ((List.length x1 : Int) - 4)))) then ((cloneF [.int .u8] 1 (List.drop (Int.toNat (0 : Int)) (List.take (Int.toNat (IntKind.i64.wrap ((List.length x1 : Int) - 4))) x1))).bind fun r4 => (some (r4, none))) else none) else none)))) else none) else none))
theorem ok_40 (N : Nat) (x1 : List Int) : f_40 N x1 = exec (X_40 N) Go.Proofs.Tryd.f40.ntmps (lp_40 N) c_40 0 (fnK (X_40 N) Go.Proofs.Tryd.f40.results.toList 0 [.one (.slt [.int .u8] 5 1), .one (.d (.err 60))]) (fnSt 1 0 [.one (.d (.sl [.int .u8]))] x1) := by kernel_rfl
noncomputable def S_40 (N : Nat) : Sum := fnSum 1 0 2 [.one (.d (.sl [.int .u8]))] [.one (.slt [.int .u8] 5 1), .one (.d (.err 60))] (fun p => f_40 N p)
theorem s_40 (N : Nat) : SumOk Go.Proofs.Tryd.prog laidL 40 (S_40 N) :=
  fn_ok (lp := lp_40 N) (x_40 N) Go.Proofs.Tryd.func40 (c := c_40) (by kernel_rfl) (by kernel_rfl) rfl (fun p => ok_40 N p) (loopsAll (by kernel_rfl) (lookOk_nil))
noncomputable def X_22 (N : Nat) : Ctx := ⟨tyT, lookF [(36, (S_36 N)), (20, (S_20 N)), (38, (S_38 N)), (37, (S_37 N))], eqT, fun _ => false⟩
noncomputable def c_22 : Code := bodyOf Go.Proofs.Tryd.f22
theorem x_22 (N : Nat) : CtxOk Go.Proofs.Tryd.prog laidL (X_22 N) := ⟨tyOk, eqOk, fun _ _ => (fnsOk_cons (s_36 N) (fnsOk_cons (s_20 N) (fnsOk_cons (s_38 N) (fnsOk_cons (s_37 N) fnsOk_nil)))).get, by kernel_rfl⟩
noncomputable def lp_22 (_ : Nat) : Nat → Option LSum := lookL []
noncomputable def f_22 (N : Nat) (x1 : Int) (x2 : List Int) : Option (TAs [.one (.slv [.int .u8] 5 1), .one (.d (.err 60))]) :=
  ((f_36 N x1).bind fun r3 => (bif (!r3) then (some (([] : List Int), (some 1))) else (bif (decide ((List.length x2 : Int) > 1024)) then (some (([] : List Int), (some 5))) else (bif (decide ((List.length ([116, 109] : List Int) + List.length ([x1] : List Int)) * 1 ≤ 140737488355328)) then ((f_20 N (([116, 109] : List Int) ++ ([x1] : List Int)) (IntKind.u16.wrap (List.length x2 : Int))).bind fun r4 => ((f_38 N ([r4, x2] : List ((List Int)))).bind fun r5 => ((f_37 N r5).bind fun r6 => (some (r6, none))))) else none))))
theorem ok_22 (N : Nat) (x1 : Int) (x2 : List Int) : f_22 N x1 x2 = exec (X_22 N) Go.Proofs.Tryd.f22.ntmps (lp_22 N) c_22 0 (fnK (X_22 N) Go.Proofs.Tryd.f22.results.toList 0 [.one (.slv [.int .u8] 5 1), .one (.d (.err 60))]) (fnSt 2 0 [.one (.d (.int .u8)), .one (.d (.sl [.int .u8]))] (x1, x2)) := by kernel_rfl
noncomputable def S_22 (N : Nat) : Sum := fnSum 2 0 2 [.one (.d (.int .u8)), .one (.d (.sl [.int .u8]))] [.one (.slv [.int .u8] 5 1), .one (.d (.err 60))] (fun p => f_22 N p.1 p.2)
theorem s_22 (N : Nat) : SumOk Go.Proofs.Tryd.prog laidL 22 (S_22 N) :=
  fn_ok (lp := lp_22 N) (x_22 N) Go.Proofs.Tryd.func22 (c := c_22) (by kernel_rfl) (by kernel_rfl) rfl (fun p => ok_22 N p.1 p.2) (loopsAll (by kernel_rfl) (lookOk_nil))
noncomputable def X_23 (N : Nat) : Ctx := ⟨tyT, lookF [(36, (S_36 N)), (39, (S_39 N)), (40, (S_40 N))], eqT, fun _ => false⟩
noncomputable def c_23 : Code := bodyOf Go.Proofs.Tryd.f23
theorem x_23 (N : Nat) : CtxOk Go.Proofs.Tryd.prog laidL (X_23 N) := ⟨tyOk, eqOk, fun _ _ => (fnsOk_cons (s_36 N) (fnsOk_cons (s_39 N) (fnsOk_cons (s_40 N) fnsOk_nil))).get, by kernel_rfl⟩
noncomputable def lp_23 (_ : Nat) : Nat → Option LSum := lookL []
noncomputable def f_23 (N : Nat) (x1 : Int) (x2 : List Int) : Option (TAs [.one (.d (.sl [.int .u8])), .one (.d (.err 60))]) :=
  ((f_36 N x1).bind fun r3 => (bif (!r3) then (some (([] : List Int), (some 1))) else ((f_39 N x2).bind fun r4 => (bif (!(Option.isNone r4.2.2)) then (some (([] : List Int), r4.2.2)) else (bif (r4.1 != x1) then (some (([] : List Int), (some 3))) else (bif (r4.2.1 != (List.length x2 : Int)) then (some (([] : List Int), (some 3))) else ((f_40 N x2).bind fun r5 => (bif (!(Option.isNone r5.2)) then (some (([] : List Int), r5.2)) else (bif (decide (0 ≤ (List.length r5.1 : Int) ∧ (List.length r5.1 : Int) ≤ (List.length r5.1 : Int))) then (bif (decide (0 ≤ (5 : Int) ∧ (5 : Int) ≤ (List.length r5.1 : Int))) then (some ((List.drop (Int.toNat (5 : Int)) (List.take (Int.toNat (List.length r5.1 : Int)) r5.1)), none)) else none) else none)))))))))
theorem ok_23 (N : Nat) (x1 : Int) (x2 : List Int) : f_23 N x1 x2 = exec (X_23 N) Go.Proofs.Tryd.f23.ntmps (lp_23 N) c_23 0 (fnK (X_23 N) Go.Proofs.Tryd.f23.results.toList 0 [.one (.d (.sl [.int .u8])), .one (.d (.err 60))]) (fnSt 2 0 [.one (.d (.int .u8)), .one (.d (.sl [.int .u8]))] (x1, x2)) := by kernel_rfl
noncomputable def S_23 (N : Nat) : Sum := fnSum 2 0 2 [.one (.d (.int .u8)), .one (.d (.sl [.int .u8]))] [.one (.d (.sl [.int .u8])), .one (.d (.err 60))] (fun p => f_23 N p.1 p.2)
theorem s_23 (N : Nat) : SumOk Go.Proofs.Tryd.prog laidL 23 (S_23 N) :=
  fn_ok (lp := lp_23 N) (x_23 N) Go.Proofs.Tryd.func23 (c := c_23) (by kernel_rfl) (by kernel_rfl) rfl (fun p => ok_23 N p.1 p.2) (loopsAll (by kernel_rfl) (lookOk_nil))
noncomputable def X_29 (N : Nat) : Ctx := ⟨tyT, lookF [(23, (S_23 N)), (24, (S_24 N)), (43, (S_43 N)), (26, (S_26 N)), (25, (S_25 N)), (44, (S_44 N)), (15, (S_15 N))], eqT, fun _ => false⟩
noncomputable def c_29 : Code := bodyOf Go.Proofs.Tryd.f29
theorem x_29 (N : Nat) : CtxOk Go.Proofs.Tryd.prog laidL (X_29 N) := ⟨tyOk, eqOk, fun _ _ => (fnsOk_cons (s_23 N) (fnsOk_cons (s_24 N) (fnsOk_cons (s_43 N) (fnsOk_cons (s_26 N) (fnsOk_cons (s_25 N) (fnsOk_cons (s_44 N) (fnsOk_cons (s_15 N) fnsOk_nil))))))).get, by kernel_rfl⟩
noncomputable def nd_29_0 : Code := loopAt 0 0 c_29
noncomputable def cb_29_0 : Code := unloop nd_29_0
theorem ne_29_0 : nd_29_0 = .loop cb_29_0 := by kernel_rfl
noncomputable def sh_29_0 : List ShA := [.one (.ptr 160 0), .one (.ptr 416 0), .one (.ptr 240 0), .one (.d (.int .u8)), .one (.d (.int .u8)), .agg [.d (.str), .d (.int .i64), .slt [.int .i64, .int .i64, .str] 79 3], .agg [.d (.str), .d (.int .i64), .slv [.int .i64, .int .i64, .str] 79 3], .agg [.d (.sl [.int .u8]), .d (.bool)]]
noncomputable def o_29_0 : OutK 0 (TAs [.one (.ptr 160 0), .one (.ptr 416 0), .one (.ptr 240 0), .agg [.d (.str), .d (.int .i64), .slt [.int .i64, .int .i64, .str] 79 3], .agg [.d (.str), .d (.int .i64), .slv [.int .i64, .int .i64, .str] 79 3], .agg [.d (.sl [.int .u8]), .d (.bool)]]) := (outOne 0 (.exit 0) [2, 6, 7] [160, 240, 416] [.one (.ptr 160 0), .one (.ptr 416 0), .one (.ptr 240 0), .agg [.d (.str), .d (.int .i64), .slt [.int .i64, .int .i64, .str] 79 3], .agg [.d (.str), .d (.int .i64), .slv [.int .i64, .int .i64, .str] 79 3], .agg [.d (.sl [.int .u8]), .d (.bool)]])
noncomputable def b_29_0 (N : Nat) (ih : TAs sh_29_0 → Option (TAs [.one (.ptr 160 0), .one (.ptr 416 0), .one (.ptr 240 0), .agg [.d (.str), .d (.int .i64), .slt [.int .i64, .int .i64, .str] 79 3], .agg [.d (.str), .d (.int .i64), .slv [.int .i64, .int .i64, .str] 79 3], .agg [.d (.sl [.int .u8]), .d (.bool)]])) : TAs sh_29_0 → Option (TAs [.one (.ptr 160 0), .one (.ptr 416 0), .one (.ptr 240 0), .agg [.d (.str), .d (.int .i64), .slt [.int .i64, .int .i64, .str] 79 3], .agg [.d (.str), .d (.int .i64), .slv [.int .i64, .int .i64, .str] 79 3], .agg [.d (.sl [.int .u8]), .d (.bool)]]) := fun (_, _, _, y7, y8, (y9, y10, y11), (y12, y13, y14), (y15, y16)) =>
  (bif (decide (y8 < y7)) then ((f_26 N y15 y16).bind fun r17 => ((f_26 N r17.2.1 r17.2.2).bind fun r18 => ((f_43 N r18.2.1 r18.2.2).bind fun r19 => (bif (decide ((List.length y14 + List.length ([(r17.1, r18.1, r19.1)] : List (Int × Int × ByteArray))) * 32 ≤ 140737488355328)) then (ih ((), (), (), y7, (IntKind.u8.wrap (y8 + 1)), (y9, y10, y11), (y12, y13, (y14 ++ ([(r17.1, r18.1, r19.1)] : List (Int × Int × ByteArray)))), (r19.2.1, r19.2.2))) else none)))) else (some (((), (), (), (y9, y10, y11), (y12, y13, y14), (y15, y16)))))
noncomputable def l_29_0 (N : Nat) : TAs sh_29_0 → Option (TAs [.one (.ptr 160 0), .one (.ptr 416 0), .one (.ptr 240 0), .agg [.d (.str), .d (.int .i64), .slt [.int .i64, .int .i64, .str] 79 3], .agg [.d (.str), .d (.int .i64), .slv [.int .i64, .int .i64, .str] 79 3], .agg [.d (.sl [.int .u8]), .d (.bool)]]) := iter (b_29_0 N) N
noncomputable def lp_29_0 (_ : Nat) : Nat → Option LSum := lookL []
noncomputable def L_29_0 (N : Nat) : LSum := loopSum [2, 6, 7, 25, 26] [160, 240, 416] sh_29_0 o_29_0 (l_29_0 N)
theorem b_ok_29_0 (N : Nat) (ih : TAs sh_29_0 → Option (TAs [.one (.ptr 160 0), .one (.ptr 416 0), .one (.ptr 240 0), .agg [.d (.str), .d (.int .i64), .slt [.int .i64, .int .i64, .str] 79 3], .agg [.d (.str), .d (.int .i64), .slv [.int .i64, .int .i64, .str] 79 3], .agg [.d (.sl [.int .u8]), .d (.bool)]])) (p : TAs sh_29_0) : b_29_0 N ih p = exec (X_29 N) Go.Proofs.Tryd.f29.ntmps (lp_29_0 N) cb_29_0 0 (roundK [2, 6, 7, 25, 26] [160, 240, 416] sh_29_0 o_29_0 ih) (stOf [2, 6, 7, 25, 26] [160, 240, 416] sh_29_0 p) := by kernel_rfl
theorem L_ok_29_0 (N : Nat) : SegOk Go.Proofs.Tryd.prog laidL 0 Go.Proofs.Tryd.f29.ntmps nd_29_0 (L_29_0 N) :=
  ne_29_0 ▸ loop_ok (cur := 0) (lp := lp_29_0 N) (x_29 N) (fun n => iter (b_29_0 N) n) (fun _ => rfl) (fun n p => b_ok_29_0 N (iter (b_29_0 N) n) p) (loopsAll (by kernel_rfl) (lookOk_nil)) N
noncomputable def lp_29 (N : Nat) : Nat → Option LSum := lookL [(0, L_29_0 N)]
noncomputable def f_29 (N : Nat) (x1 : List Int) : Option (TAs [.agg [.d (.str), .d (.int .i64), .slv [.int .i64, .int .i64, .str] 79 3], .one (.d (.err 60))]) :=
  ((f_23 N 6 x1).bind fun r2 => (bif (!(Option.isNone r2.2)) then (some ((ByteArray.empty, 0, ([] : List (Int × Int × ByteArray))), r2.2)) else ((f_24 N r2.1).bind fun r3 => ((f_43 N r3.2.1 r3.2.2).bind fun r4 => ((f_26 N r4.2.1 r4.2.2).bind fun r5 => ((f_25 N r5.2.1 r5.2.2).bind fun r6 => ((l_29_0 N ((), (), (), r6.1, 0, (ByteArray.empty, 0, ([] : List (Int × Int × ByteArray))), (r4.1, r5.1, ([] : List (Int × Int × ByteArray))), (r6.2.1, r6.2.2))).bind fun q20 => ((f_44 N q20.2.2.2.2.2.1 q20.2.2.2.2.2.2).bind fun r21 => (bif (!(Option.isNone r21.1)) then (some ((ByteArray.empty, 0, ([] : List (Int × Int × ByteArray))), (some 3))) else ((f_15 N q20.2.2.2.2.1.1 q20.2.2.2.2.1.2.1 q20.2.2.2.2.1.2.2).bind fun r22 => (bif (!(Option.isNone r22)) then (some ((ByteArray.empty, 0, ([] : List (Int × Int × ByteArray))), (some 3))) else (some ((q20.2.2.2.2.1.1, q20.2.2.2.2.1.2.1, q20.2.2.2.2.1.2.2), none)))))))))))))
theorem ok_29 (N : Nat) (x1 : List Int) : f_29 N x1 = exec (X_29 N) Go.Proofs.Tryd.f29.ntmps (lp_29 N) c_29 0 (fnK (X_29 N) Go.Proofs.Tryd.f29.results.toList 0 [.agg [.d (.str), .d (.int .i64), .slv [.int .i64, .int .i64, .str] 79 3], .one (.d (.err 60))]) (fnSt 1 0 [.one (.d (.sl [.int .u8]))] x1) := by kernel_rfl
noncomputable def S_29 (N : Nat) : Sum := fnSum 1 0 2 [.one (.d (.sl [.int .u8]))] [.agg [.d (.str), .d (.int .i64), .slv [.int .i64, .int .i64, .str] 79 3], .one (.d (.err 60))] (fun p => f_29 N p)
theorem s_29 (N : Nat) : SumOk Go.Proofs.Tryd.prog laidL 29 (S_29 N) :=
  fn_ok (lp := lp_29 N) (x_29 N) Go.Proofs.Tryd.func29 (c := c_29) (by kernel_rfl) (by kernel_rfl) rfl (fun p => ok_29 N p) (loopsAll (by kernel_rfl) ((lookOk_cons (L_ok_29_0 N) lookOk_nil)))
noncomputable def X_9 (N : Nat) : Ctx := ⟨tyT, lookF [(23, (S_23 N)), (24, (S_24 N)), (25, (S_25 N)), (26, (S_26 N)), (27, (S_27 N)), (28, (S_28 N)), (29, (S_29 N)), (6, (S_6 N))], eqT, fun _ => false⟩
noncomputable def c_9 : Code := bodyOf Go.Proofs.Tryd.f9
theorem x_9 (N : Nat) : CtxOk Go.Proofs.Tryd.prog laidL (X_9 N) := ⟨tyOk, eqOk, fun _ _ => (fnsOk_cons (s_23 N) (fnsOk_cons (s_24 N) (fnsOk_cons (s_25 N) (fnsOk_cons (s_26 N) (fnsOk_cons (s_27 N) (fnsOk_cons (s_28 N) (fnsOk_cons (s_29 N) (fnsOk_cons (s_6 N) fnsOk_nil)))))))).get, by kernel_rfl⟩
noncomputable def lp_9 (_ : Nat) : Nat → Option LSum := lookL []
noncomputable def f_9 (N : Nat) (x1 : List Int) : Option (TAs [.agg [.d (.int .i64), .d (.int .i64), .d (.int .i64), .d (.int .i64), .d (.int .i64), .d (.int .i64), .d (.bool), .d (.str), .d (.int .i64), .slv [.int .i64, .int .i64, .str] 79 3], .one (.d (.err 60))]) :=
  ((f_23 N 3 x1).bind fun r2 => (bif (!(Option.isNone r2.2)) then (some ((0, 0, 0, 0, 0, 0, false, ByteArray.empty, 0, ([] : List (Int × Int × ByteArray))), r2.2)) else ((f_24 N r2.1).bind fun r3 => ((f_25 N r3.2.1 r3.2.2).bind fun r4 => ((f_26 N r4.2.1 r4.2.2).bind fun r5 => ((f_26 N r5.2.1 r5.2.2).bind fun r6 => ((f_26 N r6.2.1 r6.2.2).bind fun r7 => ((f_26 N r7.2.1 r7.2.2).bind fun r8 => ((f_26 N r8.2.1 r8.2.2).bind fun r9 => ((f_25 N r9.2.1 r9.2.2).bind fun r10 => ((f_27 N r10.2.1 r10.2.2).bind fun r11 => (bif (decide (r10.1 > 1)) then (some ((0, 0, 0, 0, 0, 0, false, ByteArray.empty, 0, ([] : List (Int × Int × ByteArray))), (some 3))) else ((f_28 N r11.2.1 r11.2.2).bind fun r12 => (bif (r12.1 != (IntKind.i64.wrap r11.1)) then (some ((0, 0, 0, 0, 0, 0, false, ByteArray.empty, 0, ([] : List (Int × Int × ByteArray))), (some 3))) else (bif ((IntKind.i64.wrap r11.1) == 0) then (some ((0, 0, 0, 0, 0, 0, false, ByteArray.empty, 0, ([] : List (Int × Int × ByteArray))), (some 3))) else (bif (decide (0 ≤ (List.length r2.1 : Int) ∧ (List.length r2.1 : Int) ≤ (List.length r2.1 : Int))) then (bif (decide (0 ≤ (IntKind.i64.wrap ((List.length r2.1 : Int) - (IntKind.i64.wrap r11.1))) ∧ (IntKind.i64.wrap ((List.length r2.1 : Int) - (IntKind.i64.wrap r11.1))) ≤ (List.length r2.1 : Int))) then ((f_29 N (List.drop (Int.toNat (IntKind.i64.wrap ((List.length r2.1 : Int) - (IntKind.i64.wrap r11.1)))) (List.take (Int.toNat (List.length r2.1 : Int)) r2.1))).bind fun r13 => (bif (!(Option.isNone r13.2)) then (some ((0, 0, 0, 0, 0, 0, false, ByteArray.empty, 0, ([] : List (Int × Int × ByteArray))), (some 3))) else ((f_6 N (IntKind.i64.wrap r4.1) r5.1 r6.1 r7.1 r8.1 r9.1 (r10.1 == 1) r13.1.1 r13.1.2.1 r13.1.2.2).bind fun r14 => (bif (!(Option.isNone r14)) then (some ((0, 0, 0, 0, 0, 0, false, ByteArray.empty, 0, ([] : List (Int × Int × ByteArray))), (some 3))) else (some (((IntKind.i64.wrap r4.1), r5.1, r6.1, r7.1, r8.1, r9.1, (r10.1 == 1), r13.1.1, r13.1.2.1, r13.1.2.2), none)))))) else none) else none))))))))))))))))
theorem ok_9 (N : Nat) (x1 : List Int) : f_9 N x1 = exec (X_9 N) Go.Proofs.Tryd.f9.ntmps (lp_9 N) c_9 0 (fnK (X_9 N) Go.Proofs.Tryd.f9.results.toList 0 [.agg [.d (.int .i64), .d (.int .i64), .d (.int .i64), .d (.int .i64), .d (.int .i64), .d (.int .i64), .d (.bool), .d (.str), .d (.int .i64), .slv [.int .i64, .int .i64, .str] 79 3], .one (.d (.err 60))]) (fnSt 1 0 [.one (.d (.sl [.int .u8]))] x1) := by kernel_rfl
noncomputable def S_9 (N : Nat) : Sum := fnSum 1 0 2 [.one (.d (.sl [.int .u8]))] [.agg [.d (.int .i64), .d (.int .i64), .d (.int .i64), .d (.int .i64), .d (.int .i64), .d (.int .i64), .d (.bool), .d (.str), .d (.int .i64), .slv [.int .i64, .int .i64, .str] 79 3], .one (.d (.err 60))] (fun p => f_9 N p)
theorem s_9 (N : Nat) : SumOk Go.Proofs.Tryd.prog laidL 9 (S_9 N) :=
  fn_ok (lp := lp_9 N) (x_9 N) Go.Proofs.Tryd.func9 (c := c_9) (by kernel_rfl) (by kernel_rfl) rfl (fun p => ok_9 N p) (loopsAll (by kernel_rfl) (lookOk_nil))
noncomputable def X_18 (N : Nat) : Ctx := ⟨tyT, lookF [(15, (S_15 N)), (34, (S_34 N)), (19, (S_19 N)), (22, (S_22 N))], eqT, fun _ => false⟩
noncomputable def c_18 : Code := bodyOf Go.Proofs.Tryd.f18
theorem x_18 (N : Nat) : CtxOk Go.Proofs.Tryd.prog laidL (X_18 N) := ⟨tyOk, eqOk, fun _ _ => (fnsOk_cons (s_15 N) (fnsOk_cons (s_34 N) (fnsOk_cons (s_19 N) (fnsOk_cons (s_22 N) fnsOk_nil)))).get, by kernel_rfl⟩
noncomputable def nd_18_0 : Code := loopAt 0 0 c_18
noncomputable def cb_18_0 : Code := unloop nd_18_0
theorem ne_18_0 : nd_18_0 = .loop cb_18_0 := by kernel_rfl
noncomputable def sh_18_0 : List ShA := [.one (.slt [.int .u8] 5 1), .one (.d (.sl [.int .i64, .int .i64, .str])), .one (.d (.int .i64)), .one (.d (.int .i64))]
noncomputable def o_18_0 : OutK 0 (((TAs [.one (.slv [.int .u8] 5 1), .one (.d (.err 60))]) ⊕ (TAs [.one (.slt [.int .u8] 5 1)]))) := (outTwo (outOne 0 .ret [2, 3] [] [.one (.slv [.int .u8] 5 1), .one (.d (.err 60))]) (outOne 0 (.exit 0) [5] [] [.one (.slt [.int .u8] 5 1)]))
noncomputable def b_18_0 (N : Nat) (ih : TAs sh_18_0 → Option (((TAs [.one (.slv [.int .u8] 5 1), .one (.d (.err 60))]) ⊕ (TAs [.one (.slt [.int .u8] 5 1)])))) : TAs sh_18_0 → Option (((TAs [.one (.slv [.int .u8] 5 1), .one (.d (.err 60))]) ⊕ (TAs [.one (.slt [.int .u8] 5 1)]))) := fun (y7, y8, y9, y10) =>
  (bif (decide (y10 < y9)) then (bif (decide (0 ≤ y10 ∧ y10 < (List.length y8 : Int))) then ((f_19 N y7 ((List.getD y8 (Int.toNat y10) (0, 0, ByteArray.empty)).1)).bind fun r11 => ((f_19 N r11 ((List.getD y8 (Int.toNat y10) (0, 0, ByteArray.empty)).2.1)).bind fun r12 => ((f_34 N r12 ((List.getD y8 (Int.toNat y10) (0, 0, ByteArray.empty)).2.2)).bind fun r13 => (bif (!(Option.isNone r13.2)) then (some (.inl (([] : List Int), r13.2))) else (ih (r13.1, y8, y9, (IntKind.i64.wrap (y10 + 1)))))))) else none) else (some (.inr y7)))
noncomputable def l_18_0 (N : Nat) : TAs sh_18_0 → Option (((TAs [.one (.slv [.int .u8] 5 1), .one (.d (.err 60))]) ⊕ (TAs [.one (.slt [.int .u8] 5 1)]))) := iter (b_18_0 N) N
noncomputable def lp_18_0 (_ : Nat) : Nat → Option LSum := lookL []
noncomputable def L_18_0 (N : Nat) : LSum := loopSum [5, 34, 35, 36] [] sh_18_0 o_18_0 (l_18_0 N)
theorem b_ok_18_0 (N : Nat) (ih : TAs sh_18_0 → Option (((TAs [.one (.slv [.int .u8] 5 1), .one (.d (.err 60))]) ⊕ (TAs [.one (.slt [.int .u8] 5 1)])))) (p : TAs sh_18_0) : b_18_0 N ih p = exec (X_18 N) Go.Proofs.Tryd.f18.ntmps (lp_18_0 N) cb_18_0 0 (roundK [5, 34, 35, 36] [] sh_18_0 o_18_0 ih) (stOf [5, 34, 35, 36] [] sh_18_0 p) := by kernel_rfl
theorem L_ok_18_0 (N : Nat) : SegOk Go.Proofs.Tryd.prog laidL 0 Go.Proofs.Tryd.f18.ntmps nd_18_0 (L_18_0 N) :=
  ne_18_0 ▸ loop_ok (cur := 0) (lp := lp_18_0 N) (x_18 N) (fun n => iter (b_18_0 N) n) (fun _ => rfl) (fun n p => b_ok_18_0 N (iter (b_18_0 N) n) p) (loopsAll (by kernel_rfl) (lookOk_nil)) N
noncomputable def lp_18 (N : Nat) : Nat → Option LSum := lookL [(0, L_18_0 N)]
noncomputable def f_18 (N : Nat) (x1 : ByteArray) (x2 : Int) (x3 : List (Int × Int × ByteArray)) : Option (TAs [.one (.slv [.int .u8] 5 1), .one (.d (.err 60))]) :=
  ((f_15 N x1 x2 x3).bind fun r4 => (bif (!(Option.isNone r4)) then (some (([] : List Int), r4)) else ((f_34 N ([] : List Int) x1).bind fun r5 => (bif (!(Option.isNone r5.2)) then (some (([] : List Int), r5.2)) else ((f_19 N r5.1 x2).bind fun r6 => (bif (decide ((List.length r6 + List.length ([(IntKind.u8.wrap (List.length x3 : Int))] : List Int)) * 1 ≤ 140737488355328)) then ((l_18_0 N ((r6 ++ ([(IntKind.u8.wrap (List.length x3 : Int))] : List Int)), x3, (List.length x3 : Int), 0)).bind fun q => (match q with | .inl q14 => (some (q14.1, q14.2)) | .inr q15 => ((f_22 N 6 q15).bind fun r16 => (some (r16.1, r16.2))))) else none))))))
theorem ok_18 (N : Nat) (x1 : ByteArray) (x2 : Int) (x3 : List (Int × Int × ByteArray)) : f_18 N x1 x2 x3 = exec (X_18 N) Go.Proofs.Tryd.f18.ntmps (lp_18 N) c_18 0 (fnK (X_18 N) Go.Proofs.Tryd.f18.results.toList 0 [.one (.slv [.int .u8] 5 1), .one (.d (.err 60))]) (fnSt 1 0 [.agg [.d (.str), .d (.int .i64), .d (.sl [.int .i64, .int .i64, .str])]] (x1, x2, x3)) := by kernel_rfl
noncomputable def S_18 (N : Nat) : Sum := fnSum 1 0 2 [.agg [.d (.str), .d (.int .i64), .d (.sl [.int .i64, .int .i64, .str])]] [.one (.slv [.int .u8] 5 1), .one (.d (.err 60))] (fun p => f_18 N p.1 p.2.1 p.2.2)
theorem s_18 (N : Nat) : SumOk Go.Proofs.Tryd.prog laidL 18 (S_18 N) :=
  fn_ok (lp := lp_18 N) (x_18 N) Go.Proofs.Tryd.func18 (c := c_18) (by kernel_rfl) (by kernel_rfl) rfl (fun p => ok_18 N p.1 p.2.1 p.2.2) (loopsAll (by kernel_rfl) ((lookOk_cons (L_ok_18_0 N) lookOk_nil)))
noncomputable def X_8 (N : Nat) : Ctx := ⟨tyT, lookF [(6, (S_6 N)), (18, (S_18 N)), (19, (S_19 N)), (21, (S_21 N)), (20, (S_20 N)), (22, (S_22 N))], eqT, fun _ => false⟩
noncomputable def c_8 : Code := bodyOf Go.Proofs.Tryd.f8
theorem x_8 (N : Nat) : CtxOk Go.Proofs.Tryd.prog laidL (X_8 N) := ⟨tyOk, eqOk, fun _ _ => (fnsOk_cons (s_6 N) (fnsOk_cons (s_18 N) (fnsOk_cons (s_19 N) (fnsOk_cons (s_21 N) (fnsOk_cons (s_20 N) (fnsOk_cons (s_22 N) fnsOk_nil)))))).get, by kernel_rfl⟩
noncomputable def nd_8_0 : Code := loopAt 0 0 c_8
noncomputable def cb_8_0 : Code := unloop nd_8_0
theorem ne_8_0 : nd_8_0 = .loop cb_8_0 := by kernel_rfl
noncomputable def sh_8_0 : List ShA := [.one (.ptr 144 0), .one (.slv [.int .u8] 5 1), .one (.slt [.int .u8] 5 1), .agg [.d (.arr .i64 5)], .one (.d (.int .i64)), .agg [.d (.int .i64), .d (.int .i64), .d (.int .i64), .d (.int .i64), .d (.int .i64), .d (.int .i64), .d (.bool), .d (.str), .d (.int .i64), .d (.sl [.int .i64, .int .i64, .str])]]
noncomputable def o_8_0 : OutK 0 (TAs [.one (.ptr 144 0), .one (.slv [.int .u8] 5 1), .one (.slt [.int .u8] 5 1), .agg [.d (.int .i64), .d (.int .i64), .d (.int .i64), .d (.int .i64), .d (.int .i64), .d (.int .i64), .d (.bool), .d (.str), .d (.int .i64), .d (.sl [.int .i64, .int .i64, .str])]]) := (outOne 0 (.exit 0) [1, 5, 7] [144] [.one (.ptr 144 0), .one (.slv [.int .u8] 5 1), .one (.slt [.int .u8] 5 1), .agg [.d (.int .i64), .d (.int .i64), .d (.int .i64), .d (.int .i64), .d (.int .i64), .d (.int .i64), .d (.bool), .d (.str), .d (.int .i64), .d (.sl [.int .i64, .int .i64, .str])]])
noncomputable def b_8_0 (N : Nat) (ih : TAs sh_8_0 → Option (TAs [.one (.ptr 144 0), .one (.slv [.int .u8] 5 1), .one (.slt [.int .u8] 5 1), .agg [.d (.int .i64), .d (.int .i64), .d (.int .i64), .d (.int .i64), .d (.int .i64), .d (.int .i64), .d (.bool), .d (.str), .d (.int .i64), .d (.sl [.int .i64, .int .i64, .str])]])) : TAs sh_8_0 → Option (TAs [.one (.ptr 144 0), .one (.slv [.int .u8] 5 1), .one (.slt [.int .u8] 5 1), .agg [.d (.int .i64), .d (.int .i64), .d (.int .i64), .d (.int .i64), .d (.int .i64), .d (.int .i64), .d (.bool), .d (.str), .d (.int .i64), .d (.sl [.int .i64, .int .i64, .str])]]) := fun (_, y13, y14, y15, y16, (y17, y18, y19, y20, y21, y22, y23, y24, y25, y26)) =>
  (bif (decide (y16 < 5)) then (bif (decide (0 ≤ y16 ∧ y16 < 5 ∧ 5 = 5)) then ((f_19 N y14 (List.getD y15 (Int.toNat y16) 0)).bind fun r27 => (ih ((), y13, r27, y15, (IntKind.i64.wrap (y16 + 1)), (y17, y18, y19, y20, y21, y22, y23, y24, y25, y26)))) else none) else (some (((), y13, y14, (y17, y18, y19, y20, y21, y22, y23, y24, y25, y26)))))
noncomputable def l_8_0 (N : Nat) : TAs sh_8_0 → Option (TAs [.one (.ptr 144 0), .one (.slv [.int .u8] 5 1), .one (.slt [.int .u8] 5 1), .agg [.d (.int .i64), .d (.int .i64), .d (.int .i64), .d (.int .i64), .d (.int .i64), .d (.int .i64), .d (.bool), .d (.str), .d (.int .i64), .d (.sl [.int .i64, .int .i64, .str])]]) := iter (b_8_0 N) N
noncomputable def lp_8_0 (_ : Nat) : Nat → Option LSum := lookL []
noncomputable def L_8_0 (N : Nat) : LSum := loopSum [1, 5, 7, 43, 44] [144] sh_8_0 o_8_0 (l_8_0 N)
theorem b_ok_8_0 (N : Nat) (ih : TAs sh_8_0 → Option (TAs [.one (.ptr 144 0), .one (.slv [.int .u8] 5 1), .one (.slt [.int .u8] 5 1), .agg [.d (.int .i64), .d (.int .i64), .d (.int .i64), .d (.int .i64), .d (.int .i64), .d (.int .i64), .d (.bool), .d (.str), .d (.int .i64), .d (.sl [.int .i64, .int .i64, .str])]])) (p : TAs sh_8_0) : b_8_0 N ih p = exec (X_8 N) Go.Proofs.Tryd.f8.ntmps (lp_8_0 N) cb_8_0 0 (roundK [1, 5, 7, 43, 44] [144] sh_8_0 o_8_0 ih) (stOf [1, 5, 7, 43, 44] [144] sh_8_0 p) := by kernel_rfl
theorem L_ok_8_0 (N : Nat) : SegOk Go.Proofs.Tryd.prog laidL 0 Go.Proofs.Tryd.f8.ntmps nd_8_0 (L_8_0 N) :=
  ne_8_0 ▸ loop_ok (cur := 0) (lp := lp_8_0 N) (x_8 N) (fun n => iter (b_8_0 N) n) (fun _ => rfl) (fun n p => b_ok_8_0 N (iter (b_8_0 N) n) p) (loopsAll (by kernel_rfl) (lookOk_nil)) N
noncomputable def lp_8 (N : Nat) : Nat → Option LSum := lookL [(0, L_8_0 N)]
noncomputable def f_8 (N : Nat) (x1 : Int) (x2 : Int) (x3 : Int) (x4 : Int) (x5 : Int) (x6 : Int) (x7 : Bool) (x8 : ByteArray) (x9 : Int) (x10 : List (Int × Int × ByteArray)) : Option (TAs [.one (.slv [.int .u8] 5 1), .one (.d (.err 60))]) :=
  ((f_6 N x1 x2 x3 x4 x5 x6 x7 x8 x9 x10).bind fun r11 => (bif (!(Option.isNone r11)) then (some (([] : List Int), r11)) else ((f_18 N x8 x9 x10).bind fun r12 => (bif (!(Option.isNone r12.2)) then (some (([] : List Int), r12.2)) else ((l_8_0 N ((), r12.1, ([(IntKind.u8.wrap x1)] : List Int), [x2, x3, x4, x5, x6], 0, (x1, x2, x3, x4, x5, x6, x7, x8, x9, x10))).bind fun q28 => ((f_21 N q28.2.2.2.2.2.2.2.2.2.1).bind fun r29 => (bif (decide ((List.length q28.2.2.1 + List.length ([r29] : List Int)) * 1 ≤ 140737488355328)) then ((f_20 N (q28.2.2.1 ++ ([r29] : List Int)) (IntKind.u16.wrap (List.length q28.2.1 : Int))).bind fun r30 => (bif (decide ((List.length r30 + List.length q28.2.1) * 1 ≤ 140737488355328)) then ((f_22 N 3 (r30 ++ q28.2.1)).bind fun r31 => (some (r31.1, r31.2))) else none)) else none)))))))
theorem ok_8 (N : Nat) (x1 : Int) (x2 : Int) (x3 : Int) (x4 : Int) (x5 : Int) (x6 : Int) (x7 : Bool) (x8 : ByteArray) (x9 : Int) (x10 : List (Int × Int × ByteArray)) : f_8 N x1 x2 x3 x4 x5 x6 x7 x8 x9 x10 = exec (X_8 N) Go.Proofs.Tryd.f8.ntmps (lp_8 N) c_8 0 (fnK (X_8 N) Go.Proofs.Tryd.f8.results.toList 0 [.one (.slv [.int .u8] 5 1), .one (.d (.err 60))]) (fnSt 1 0 [.agg [.d (.int .i64), .d (.int .i64), .d (.int .i64), .d (.int .i64), .d (.int .i64), .d (.int .i64), .d (.bool), .d (.str), .d (.int .i64), .d (.sl [.int .i64, .int .i64, .str])]] (x1, x2, x3, x4, x5, x6, x7, x8, x9, x10)) := by kernel_rfl
noncomputable def S_8 (N : Nat) : Sum := fnSum 1 0 2 [.agg [.d (.int .i64), .d (.int .i64), .d (.int .i64), .d (.int .i64), .d (.int .i64), .d (.int .i64), .d (.bool), .d (.str), .d (.int .i64), .d (.sl [.int .i64, .int .i64, .str])]] [.one (.slv [.int .u8] 5 1), .one (.d (.err 60))] (fun p => f_8 N p.1 p.2.1 p.2.2.1 p.2.2.2.1 p.2.2.2.2.1 p.2.2.2.2.2.1 p.2.2.2.2.2.2.1 p.2.2.2.2.2.2.2.1 p.2.2.2.2.2.2.2.2.1 p.2.2.2.2.2.2.2.2.2)
theorem s_8 (N : Nat) : SumOk Go.Proofs.Tryd.prog laidL 8 (S_8 N) :=
  fn_ok (lp := lp_8 N) (x_8 N) Go.Proofs.Tryd.func8 (c := c_8) (by kernel_rfl) (by kernel_rfl) rfl (fun p => ok_8 N p.1 p.2.1 p.2.2.1 p.2.2.2.1 p.2.2.2.2.1 p.2.2.2.2.2.1 p.2.2.2.2.2.2.1 p.2.2.2.2.2.2.2.1 p.2.2.2.2.2.2.2.2.1 p.2.2.2.2.2.2.2.2.2) (loopsAll (by kernel_rfl) ((lookOk_cons (L_ok_8_0 N) lookOk_nil)))
noncomputable def X_7 (N : Nat) : Ctx := ⟨tyT, lookF [(16, (S_16 N)), (8, (S_8 N)), (9, (S_9 N)), (10, (S_10 N)), (6, (S_6 N)), (17, (S_17 N))], eqT, fun _ => false⟩
noncomputable def c_7 : Code := bodyOf Go.Proofs.Tryd.f7
theorem x_7 (N : Nat) : CtxOk Go.Proofs.Tryd.prog laidL (X_7 N) := ⟨tyOk, eqOk, fun _ _ => (fnsOk_cons (s_16 N) (fnsOk_cons (s_8 N) (fnsOk_cons (s_9 N) (fnsOk_cons (s_10 N) (fnsOk_cons (s_6 N) (fnsOk_cons (s_17 N) fnsOk_nil)))))).get, by kernel_rfl⟩
noncomputable def lp_7 (_ : Nat) : Nat → Option LSum := lookL []
noncomputable def f_7 (N : Nat) : Option (TAs [.one (.d (.bool))]) :=
  ((f_16 N).bind fun r1 => ((f_8 N r1.1 r1.2.1 r1.2.2.1 r1.2.2.2.1 r1.2.2.2.2.1 r1.2.2.2.2.2.1 r1.2.2.2.2.2.2.1 r1.2.2.2.2.2.2.2.1 r1.2.2.2.2.2.2.2.2.1 r1.2.2.2.2.2.2.2.2.2).bind fun r2 => ((f_9 N r2.1).bind fun r3 => (bif (Option.isNone r2.2) then (bif (Option.isNone r3.2) then ((f_16 N).bind fun r4 => ((f_10 N r4.1 r4.2.1 r4.2.2.1 r4.2.2.2.1 r4.2.2.2.2.1 r4.2.2.2.2.2.1 r4.2.2.2.2.2.2.1 r4.2.2.2.2.2.2.2.1 r4.2.2.2.2.2.2.2.2.1 r4.2.2.2.2.2.2.2.2.2 r3.1.1 r3.1.2.1 r3.1.2.2.1 r3.1.2.2.2.1 r3.1.2.2.2.2.1 r3.1.2.2.2.2.2.1 r3.1.2.2.2.2.2.2.1 r3.1.2.2.2.2.2.2.2.1 r3.1.2.2.2.2.2.2.2.2.1 r3.1.2.2.2.2.2.2.2.2.2).bind fun r5 => (bif r5 then (bif ((ByteArray.toList r3.1.2.2.2.2.2.2.2.1) == (ByteArray.toList (⟨#[85, 84, 67]⟩ : ByteArray))) then (bif (r3.1.2.2.2.1 == 1) then ((f_6 N r1.1 r1.2.1 r1.2.2.1 0 r1.2.2.2.2.1 r1.2.2.2.2.2.1 r1.2.2.2.2.2.2.1 r1.2.2.2.2.2.2.2.1 r1.2.2.2.2.2.2.2.2.1 r1.2.2.2.2.2.2.2.2.2).bind fun r6 => ((f_17 N r6).bind fun r7 => (some (r7 == 1)))) else (some false)) else (some false)) else (some false)))) else (some false)) else (some false)))))
theorem ok_7 (N : Nat) : f_7 N = exec (X_7 N) Go.Proofs.Tryd.f7.ntmps (lp_7 N) c_7 0 (fnK (X_7 N) Go.Proofs.Tryd.f7.results.toList 0 [.one (.d (.bool))]) (fnSt 0 0 [] ()) := by kernel_rfl
noncomputable def S_7 (N : Nat) : Sum := fnSum 0 0 1 [] [.one (.d (.bool))] (fun _ => f_7 N)
theorem s_7 (N : Nat) : SumOk Go.Proofs.Tryd.prog laidL 7 (S_7 N) :=
  fn_ok (lp := lp_7 N) (x_7 N) Go.Proofs.Tryd.func7 (c := c_7) (by kernel_rfl) (by kernel_rfl) rfl (fun _ => ok_7 N) (loopsAll (by kernel_rfl) (lookOk_nil))
noncomputable def X_3 (N : Nat) : Ctx := ⟨tyT, lookF [(4, (S_4 N)), (5, (S_5 N)), (7, (S_7 N)), (6, (S_6 N)), (8, (S_8 N)), (9, (S_9 N)), (10, (S_10 N))], eqT, fun _ => false⟩
noncomputable def c_3 : Code := bodyOf Go.Proofs.Tryd.f3
theorem x_3 (N : Nat) : CtxOk Go.Proofs.Tryd.prog laidL (X_3 N) := ⟨tyOk, eqOk, fun _ _ => (fnsOk_cons (s_4 N) (fnsOk_cons (s_5 N) (fnsOk_cons (s_7 N) (fnsOk_cons (s_6 N) (fnsOk_cons (s_8 N) (fnsOk_cons (s_9 N) (fnsOk_cons (s_10 N) fnsOk_nil))))))).get, by kernel_rfl⟩
noncomputable def lp_3 (_ : Nat) : Nat → Option LSum := lookL []
noncomputable def f_3 (N : Nat) (x1 : Int) (x2 : Int) (x3 : Int) (x4 : Int) (x5 : Int) (x6 : Int) (x7 : Bool) (x8 : ByteArray) (x9 : Int) (x10 : List (Int × Int × ByteArray)) (x11 : Int) : Option (TAs [.one (.d (.bool))]) :=
  ((f_4 N x1 x2 x3 x4 x5 x6 x7 x8 x9 x10).bind fun r12 => ((f_5 N x8 x9 x10).bind fun r13 => (bif r13 then ((f_7 N).bind fun r14 => (some r14)) else ((f_6 N r12.1 r12.2.1 r12.2.2.1 r12.2.2.2.1 r12.2.2.2.2.1 r12.2.2.2.2.2.1 r12.2.2.2.2.2.2.1 r12.2.2.2.2.2.2.2.1 r12.2.2.2.2.2.2.2.2.1 r12.2.2.2.2.2.2.2.2.2).bind fun r15 => (bif (!(Option.isNone r15)) then ((f_7 N).bind fun r16 => (some r16)) else ((f_8 N r12.1 r12.2.1 r12.2.2.1 r12.2.2.2.1 r12.2.2.2.2.1 r12.2.2.2.2.2.1 r12.2.2.2.2.2.2.1 r12.2.2.2.2.2.2.2.1 r12.2.2.2.2.2.2.2.2.1 r12.2.2.2.2.2.2.2.2.2).bind fun r17 => ((f_9 N r17.1).bind fun r18 => (bif (!(Option.isNone r17.2)) then (some false) else (bif (!(Option.isNone r18.2)) then (some false) else ((f_10 N r12.1 r12.2.1 r12.2.2.1 r12.2.2.2.1 r12.2.2.2.2.1 r12.2.2.2.2.2.1 r12.2.2.2.2.2.2.1 r12.2.2.2.2.2.2.2.1 r12.2.2.2.2.2.2.2.2.1 r12.2.2.2.2.2.2.2.2.2 r18.1.1 r18.1.2.1 r18.1.2.2.1 r18.1.2.2.2.1 r18.1.2.2.2.2.1 r18.1.2.2.2.2.2.1 r18.1.2.2.2.2.2.2.1 r18.1.2.2.2.2.2.2.2.1 r18.1.2.2.2.2.2.2.2.2.1 r18.1.2.2.2.2.2.2.2.2.2).bind fun r19 => (bif (!r19) then (some false) else (bif (decide ((List.length r17.1 : Int) < 53)) then (some false) else (bif (decide ((IntKind.u64.wrap (List.length r17.1 : Int)) = 0)) then none else (bif (decide (0 ≤ (IntKind.i64.wrap (Int.tmod (IntKind.u64.wrap x11) (IntKind.u64.wrap (List.length r17.1 : Int)))) ∧ (IntKind.i64.wrap (Int.tmod (IntKind.u64.wrap x11) (IntKind.u64.wrap (List.length r17.1 : Int)))) ≤ (List.length r17.1 : Int))) then ((f_9 N (List.take (Int.toNat (IntKind.i64.wrap (Int.tmod (IntKind.u64.wrap x11) (IntKind.u64.wrap (List.length r17.1 : Int))))) r17.1)).bind fun r20 => (bif (decide ((IntKind.u64.wrap (IntKind.i64.wrap (8 * (List.length r17.1 : Int)))) = 0)) then none else (bif (decide (0 ≤ (IntKind.i64.wrap (Int.tdiv (IntKind.i64.wrap (Int.tmod (IntKind.u64.wrap x11) (IntKind.u64.wrap (IntKind.i64.wrap (8 * (List.length r17.1 : Int)))))) 8)) ∧ (IntKind.i64.wrap (Int.tdiv (IntKind.i64.wrap (Int.tmod (IntKind.u64.wrap x11) (IntKind.u64.wrap (IntKind.i64.wrap (8 * (List.length r17.1 : Int)))))) 8)) < (List.length r17.1 : Int))) then (bif (decide ((IntKind.u64.wrap (Int.tmod (IntKind.i64.wrap (Int.tmod (IntKind.u64.wrap x11) (IntKind.u64.wrap (IntKind.i64.wrap (8 * (List.length r17.1 : Int)))))) 8)) < 0)) then none else (bif (decide (0 ≤ (IntKind.i64.wrap (Int.tdiv (IntKind.i64.wrap (Int.tmod (IntKind.u64.wrap x11) (IntKind.u64.wrap (IntKind.i64.wrap (8 * (List.length r17.1 : Int)))))) 8)) ∧ (IntKind.i64.wrap (Int.tdiv (IntKind.i64.wrap (Int.tmod (IntKind.u64.wrap x11) (IntKind.u64.wrap (IntKind.i64.wrap (8 * (List.length r17.1 : Int)))))) 8)) < (List.length r17.1 : Int))) then ((f_9 N (List.set r17.1 (Int.toNat (IntKind.i64.wrap (Int.tdiv (IntKind.i64.wrap (Int.tmod (IntKind.u64.wrap x11) (IntKind.u64.wrap (IntKind.i64.wrap (8 * (List.length r17.1 : Int)))))) 8))) (ibits .xor .u8 (List.getD r17.1 (Int.toNat (IntKind.i64.wrap (Int.tdiv (IntKind.i64.wrap (Int.tmod (IntKind.u64.wrap x11) (IntKind.u64.wrap (IntKind.i64.wrap (8 * (List.length r17.1 : Int)))))) 8))) 0) (IntKind.u8.wrap (1 * 2 ^ (min (Int.toNat (IntKind.u64.wrap (Int.tmod (IntKind.i64.wrap (Int.tmod (IntKind.u64.wrap x11) (IntKind.u64.wrap (IntKind.i64.wrap (8 * (List.length r17.1 : Int)))))) 8))) IntKind.u8.bits)))))).bind fun r21 => (bif (!(Option.isNone r20.2)) then (bif (!(Option.isNone r21.2)) then ((f_7 N).bind fun r22 => (some r22)) else (some false)) else (some false))) else none)) else none))) else none))))))))))))))
theorem ok_3 (N : Nat) (x1 : Int) (x2 : Int) (x3 : Int) (x4 : Int) (x5 : Int) (x6 : Int) (x7 : Bool) (x8 : ByteArray) (x9 : Int) (x10 : List (Int × Int × ByteArray)) (x11 : Int) : f_3 N x1 x2 x3 x4 x5 x6 x7 x8 x9 x10 x11 = exec (X_3 N) Go.Proofs.Tryd.f3.ntmps (lp_3 N) c_3 0 (fnK (X_3 N) Go.Proofs.Tryd.f3.results.toList 0 [.one (.d (.bool))]) (fnSt 2 0 [.agg [.d (.int .i64), .d (.int .i64), .d (.int .i64), .d (.int .i64), .d (.int .i64), .d (.int .i64), .d (.bool), .d (.str), .d (.int .i64), .d (.sl [.int .i64, .int .i64, .str])], .one (.d (.int .i64))] ((x1, x2, x3, x4, x5, x6, x7, x8, x9, x10), x11)) := by kernel_rfl
noncomputable def S_3 (N : Nat) : Sum := fnSum 2 0 1 [.agg [.d (.int .i64), .d (.int .i64), .d (.int .i64), .d (.int .i64), .d (.int .i64), .d (.int .i64), .d (.bool), .d (.str), .d (.int .i64), .d (.sl [.int .i64, .int .i64, .str])], .one (.d (.int .i64))] [.one (.d (.bool))] (fun p => f_3 N p.1.1 p.1.2.1 p.1.2.2.1 p.1.2.2.2.1 p.1.2.2.2.2.1 p.1.2.2.2.2.2.1 p.1.2.2.2.2.2.2.1 p.1.2.2.2.2.2.2.2.1 p.1.2.2.2.2.2.2.2.2.1 p.1.2.2.2.2.2.2.2.2.2 p.2)
theorem s_3 (N : Nat) : SumOk Go.Proofs.Tryd.prog laidL 3 (S_3 N) :=
  fn_ok (lp := lp_3 N) (x_3 N) Go.Proofs.Tryd.func3 (c := c_3) (by kernel_rfl) (by kernel_rfl) rfl (fun p => ok_3 N p.1.1 p.1.2.1 p.1.2.2.1 p.1.2.2.2.1 p.1.2.2.2.2.1 p.1.2.2.2.2.2.1 p.1.2.2.2.2.2.2.1 p.1.2.2.2.2.2.2.2.1 p.1.2.2.2.2.2.2.2.2.1 p.1.2.2.2.2.2.2.2.2.2 p.2) (loopsAll (by kernel_rfl) (lookOk_nil))
end Go.Proofs.YtihignmcjldiiaaDoor.Mir
namespace Go.Proofs.YtihignmcjldiiaaDoor.Mir
open Go Go.RowKit
set_option maxRecDepth 100000
def fineI (c : Int) : Bool := (decide (c ≥ 97) && decide (c ≤ 122)) || ((decide (c ≥ 65) && decide (c ≤ 90)) || ((decide (c ≥ 48) && decide (c ≤ 57)) || ((c == 47) || ((c == 95) || ((c == 43) || (c == 45))))))
def fineL : List UInt8 := [65, 66, 67, 68, 69, 70, 71, 72, 73, 74, 75, 76, 77, 78, 79, 80, 81, 82, 83, 84, 85, 86, 87, 88, 89, 90, 97, 98, 99, 100, 101, 102, 103, 104, 105, 106, 107, 108, 109, 110, 111, 112, 113, 114, 115, 116, 117, 118, 119, 120, 121, 122, 48, 49, 50, 51, 52, 53, 54, 55, 56, 57, 47, 95, 43, 45]
theorem fine_nat : ∀ n : Fin 256, fineL.contains (UInt8.ofNat n.val) = fineI (n.val : Int) := by decide +kernel
theorem fine_byte (b : UInt8) : fineL.contains b = fineI (b.toNat : Int) := by
  have := fine_nat ⟨b.toNat, b.toNat_lt⟩
  simpa using this
def allFine (l : List UInt8) : Bool := l.all fun b => fineI (b.toNat : Int)
def nameB (s : ByteArray) : Bool := decide (1 ≤ s.size) && (decide (s.size ≤ 12) && allFine s.data.toList)
theorem size_list (s : ByteArray) : s.size = s.data.toList.length := by rw [Array.length_toList]; rfl
theorem beq_nil (l : List UInt8) : (l == []) = l.isEmpty := by cases l <;> rfl
theorem drop_all : ∀ l : List UInt8, ((l.dropWhile (fineL.contains ·)) == []) = allFine l
  | [] => rfl
  | b :: l => by
    have h := drop_all l
    simp only [List.dropWhile, allFine, List.all_cons] at h ⊢
    rw [fine_byte b]
    cases fineI (b.toNat : Int) with
    | true => simpa using h
    | false => simp
theorem named_at (N : Nat) (s : ByteArray) : f_31 N s = some (nameB s) := by
  have ht : trimF s (⟨#[65, 66, 67, 68, 69, 70, 71, 72, 73, 74, 75, 76, 77, 78, 79, 80, 81, 82, 83, 84, 85, 86, 87, 88, 89, 90, 97, 98, 99, 100, 101, 102, 103, 104, 105, 106, 107, 108, 109, 110, 111, 112, 113, 114, 115, 116, 117, 118, 119, 120, 121, 122, 48, 49, 50, 51, 52, 53, 54, 55, 56, 57, 47, 95, 43, 45]⟩) = some ⟨(Lib.trimLeftS s.data.toList fineL).toArray⟩ := rfl
  unfold f_31 nameB
  rw [ht]
  simp only [Lib.toList_data, Option.bind_some]
  show (bif !(s.data.toList == []) then (bif decide ((s.size : Int) ≤ 12) then some ((Lib.trimLeftS s.data.toList fineL) == []) else some false) else some false) = _
  rw [show (Lib.trimLeftS s.data.toList fineL == []) = allFine s.data.toList from drop_all _, beq_nil, size_list]
  generalize s.data.toList = l
  cases l with
  | nil => rfl
  | cons b l =>
    by_cases h : (b :: l).length ≤ 12
    · rw [decide_eq_true (show (((b :: l).length : Nat) : Int) ≤ 12 by omega), decide_eq_true h, decide_eq_true (show 1 ≤ (b :: l).length by simp)]; rfl
    · rw [decide_eq_false (show ¬ (((b :: l).length : Nat) : Int) ≤ 12 by omega), decide_eq_false h, decide_eq_true (show 1 ≤ (b :: l).length by simp)]; rfl
def offB (n : Int) : Bool := decide (-86399 ≤ n) && decide (n ≤ 86399)
theorem added_at (N : Nat) (n : Int) : f_32 N n = some (offB n) := by
  unfold f_32 offB
  show (bif decide (-86399 ≤ n) then _ else _) = _
  cases decide (-86399 ≤ n) <;> rfl
abbrev Rul := Int × Int × ByteArray
def gR (L : List Rul) (i : Nat) : Rul := L.getD i (0, 0, ByteArray.empty)
def okAt (L : List Rul) (i : Nat) : Bool := nameB (gR L i).2.2 && (offB (gR L i).2.1 && (!decide ((gR L i).1 < -1099511627776) && (!decide ((gR L i).1 > 1099511627776) && !(decide ((i : Int) > 0) && decide ((gR L (i - 1)).1 ≥ (gR L i).1)))))
def allFrom (L : List Rul) : Nat → Nat → Bool
  | _, 0 => true
  | i, k + 1 => okAt L i && allFrom L (i + 1) k
def mayZ (n : ByteArray) (f : Int) (L : List Rul) : Bool := nameB n && (offB f && (decide ((L.length : Int) ≤ 32) && allFrom L 0 L.length))
theorem check_loop (N : Nat) {n : ByteArray} {f : Int} {L : List Rul} (hL : L.length ≤ 1000000) : ∀ (k M i : Nat), i + k = L.length → k < M → iter (b_15_0 N) M ((), L, (L.length : Int), (i : Int), (n, f, L)) = bif allFrom L i k then some (.inr ()) else some (.inl (some 1)) := by
  intro k
  induction k with
  | zero =>
    intro M i hi hM
    obtain ⟨M, rfl⟩ : ∃ m, M = m + 1 := ⟨M - 1, by omega⟩
    show b_15_0 N (iter (b_15_0 N) M) _ = _
    unfold b_15_0
    simp only
    rw [decide_eq_false (show ¬ (i : Int) < (L.length : Int) by omega)]; rfl
  | succ k ih =>
    intro M i hi hM
    obtain ⟨M, rfl⟩ : ∃ m, M = m + 1 := ⟨M - 1, by omega⟩
    have ih' := ih M (i + 1) (by omega) (by omega)
    show b_15_0 N (iter (b_15_0 N) M) _ = _
    generalize iter (b_15_0 N) M = I at ih' ⊢
    unfold b_15_0
    simp only
    rw [decide_eq_true (show (i : Int) < (L.length : Int) by omega), decide_eq_true (show 0 ≤ (i : Int) ∧ (i : Int) < (L.length : Int) by omega), named_at, added_at, wi64 (n := (i : Int) + 1) (by omega) (by omega), show (i : Int) + 1 = ((i + 1 : Nat) : Int) by omega, ih']
    simp only [cond_true, Option.bind_some, Int.toNat_natCast]
    show _ = bif (okAt L i && allFrom L (i + 1) k) then _ else _
    unfold okAt
    show (bif !nameB (gR L i).2.2 then _ else (bif !offB (gR L i).2.1 then _ else (bif decide ((gR L i).1 < -1099511627776) then _ else (bif decide ((gR L i).1 > 1099511627776) then _ else _)))) = _
    generalize nameB (gR L i).2.2 = t1
    generalize offB (gR L i).2.1 = t2
    generalize decide ((gR L i).1 < -1099511627776) = t3
    generalize decide ((gR L i).1 > 1099511627776) = t4
    by_cases h0 : (i : Int) > 0
    · rw [decide_eq_true h0, wi64 (n := (i : Int) - 1) (by omega) (by omega), decide_eq_true (show 0 ≤ (i : Int) - 1 ∧ (i : Int) - 1 < (L.length : Int) by omega), show ((i : Int) - 1).toNat = i - 1 by omega]
      show (bif !t1 then _ else (bif !t2 then _ else (bif t3 then _ else (bif t4 then _ else (bif decide ((gR L (i - 1)).1 ≥ (gR L i).1) then _ else _))))) = _
      generalize decide ((gR L (i - 1)).1 ≥ (gR L i).1) = t5
      cases t1 <;> cases t2 <;> cases t3 <;> cases t4 <;> cases t5 <;> rfl
    · rw [decide_eq_false h0]
      cases t1 <;> cases t2 <;> cases t3 <;> cases t4 <;> rfl
theorem check_at {N : Nat} {n : ByteArray} {f : Int} {L : List Rul} (hL : L.length ≤ 1000000) (hN : L.length < N) : f_15 N n f L = some (bif mayZ n f L then none else some 1) := by
  have h := check_loop N (n := n) (f := f) hL L.length N 0 (by omega) hN
  have h' : l_15_0 N ((), L, (L.length : Int), 0, (n, f, L)) = bif allFrom L 0 L.length then some (.inr ()) else some (.inl (some 1)) := h
  unfold f_15 mayZ
  rw [named_at, added_at, h', show decide ((L.length : Int) > 32) = !decide ((L.length : Int) ≤ 32) by
    by_cases h : (L.length : Int) ≤ 32
    · rw [decide_eq_true h, decide_eq_false (by omega)]; rfl
    · rw [decide_eq_false h, decide_eq_true (by omega)]; rfl]
  cases nameB n <;> cases offB f <;> cases decide ((L.length : Int) ≤ 32) <;> cases allFrom L 0 L.length <;> rfl
end Go.Proofs.YtihignmcjldiiaaDoor.Mir
namespace Go.Proofs.YtihignmcjldiiaaDoor.Mir
open Go Go.RowKit
set_option maxRecDepth 100000
def tk (n : Nat) (s : List Int × Bool) : Int × (List Int × Bool) := if s.2 = true ∨ s.1.length < n then (0, ([], true)) else (ofLe (s.1.take n), (s.1.drop n, false))
theorem tk_by {n : Nat} {s : List Int × Bool} (h : By s.1) : By (tk n s).2.1 := by
  unfold tk; split
  · exact By.nil
  · exact h.drop n
theorem tk_lt {n : Nat} {s : List Int × Bool} (h : By s.1) : 0 ≤ (tk n s).1 ∧ (tk n s).1 < 256 ^ n := by
  unfold tk; split
  · exact ⟨Int.le_refl _, Int.pow_pos (by decide)⟩
  · rename_i hn
    have := ofLe_lt (h.take n)
    rw [List.length_take, Nat.min_eq_left (by omega)] at this
    exact this
theorem p256 : ∀ m : Fin 9, (256 : Int) ^ m.val ≤ 18446744073709551616 := by decide +kernel
theorem numV_at {zs : List Int} (h : By zs) (hl : zs.length ≤ 8) : numV zs = ofLe zs := by
  have key : ∀ k, k ≤ zs.length → (upTo (backAt zs zs.length) k).foldl numStep 0 = ofLe (zs.drop (zs.length - k)) := by
    intro k
    induction k with
    | zero => intro _; simp [upTo, ofLe]
    | succ k ih =>
      intro hk
      rw [upTo_succ, List.foldl_append, ih (by omega)]
      have hi : zs.length - (k + 1) < zs.length := by omega
      have e : zs.drop (zs.length - (k + 1)) = zs[zs.length - (k + 1)] :: zs.drop (zs.length - k) := by
        rw [List.drop_eq_getElem_cons hi, show zs.length - (k + 1) + 1 = zs.length - k by omega]
      have hb := ofLe_lt (h.drop (zs.length - (k + 1)))
      rw [e] at hb ⊢
      rw [List.length_cons, List.length_drop, show zs.length - (zs.length - k) + 1 = k + 1 by omega] at hb
      have hp : (256 : Int) ^ (k + 1) ≤ 18446744073709551616 := by
        exact p256 ⟨k + 1, by omega⟩
      have hc := h zs[zs.length - (k + 1)] (List.getElem_mem hi)
      have hv := (ofLe_lt (h.drop (zs.length - k))).1
      simp only [ofLe] at hb ⊢
      show bits .or .u64 (IntKind.u64.wrap (ofLe (zs.drop (zs.length - k)) * 256)) (IntKind.u64.wrap (zs[zs.length - 1 - k]?.getD 0)) = _
      have eg : zs[zs.length - 1 - k]?.getD 0 = zs[zs.length - (k + 1)] := by
        rw [show zs.length - 1 - k = zs.length - (k + 1) by omega, List.getElem?_eq_getElem hi]; rfl
      rw [eg, wu64 (by omega) (by omega), wu64 (by omega) (by omega), or256 _ _ hv hc.1 hc.2 (by omega)]
      omega
  have := key zs.length (Nat.le_refl _)
  rw [Nat.sub_self, List.drop_zero] at this
  exact this
theorem rdF_at {xs : List Int} {bd : Bool} {n : Nat} (h : By xs) (h1 : 1 ≤ n) (h8 : n ≤ 8) : rdF n xs bd = some ((tk n (xs, bd)).1, (tk n (xs, bd)).2.1, (tk n (xs, bd)).2.2) := by
  unfold rdF tk
  rw [decide_eq_true (by omega)]
  simp only [cond_true, Int.toNat_natCast]
  by_cases hb : bd = true ∨ xs.length < n
  · rw [if_pos hb]
    have : (bd || decide ((xs.length : Int) < (n : Int))) = true := by
      rcases hb with rfl | hb
      · rfl
      · rw [decide_eq_true (by omega)]; simp
    rw [this]; rfl
  · rw [if_neg hb]
    have : (bd || decide ((xs.length : Int) < (n : Int))) = false := by
      have h2 := not_or.1 hb
      rw [decide_eq_false (by omega)]
      simpa using h2.1
    rw [this, cond_false, numV_at (h.take n) (by rw [List.length_take]; omega)]
theorem u8_at (N : Nat) {xs : List Int} {bd : Bool} (h : By xs) : f_25 N xs bd = some (tk 1 (xs, bd)) := by
  unfold f_25
  rw [show (1 : Int) = ((1 : Nat) : Int) from rfl, rdF_at h (by decide) (by decide)]
  have := tk_lt (n := 1) (s := (xs, bd)) h
  simp only [Option.bind_some]
  rw [wu8 this.1 (by simpa using this.2)]
theorem u16_at (N : Nat) {xs : List Int} {bd : Bool} (h : By xs) : f_27 N xs bd = some (tk 2 (xs, bd)) := by
  unfold f_27
  rw [show (2 : Int) = ((2 : Nat) : Int) from rfl, rdF_at h (by decide) (by decide)]
  have := tk_lt (n := 2) (s := (xs, bd)) h
  simp only [Option.bind_some]
  rw [wu16 this.1 (by simpa using this.2)]
theorem i64_at (N : Nat) {xs : List Int} {bd : Bool} (h : By xs) : f_26 N xs bd = some (IntKind.i64.wrap (tk 8 (xs, bd)).1, (tk 8 (xs, bd)).2) := by
  unfold f_26
  rw [show (8 : Int) = ((8 : Nat) : Int) from rfl, rdF_at h (by decide) (by decide)]
  rfl
def txt (s : List Int × Bool) : ByteArray × (List Int × Bool) :=
  if (tk 1 s).2.2 = true ∨ ((tk 1 s).2.1.length : Int) < (tk 1 s).1 then (bytesS [], ([], true)) else (bytesS ((tk 1 s).2.1.take (tk 1 s).1.toNat), ((tk 1 s).2.1.drop (tk 1 s).1.toNat, false))
theorem txt_by {s : List Int × Bool} (h : By s.1) : By (txt s).2.1 := by
  unfold txt; split
  · exact By.nil
  · exact (tk_by h).drop _
theorem text_at (N : Nat) {xs : List Int} {bd : Bool} (h : By xs) : f_43 N xs bd = some (txt (xs, bd)) := by
  unfold f_43
  rw [u8_at N h]
  have hl := tk_lt (n := 1) (s := (xs, bd)) h
  simp only [Option.bind_some]
  unfold txt
  generalize tk 1 (xs, bd) = r at *
  obtain ⟨v, ys, b⟩ := r
  simp only at hl ⊢
  have h2 : v < 256 := by simpa using hl.2
  rw [wi64 (by omega) (by omega)]
  unfold f_54
  cases b with
  | true => rfl
  | false =>
    simp only [cond_false, Bool.false_eq_true, false_or]
    by_cases hc : (ys.length : Int) < v
    · rw [if_pos hc, decide_eq_true (show v > (ys.length : Int) from hc)]; rfl
    · rw [if_neg hc, decide_eq_false (show ¬ v > (ys.length : Int) from hc), decide_eq_true (by omega), decide_eq_true (by omega), decide_eq_true (by omega)]
      simp
theorem num_loop (N : Nat) {v : Int} {n : Nat} (_ : 0 ≤ v) (h8 : n ≤ 8) : ∀ (k M i : Nat) (b : List Int), i + k = n → k < M → b.length + k ≤ 1000008 →
    iter (b_35_0 N) M (v, b, (n : Int), (i : Int)) = some (b ++ le k (v / 256 ^ i)) := by
  intro k
  induction k with
  | zero =>
    intro M i b hi hM _
    obtain ⟨M, rfl⟩ : ∃ m, M = m + 1 := ⟨M - 1, by omega⟩
    show (bif decide ((i : Int) < (n : Int)) then _ else some b) = _
    rw [decide_eq_false (by omega)]
    simp [le]
  | succ k ih =>
    intro M i b hi hM hb
    obtain ⟨M, rfl⟩ : ∃ m, M = m + 1 := ⟨M - 1, by omega⟩
    have ei : v / 2 ^ (min (Int.toNat (IntKind.i64.wrap (8 * (i : Int)))) IntKind.u64.bits) = v / 256 ^ i := by
      rw [wi64 (by omega) (by omega), show (8 * (i : Int)).toNat = 8 * i by omega, show IntKind.u64.bits = 64 from rfl, Nat.min_eq_left (by omega), Int.pow_mul]
      rfl
    show (bif decide ((i : Int) < (n : Int)) then (bif decide (IntKind.i64.wrap (8 * (i : Int)) < 0) then none else (bif decide ((b.length + ([(IntKind.u8.wrap (v / 2 ^ (min (Int.toNat (IntKind.i64.wrap (8 * (i : Int)))) IntKind.u64.bits)))] : List Int).length) * 1 ≤ 140737488355328) then iter (b_35_0 N) M (v, b ++ [(IntKind.u8.wrap (v / 2 ^ (min (Int.toNat (IntKind.i64.wrap (8 * (i : Int)))) IntKind.u64.bits)))], (n : Int), IntKind.i64.wrap ((i : Int) + 1)) else none)) else some b) = _
    have hlen : ∀ z : Int, (b.length + ([z] : List Int).length) * 1 ≤ 140737488355328 := fun z => by simp only [List.length_singleton]; omega
    have hneg : ¬ IntKind.i64.wrap (8 * (i : Int)) < 0 := by rw [wi64 (by omega) (by omega)]; omega
    rw [ei, decide_eq_true (show (i : Int) < (n : Int) by omega), decide_eq_false hneg, decide_eq_true (hlen _)]
    simp only [cond_true, cond_false]
    rw [wi64 (n := (i : Int) + 1) (by omega) (by omega), IntKind.wrap_u8]
    have := ih M (i + 1) (b ++ [v / 256 ^ i % 256]) (by omega) (by omega) (by rw [List.length_append, List.length_singleton]; omega)
    rw [show ((i + 1 : Nat) : Int) = (i : Int) + 1 by omega] at this
    rw [this, List.append_assoc]
    have e2 : v / 256 ^ (i + 1) = v / 256 ^ i / 256 := by rw [Int.pow_succ, Int.ediv_ediv_of_nonneg (Int.pow_nonneg (by decide))]
    rw [e2]; rfl
theorem clone_at {b : List Int} (hb : b.length ≤ 1000000) : cloneF [.int .u8] 1 b = some b := by
  unfold cloneF
  rw [decide_eq_true (show (0 + List.length (α := Int) b) * 1 ≤ 140737488355328 by omega)]; rfl
theorem num_at {N : Nat} {b : List Int} {v : Int} {n : Nat} (hN : 10 ≤ N) (hb : b.length ≤ 1000000) (h0 : 0 ≤ v) (h8 : n ≤ 8) : f_35 N b v n = some (b ++ le n v) := by
  unfold f_35
  rw [clone_at hb]
  have := num_loop N (v := v) h0 h8 n N 0 b (by omega) (by omega) (by omega)
  simp only [Int.pow_zero, Int.ediv_one] at this
  simp only [Option.bind_some]
  have h' : l_35_0 N (v, b, (n : Int), 0) = some (b ++ le n v) := this
  rw [h']; rfl
theorem pu16_at {N : Nat} {b : List Int} {v : Int} (hN : 10 ≤ N) (hb : b.length ≤ 1000000) (h0 : 0 ≤ v) (h1 : v < 65536) : f_20 N b v = some (b ++ le 2 v) := by
  unfold f_20
  rw [wu64 h0 (by omega), show (2 : Int) = ((2 : Nat) : Int) from rfl, num_at hN hb h0 (by decide)]; rfl
theorem pi64_at {N : Nat} {b : List Int} {v : Int} (hN : 10 ≤ N) (hb : b.length ≤ 1000000) : f_19 N b v = some (b ++ le 8 (IntKind.u64.wrap v)) := by
  unfold f_19
  rw [show (8 : Int) = ((8 : Nat) : Int) from rfl, num_at hN hb (wu64_lt v).1 (by decide)]; rfl
theorem bytesL_len (s : ByteArray) : (bytesL s).length = s.size := by unfold bytesL; rw [List.length_map]; rfl
theorem bytesL_by (s : ByteArray) : By (bytesL s) := fun x hx => by
  obtain ⟨b, _, rfl⟩ := List.mem_map.1 hx
  have := b.toNat_lt
  omega
theorem ftext_at {N : Nat} {b : List Int} {s : ByteArray} (hN : 10 ≤ N) (hb : b.length ≤ 100000) : f_34 N b s = if s.size > 255 then some ([], some 5) else some (b ++ le 1 (s.size : Int) ++ bytesL s, none) := by
  unfold f_34
  by_cases h : s.size > 255
  · rw [if_pos h, decide_eq_true (by omega)]; rfl
  · rw [if_neg h, decide_eq_false (by omega), cond_false, wu64 (by omega) (by omega), show (1 : Int) = ((1 : Nat) : Int) from rfl, num_at hN (by omega) (by omega) (by decide)]
    simp only [Option.bind_some]
    rw [decide_eq_true (show (List.length (b ++ le 1 (s.size : Int)) + (bytesL s).length) * 1 ≤ 140737488355328 by rw [List.length_append, le_len, bytesL_len]; omega)]; rfl
end Go.Proofs.YtihignmcjldiiaaDoor.Mir
namespace Go.Proofs.YtihignmcjldiiaaDoor.Mir
open Go Go.RowKit
set_option maxRecDepth 100000
def c1 (v : Nat) : Nat := if v % 2 = 1 then (v / 2) ^^^ 3988292384 else v / 2
def cK : Nat → Nat → Nat
  | 0, v => v
  | k + 1, v => cK k (c1 v)
def crcSt : Nat → List Int → Nat
  | v, [] => v
  | v, x :: xs => crcSt (cK 8 (v ^^^ x.toNat)) xs
def crcS (xs : List Int) : Int := ((4294967295 ^^^ crcSt 4294967295 xs : Nat) : Int)
def sealedL (xs : List Int) : List Int := xs ++ le 4 (crcS xs)
theorem xor_lt32 {a b : Nat} (ha : a < 4294967296) (hb : b < 4294967296) : a ^^^ b < 4294967296 := Nat.xor_lt_two_pow (n := 32) ha hb
theorem c1_lt {v : Nat} (h : v < 4294967296) : c1 v < 4294967296 := by
  unfold c1; split
  · exact xor_lt32 (by omega) (by decide)
  · omega
theorem cK_lt : ∀ (k : Nat) {v : Nat}, v < 4294967296 → cK k v < 4294967296
  | 0, _, h => h
  | k + 1, _, h => cK_lt k (c1_lt h)
theorem crcSt_lt : ∀ {xs : List Int} {v : Nat}, By xs → v < 4294967296 → crcSt v xs < 4294967296
  | [], _, _, h => h
  | x :: xs, v, hb, h => by
    have hx := hb x (by simp)
    exact crcSt_lt (xs := xs) (v := cK 8 (v ^^^ x.toNat)) (fun y hy => hb y (by simp [hy])) (cK_lt 8 (xor_lt32 h (by omega)))
theorem crcS_lt {xs : List Int} (h : By xs) : 0 ≤ crcS xs ∧ crcS xs < 4294967296 := by
  have := xor_lt32 (show 4294967295 < 4294967296 by decide) (crcSt_lt h (show 4294967295 < 4294967296 by decide))
  unfold crcS; omega
theorem wu32 {n : Int} (h0 : 0 ≤ n) (h1 : n < 4294967296) : IntKind.u32.wrap n = n := by rw [IntKind.wrap_u32]; omega
theorem x32 {a b : Nat} (ha : a < 4294967296) (hb : b < 4294967296) : ibits .xor .u32 (a : Int) (b : Int) = ((a ^^^ b : Nat) : Int) := by
  have h := xor_lt32 ha hb
  show IntKind.u32.wrap (((BitVec.ofInt 32 (a : Int) ^^^ BitVec.ofInt 32 (b : Int)).toNat : Nat) : Int) = _
  rw [BitVec.ofInt_natCast, BitVec.ofInt_natCast, BitVec.toNat_xor, BitVec.toNat_ofNat, BitVec.toNat_ofNat, Nat.mod_eq_of_lt (by simpa using ha), Nat.mod_eq_of_lt (by simpa using hb)]
  exact wu32 (by omega) (by omega)
theorem and1 {a : Nat} (ha : a < 4294967296) : ibits .and .u32 (a : Int) 1 = ((a % 2 : Nat) : Int) := by
  show IntKind.u32.wrap (((BitVec.ofInt 32 (a : Int) &&& BitVec.ofInt 32 ((1 : Nat) : Int)).toNat : Nat) : Int) = _
  rw [BitVec.ofInt_natCast, BitVec.ofInt_natCast, BitVec.toNat_and, BitVec.toNat_ofNat, BitVec.toNat_ofNat, Nat.mod_eq_of_lt (by simpa using ha), Nat.mod_eq_of_lt (by decide), Nat.and_one_is_mod]
  exact wu32 (by omega) (by omega)
theorem step_loop (N : Nat) : ∀ (k M i v : Nat), i + k = 8 → k < M → v < 4294967296 → iter (b_67_0 N) M ((v : Int), (i : Int)) = some ((cK k v : Nat) : Int) := by
  intro k
  induction k with
  | zero =>
    intro M i v hi hM hv
    obtain ⟨M, rfl⟩ : ∃ m, M = m + 1 := ⟨M - 1, by omega⟩
    show b_67_0 N (iter (b_67_0 N) M) ((v : Int), (i : Int)) = _
    generalize iter (b_67_0 N) M = T
    unfold b_67_0
    simp only
    rw [decide_eq_false (show ¬ (i : Int) < 8 by omega)]; rfl
  | succ k ih =>
    intro M i v hi hM hv
    obtain ⟨M, rfl⟩ : ∃ m, M = m + 1 := ⟨M - 1, by omega⟩
    show b_67_0 N (iter (b_67_0 N) M) ((v : Int), (i : Int)) = _
    have key := fun u hu => ih M (i + 1) u (by omega) (by omega) hu
    generalize iter (b_67_0 N) M = T at key ⊢
    unfold b_67_0
    simp only
    rw [decide_eq_true (show (i : Int) < 8 by omega), cond_true, and1 hv, wi64 (by omega) (by omega), show (2 : Int) ^ (min (Int.toNat 1) IntKind.u32.bits) = 2 from rfl, show (v : Int) / 2 = ((v / 2 : Nat) : Int) by omega, show (i : Int) + 1 = ((i + 1 : Nat) : Int) by omega, show (3988292384 : Int) = ((3988292384 : Nat) : Int) from rfl, x32 (by omega) (by decide), key _ (xor_lt32 (by omega) (by decide)), key _ (by omega)]
    simp only [cK, c1]
    by_cases h : v % 2 = 1
    · rw [if_pos h, h]; rfl
    · rw [if_neg h, show v % 2 = 0 by omega]; rfl
theorem step_at {N : Nat} {v : Nat} {c : Int} (hN : 10 ≤ N) (hv : v < 4294967296) (h0 : 0 ≤ c) (h1 : c < 256) : f_67 N (v : Int) c = some ((cK 8 (v ^^^ c.toNat) : Nat) : Int) := by
  unfold f_67 l_67_0
  rw [wu32 h0 (by omega), show c = ((c.toNat : Nat) : Int) by omega, x32 hv (by omega), Int.toNat_natCast]
  have := step_loop N 8 N 0 (v ^^^ c.toNat) rfl (by omega) (xor_lt32 hv (by omega))
  rw [show ((0 : Nat) : Int) = 0 from rfl] at this
  rw [this]; rfl
theorem more_loop {N : Nat} (hN : 10 ≤ N) {xs : List Int} (hb : By xs) (hx : xs.length ≤ 1000000) : ∀ (k M i v : Nat), i + k = xs.length → k < M → v < 4294967296 → iter (b_62_0 N) M ((v : Int), xs, (xs.length : Int), (i : Int)) = some ((crcSt v (xs.drop i) : Nat) : Int) := by
  intro k
  induction k with
  | zero =>
    intro M i v hi hM hv
    obtain ⟨M, rfl⟩ : ∃ m, M = m + 1 := ⟨M - 1, by omega⟩
    show b_62_0 N (iter (b_62_0 N) M) ((v : Int), xs, (xs.length : Int), (i : Int)) = _
    generalize iter (b_62_0 N) M = T
    unfold b_62_0
    simp only
    rw [decide_eq_false (show ¬ (i : Int) < (xs.length : Int) by omega), List.drop_eq_nil_of_le (by omega)]; rfl
  | succ k ih =>
    intro M i v hi hM hv
    obtain ⟨M, rfl⟩ : ∃ m, M = m + 1 := ⟨M - 1, by omega⟩
    show b_62_0 N (iter (b_62_0 N) M) ((v : Int), xs, (xs.length : Int), (i : Int)) = _
    have hi' : i < xs.length := by omega
    have hc := hb _ (List.getElem_mem hi')
    have eg : xs.getD (Int.toNat (i : Int)) 0 = xs[i] := by rw [Int.toNat_natCast, List.getD_eq_getElem?_getD, List.getElem?_eq_getElem hi']; rfl
    have key := fun u hu => ih M (i + 1) u (by omega) (by omega) hu
    generalize iter (b_62_0 N) M = T at key ⊢
    unfold b_62_0
    simp only
    rw [decide_eq_true (show (i : Int) < (xs.length : Int) by omega), cond_true, decide_eq_true (show 0 ≤ (i : Int) ∧ (i : Int) < (xs.length : Int) by omega), cond_true, eg, step_at hN hv hc.1 hc.2]
    simp only [Option.bind_some]
    rw [wi64 (by omega) (by omega), show (i : Int) + 1 = ((i + 1 : Nat) : Int) by omega, key _ (cK_lt 8 (xor_lt32 hv (by omega))), List.drop_eq_getElem_cons hi']
    rfl
theorem sum_at {N : Nat} {xs : List Int} (hb : By xs) (hx : xs.length ≤ 1000000) (hN : xs.length + 10 ≤ N) : f_50 N xs = some (crcS xs) := by
  unfold f_50 f_62 l_62_0
  have hs : (if IntKind.u32.signed then -1 else IntKind.u32.max) = ((4294967295 : Nat) : Int) := rfl
  rw [hs, show (0 : Int) = ((0 : Nat) : Int) from rfl, x32 (by decide) (by decide), Nat.xor_zero, more_loop (by omega) hb hx xs.length N 0 _ (by omega) (by omega) (by decide)]
  simp only [Option.bind_some, List.drop_zero]
  rw [x32 (by decide) (crcSt_lt hb (by decide))]
  rfl
theorem xor_half (a b : Nat) : (a ^^^ b) / 2 = (a / 2) ^^^ (b / 2) := by
  have := Nat.shiftRight_xor_distrib (a := a) (b := b) (i := 1)
  simpa [Nat.shiftRight_eq_div_pow] using this
theorem xor_odd (a b : Nat) : (a ^^^ b) % 2 = (a + b) % 2 := by
  have := Nat.testBit_xor a b 0
  simp only [Nat.testBit_zero] at this
  rcases Nat.mod_two_eq_zero_or_one a with ha | ha <;> rcases Nat.mod_two_eq_zero_or_one b with hb | hb <;> rw [ha, hb] at this <;> rcases Nat.mod_two_eq_zero_or_one (a ^^^ b) with hx | hx <;> rw [hx] at this ⊢ <;> simp at this <;> omega
theorem ones_sub {v : Nat} (h : v < 4294967296) : 4294967295 - v = 4294967295 ^^^ v := by
  have e := congrArg BitVec.toNat (BitVec.allOnes_xor (x := BitVec.ofNat 32 v))
  rw [BitVec.toNat_xor, BitVec.toNat_not, BitVec.toNat_allOnes, BitVec.toNat_ofNat, Nat.mod_eq_of_lt (show v < 2 ^ 32 from h)] at e
  exact e.symm
end Go.Proofs.YtihignmcjldiiaaDoor.Mir
namespace Go.Proofs.YtihignmcjldiiaaDoor.Mir
open Go Go.RowKit
set_option maxRecDepth 100000
theorem bytesL_bytesS : ∀ {xs : List Int}, By xs → bytesL (bytesS xs) = xs
  | [], _ => rfl
  | x :: xs, h => by
    have hx := h x (by simp)
    have ih := bytesL_bytesS (xs := xs) (fun y hy => h y (by simp [hy]))
    unfold bytesL bytesS at ih ⊢
    simp only [List.map_cons] at ih ⊢
    rw [ih]
    congr 1
    rw [UInt8.toNat_ofNat']
    omega
theorem bytesS_eq {a b : List Int} (ha : By a) (hb : By b) : (ByteArray.toList (bytesS a) == ByteArray.toList (bytesS b)) = (a == b) := by
  rw [Lib.toList_data, Lib.toList_data, Bool.eq_iff_iff, beq_iff_eq, beq_iff_eq]
  constructor
  · intro h
    have e : bytesS a = bytesS b := by
      have := congrArg List.toArray h
      simp only [Array.toArray_toList] at this
      exact congrArg ByteArray.mk this
    rw [← bytesL_bytesS ha, ← bytesL_bytesS hb, e]
  · rintro rfl; rfl
theorem sealedL_by {xs : List Int} (h : By xs) : By (sealedL xs) := h.append (le_by _ _)
theorem sealedL_len (xs : List Int) : (sealedL xs).length = xs.length + 4 := by simp [sealedL, le_len]
def errN : Option Int → Int
  | none => 0
  | some e => e
theorem concat_at {N : Nat} {x y : List Int} (hN : 10 ≤ N) (hx : x.length ≤ 1000000) (hy : y.length ≤ 1000000) : f_38 N [x, y] = some (x ++ y) := by
  obtain ⟨M, rfl⟩ : ∃ m, N = m + 3 := ⟨N - 3, by omega⟩
  have h1 : l_38_0 (M + 3) ([x, y], 0, [x, y], (([x, y] : List (List Int)).length : Int), 0) = some ([x, y], ((x.length + y.length : Nat) : Int)) := by
    unfold l_38_0
    rw [show iter (b_38_0 (M + 3)) (M + 3) = b_38_0 (M + 3) (b_38_0 (M + 3) (b_38_0 (M + 3) (iter (b_38_0 (M + 3)) M))) from rfl]
    generalize iter (b_38_0 (M + 3)) M = T
    unfold b_38_0
    simp only [List.length_cons, List.length_nil]
    have e1 : IntKind.i64.wrap (0 + ((([x, y] : List (List Int)).getD (Int.toNat 0) []).length : Int)) = (x.length : Int) := by
      show IntKind.i64.wrap (0 + (x.length : Int)) = _
      rw [wi64 (by omega) (by omega)]; omega
    have e0 : IntKind.i64.wrap ((0 : Int) + 1) = 1 := by rw [wi64 (by omega) (by omega)]; rfl
    have e2 : IntKind.i64.wrap ((x.length : Int) + ((([x, y] : List (List Int)).getD (Int.toNat 1) []).length : Int)) = ((x.length + y.length : Nat) : Int) := by
      show IntKind.i64.wrap ((x.length : Int) + (y.length : Int)) = _
      rw [wi64 (by omega) (by omega)]; omega
    have e3 : IntKind.i64.wrap ((1 : Int) + 1) = 2 := by rw [wi64 (by omega) (by omega)]; rfl
    rw [e1, e0, e2, e3, decide_eq_false (show ¬ (x.length : Int) < 0 by omega), decide_eq_false (show ¬ ((x.length + y.length : Nat) : Int) < 0 by omega)]
    rfl
  have h2 : l_38_2 (M + 3) (([] : List Int), [x, y], (([x, y] : List (List Int)).length : Int), 0) = some (x ++ y) := by
    unfold l_38_2
    rw [show iter (b_38_2 (M + 3)) (M + 3) = b_38_2 (M + 3) (b_38_2 (M + 3) (b_38_2 (M + 3) (iter (b_38_2 (M + 3)) M))) from rfl]
    generalize iter (b_38_2 (M + 3)) M = T
    unfold b_38_2
    simp only [List.length_cons, List.length_nil]
    have e0 : IntKind.i64.wrap ((0 : Int) + 1) = 1 := by rw [wi64 (by omega) (by omega)]; rfl
    have e3 : IntKind.i64.wrap ((1 : Int) + 1) = 2 := by rw [wi64 (by omega) (by omega)]; rfl
    have g0 : ([x, y] : List (List Int)).getD (Int.toNat 0) [] = x := rfl
    have g1 : ([x, y] : List (List Int)).getD (Int.toNat 1) [] = y := rfl
    rw [e0, e3, g0, g1, List.nil_append, decide_eq_true (show (0 + x.length) * 1 ≤ 140737488355328 by omega), decide_eq_true (show (x.length + y.length) * 1 ≤ 140737488355328 by omega)]
    rfl
  unfold f_38
  rw [h1]
  simp only [Option.bind_some]
  have hg : growF 1 ((x.length + y.length : Nat) : Int) = some (x.length + y.length) := by
    unfold growF
    rw [Int.toNat_natCast, decide_eq_true (by omega), decide_eq_true (by omega), decide_eq_true (by omega)]; rfl
  rw [hg]
  simp only [Option.bind_some]
  rw [h2]
  rfl
theorem beq_loop (N : Nat) {x y : List Int} (hl : x.length = y.length) (hx : x.length ≤ 1000000) : ∀ (k M i : Nat), i + k = x.length → k < M → iter (b_52_0 N) M (x, y, (x.length : Int), (i : Int)) = bif (x.drop i == y.drop i) then some (.inr ()) else some (.inl false) := by
  intro k
  induction k with
  | zero =>
    intro M i hi hM
    obtain ⟨M, rfl⟩ : ∃ m, M = m + 1 := ⟨M - 1, by omega⟩
    show b_52_0 N (iter (b_52_0 N) M) _ = _
    generalize iter (b_52_0 N) M = T
    unfold b_52_0
    simp only
    rw [decide_eq_false (show ¬ (i : Int) < (x.length : Int) by omega), List.drop_eq_nil_of_le (by omega), List.drop_eq_nil_of_le (by omega)]; rfl
  | succ k ih =>
    intro M i hi hM
    obtain ⟨M, rfl⟩ : ∃ m, M = m + 1 := ⟨M - 1, by omega⟩
    have key := ih M (i + 1) (by omega) (by omega)
    show b_52_0 N (iter (b_52_0 N) M) _ = _
    generalize iter (b_52_0 N) M = T at key ⊢
    have h1 : i < x.length := by omega
    have h2 : i < y.length := by omega
    have g1 : x.getD (Int.toNat (i : Int)) 0 = x[i] := by rw [Int.toNat_natCast, List.getD_eq_getElem?_getD, List.getElem?_eq_getElem h1]; rfl
    have g2 : y.getD (Int.toNat (i : Int)) 0 = y[i] := by rw [Int.toNat_natCast, List.getD_eq_getElem?_getD, List.getElem?_eq_getElem h2]; rfl
    unfold b_52_0
    simp only
    rw [decide_eq_true (show (i : Int) < (x.length : Int) by omega), decide_eq_true (show 0 ≤ (i : Int) ∧ (i : Int) < (x.length : Int) by omega), decide_eq_true (show 0 ≤ (i : Int) ∧ (i : Int) < (y.length : Int) by omega), g1, g2, wi64 (by omega) (by omega), show (i : Int) + 1 = ((i + 1 : Nat) : Int) by omega, key, List.drop_eq_getElem_cons h1, List.drop_eq_getElem_cons h2]
    simp only [cond_true, List.cons_beq_cons]
    by_cases e : x[i] = y[i]
    · rw [e]; simp
    · have e' : (x[i] == y[i]) = false := by simpa using e
      simp [bne, e']
theorem beq_at {N : Nat} {x y : List Int} (hx : x.length ≤ 1000000) (hN : x.length + 10 ≤ N) : f_52 N x y = some (x == y) := by
  unfold f_52 l_52_0
  by_cases hl : x.length = y.length
  · have h := beq_loop N hl hx x.length N 0 (by omega) (by omega)
    rw [show ((0 : Nat) : Int) = 0 from rfl] at h
    rw [h, show ((x.length : Int) != (y.length : Int)) = false by rw [hl]; simp]
    simp only [cond_false, List.drop_zero]
    cases x == y <;> rfl
  · rw [show ((x.length : Int) != (y.length : Int)) = true by simp; omega]
    have : (x == y) = false := by
      cases h : x == y with
      | false => rfl
      | true => exact absurd (congrArg List.length (eq_of_beq h)) hl
    rw [this]; rfl
theorem cseal_at {N : Nat} {xs : List Int} (hb : By xs) (hx : xs.length ≤ 100000) (hN : xs.length + 10 ≤ N) : f_37 N xs = some (sealedL xs) := by
  have hs := crcS_lt hb
  unfold f_37
  rw [sum_at hb (by omega) hN]
  simp only [Option.bind_some]
  rw [show (2 : Int) ^ (min (Int.toNat 8) IntKind.u32.bits) = 256 from rfl, show (2 : Int) ^ (min (Int.toNat 16) IntKind.u32.bits) = 65536 from rfl, show (2 : Int) ^ (min (Int.toNat 24) IntKind.u32.bits) = 16777216 from rfl, concat_at (by omega) (by omega) (by simp)]
  simp only [Option.bind_some]
  unfold sealedL le le le le le
  simp only [IntKind.wrap_u8]
  rw [show crcS xs / 256 / 256 = crcS xs / 65536 by omega, show crcS xs / 65536 / 256 = crcS xs / 16777216 by omega]
def openedD (xs : List Int) : Option (List Int) := if 4 ≤ xs.length ∧ sealedL (xs.take (xs.length - 4)) = xs then some (xs.take (xs.length - 4)) else none
theorem copen_at {N : Nat} {xs : List Int} (hb : By xs) (hx : xs.length ≤ 100000) (hN : xs.length + 10 ≤ N) : f_40 N xs = some (match openedD xs with | some o => (o, none) | none => ([], some 4)) := by
  unfold f_40 openedD
  rw [wi64 (n := (xs.length : Int) - 4) (by omega) (by omega)]
  by_cases h4 : 4 ≤ xs.length
  · rw [show (xs.length : Int) - 4 = ((xs.length - 4 : Nat) : Int) by omega, decide_eq_false (show ¬ ((xs.length - 4 : Nat) : Int) < 0 by omega), decide_eq_true (show 0 ≤ ((xs.length - 4 : Nat) : Int) ∧ ((xs.length - 4 : Nat) : Int) ≤ (xs.length : Int) by omega), decide_eq_true (show 0 ≤ (0 : Int) ∧ (0 : Int) ≤ ((xs.length - 4 : Nat) : Int) by omega)]
    simp only [cond_false, cond_true, Int.toNat_natCast, Int.toNat_zero, List.drop_zero]
    rw [cseal_at (hb.take _) (by rw [List.length_take]; omega) (by rw [List.length_take]; omega)]
    simp only [Option.bind_some]
    rw [beq_at (by rw [sealedL_len, List.length_take]; omega) (by rw [sealedL_len, List.length_take]; omega)]
    simp only [Option.bind_some]
    by_cases he : sealedL (xs.take (xs.length - 4)) = xs
    · rw [if_pos ⟨h4, he⟩, he]
      simp only [beq_self_eq_true, Bool.not_true, cond_false]
      rw [clone_at (by rw [List.length_take]; omega)]
      rfl
    · rw [if_neg (fun h => he h.2), show (sealedL (xs.take (xs.length - 4)) == xs) = false by simpa using he]; rfl
  · rw [if_neg (fun h => h4 h.1), decide_eq_true (show (xs.length : Int) - 4 < 0 by omega)]; rfl
theorem openedD_seal (xs : List Int) : openedD (sealedL xs) = some xs := by
  unfold openedD
  rw [sealedL_len, show xs.length + 4 - 4 = xs.length by omega, show (sealedL xs).take xs.length = xs from by unfold sealedL; simp]
  rw [if_pos ⟨by omega, rfl⟩]
def kindOk (k : Int) : Bool := decide (k ≥ 1) && decide (k ≤ 6)
theorem kinded_at (N : Nat) (k : Int) : f_36 N k = some (kindOk k) := by
  unfold f_36 kindOk
  cases decide (k ≥ 1) <;> rfl
def headL (k : Int) (b : List Int) : List Int := [116, 109, k] ++ le 2 (b.length : Int)
def sealD (k : Int) (b : List Int) : List Int × Option Int := if kindOk k = true then (if b.length > 1024 then ([], some 5) else (sealedL (headL k b ++ b), none)) else ([], some 1)
theorem headL_by {k : Int} (h0 : 0 ≤ k) (h1 : k < 256) (b : List Int) : By (headL k b) := (By.cons (by omega) (By.cons (by omega) (By.cons ⟨h0, h1⟩ By.nil))).append (le_by _ _)
theorem kindOk_lt {k : Int} (h : kindOk k = true) : 1 ≤ k ∧ k ≤ 6 := by simpa [kindOk] using h
theorem bseal_at {N : Nat} {k : Int} {b : List Int} (hb : By b) (hN : 2000 ≤ N) : f_22 N k b = some (sealD k b) := by
  unfold f_22 sealD
  rw [kinded_at]
  simp only [Option.bind_some]
  cases hk : kindOk k with
  | false => rfl
  | true =>
    have hk' := kindOk_lt hk
    simp only [Bool.not_true, cond_false, if_true]
    by_cases hl : b.length > 1024
    · rw [if_pos hl, decide_eq_true (show (b.length : Int) > 1024 by omega)]; rfl
    · rw [if_neg hl, decide_eq_false (show ¬ (b.length : Int) > 1024 by omega), decide_eq_true (show (([116, 109] : List Int).length + ([k] : List Int).length) * 1 ≤ 140737488355328 by simp), wu16 (by omega) (by omega), pu16_at (by omega) (by simp) (by omega) (by omega)]
      simp only [cond_false, cond_true, Option.bind_some]
      rw [concat_at (by omega) (by simp [le_len]) (by omega)]
      simp only [Option.bind_some]
      have e : ([116, 109] ++ [k] ++ le 2 (b.length : Int)) ++ b = headL k b ++ b := by simp [headL]
      rw [e, cseal_at ((headL_by (by omega) (by omega) b).append hb) (by simp [headL, le_len]; omega) (by simp [headL, le_len]; omega)]
      rfl
end Go.Proofs.YtihignmcjldiiaaDoor.Mir
namespace Go.Proofs.YtihignmcjldiiaaDoor.Mir
open Go Go.RowKit
set_option maxRecDepth 100000
def kindD : List Int → Option (Int × Int)
  | a :: b :: k :: l :: h :: _ => if a = 116 ∧ b = 109 ∧ kindOk k = true ∧ l + 256 * h ≤ 1024 then some (k, 9 + (l + 256 * h)) else none
  | _ => none
theorem new_at (N : Nat) {b : List Int} (hb : b.length ≤ 1000000) : f_24 N b = some ((), (b, false)) := by
  unfold f_24
  rw [clone_at hb]; rfl
theorem bkind_at {N : Nat} {xs : List Int} (hb : By xs) (hx : xs.length ≤ 100000) : f_39 N xs = some (match kindD xs with | some q => (q.1, q.2, none) | none => (0, 0, some 3)) := by
  rcases xs with _ | ⟨a, _ | ⟨b, _ | ⟨k, _ | ⟨l, _ | ⟨h, r⟩⟩⟩⟩⟩
  · rfl
  · rfl
  · rfl
  · rfl
  · rfl
  · have ha := hb a (by simp)
    have hbb := hb b (by simp)
    have hk := hb k (by simp)
    have hl := hb l (by simp)
    have hh := hb h (by simp)
    have h2 : By [a, b] := By.cons ha (By.cons hbb By.nil)
    have hlh : By [l, h] := By.cons hl (By.cons hh By.nil)
    have hlen : ((a :: b :: k :: l :: h :: r).length : Int) = (r.length : Int) + 5 := by simp; omega
    unfold f_39 kindD
    rw [hlen, decide_eq_false (show ¬ (r.length : Int) + 5 < 5 by omega), decide_eq_true (show 0 ≤ (2 : Int) ∧ (2 : Int) ≤ (r.length : Int) + 5 by omega), decide_eq_true (show 0 ≤ (0 : Int) ∧ (0 : Int) ≤ (2 : Int) by omega), decide_eq_true (show 0 ≤ (2 : Int) ∧ (2 : Int) < (r.length : Int) + 5 by omega), decide_eq_true (show 0 ≤ (5 : Int) ∧ (5 : Int) ≤ (r.length : Int) + 5 by omega), decide_eq_true (show 0 ≤ (3 : Int) ∧ (3 : Int) ≤ (5 : Int) by omega)]
    rw [show List.drop (Int.toNat (0 : Int)) (List.take (Int.toNat (2 : Int)) (a :: b :: k :: l :: h :: r)) = [a, b] from rfl, show List.drop (Int.toNat (3 : Int)) (List.take (Int.toNat (5 : Int)) (a :: b :: k :: l :: h :: r)) = [l, h] from rfl, show (a :: b :: k :: l :: h :: r).getD (Int.toNat 2) 0 = k from rfl, show (⟨#[116, 109]⟩ : ByteArray) = bytesS [116, 109] from rfl, bytesS_eq h2 (By.cons (by omega) (By.cons (by omega) By.nil)), kinded_at, new_at N (by simp)]
    simp only [cond_true, cond_false, Option.bind_some]
    rw [u16_at N hlh]
    simp only [Option.bind_some]
    have ht : (tk 2 ([l, h], false)).1 = l + 256 * h := by
      unfold tk
      rw [if_neg (by simp)]
      simp [ofLe]
    rw [ht, wi64 (n := l + 256 * h) (by omega) (by omega), wi64 (n := 5 + (l + 256 * h)) (by omega) (by omega), wi64 (by omega) (by omega)]
    by_cases e1 : a = 116 ∧ b = 109
    · obtain ⟨rfl, rfl⟩ := e1
      simp only [beq_self_eq_true, Bool.not_true, cond_false, true_and]
      cases hko : kindOk k with
      | false => simp
      | true =>
        simp only [Bool.not_true, cond_false, true_and]
        by_cases e2 : l + 256 * h > 1024
        · rw [decide_eq_true e2, if_neg (by omega)]; rfl
        · rw [decide_eq_false e2, if_pos (by omega)]
          simp only [cond_false]
          rw [show 5 + (l + 256 * h) + 4 = 9 + (l + 256 * h) by omega]
    · rw [if_neg (fun h => e1 ⟨h.1, h.2.1⟩), show (([a, b] : List Int) == [116, 109]) = false by simpa using e1]; rfl
def openD (k : Int) (xs : List Int) : List Int × Option Int :=
  if kindOk k = true then (match kindD xs with
    | none => ([], some 3)
    | some q => if q.1 = k ∧ q.2 = (xs.length : Int) then (match openedD xs with
      | none => ([], some 4)
      | some o => (o.drop 5, none)) else ([], some 3)) else ([], some 1)
theorem opened_len {xs o : List Int} (h : openedD xs = some o) : o = xs.take (xs.length - 4) ∧ 4 ≤ xs.length := by
  unfold openedD at h
  split at h
  · rename_i h'
    exact ⟨(Option.some.inj h).symm, h'.1⟩
  · cases h
theorem kindD_len {xs : List Int} {q : Int × Int} (hb : By xs) (h : kindD xs = some q) : 9 ≤ q.2 ∧ q.2 ≤ 1033 := by
  unfold kindD at h
  split at h
  · rename_i a b k l hh r
    split at h
    · rename_i h'
      obtain rfl := Option.some.inj h
      have h1 := hb l (by simp)
      have h2 := hb hh (by simp)
      simp only; omega
    · cases h
  · cases h
theorem openD_by {k : Int} {xs : List Int} (hb : By xs) : By (openD k xs).1 := by
  unfold openD
  split
  · split
    · exact By.nil
    · split
      · split
        · exact By.nil
        · rename_i o ho
          rw [(opened_len ho).1]
          exact (hb.take _).drop _
      · exact By.nil
  · exact By.nil
theorem bopen_at {N : Nat} {k : Int} {xs : List Int} (hb : By xs) (hx : xs.length ≤ 100000) (hN : xs.length + 10 ≤ N) : f_23 N k xs = some (openD k xs) := by
  unfold f_23 openD
  rw [kinded_at]
  simp only [Option.bind_some]
  cases hk : kindOk k with
  | false => rfl
  | true =>
    simp only [Bool.not_true, cond_false, if_true]
    rw [bkind_at hb hx]
    simp only [Option.bind_some]
    cases hq : kindD xs with
    | none => rfl
    | some q =>
      simp only [Option.isNone_none, Bool.not_true, cond_false]
      by_cases e1 : q.1 = k
      · by_cases e2 : q.2 = (xs.length : Int)
        · rw [if_pos ⟨e1, e2⟩, show (q.1 != k) = false by simp [e1], show (q.2 != (xs.length : Int)) = false by simp [e2]]
          simp only [cond_false]
          rw [copen_at hb hx hN]
          simp only [Option.bind_some]
          cases ho : openedD xs with
          | none => rfl
          | some o =>
            obtain ⟨rfl, h4⟩ := opened_len ho
            have h9 := kindD_len hb hq
            have hl : (xs.take (xs.length - 4)).length = xs.length - 4 := by rw [List.length_take]; omega
            simp only [Option.isNone_none, Bool.not_true, cond_false, Int.toNat_natCast]
            rw [decide_eq_true (show 0 ≤ ((xs.take (xs.length - 4)).length : Int) ∧ ((xs.take (xs.length - 4)).length : Int) ≤ ((xs.take (xs.length - 4)).length : Int) by omega), decide_eq_true (show 0 ≤ (5 : Int) ∧ (5 : Int) ≤ ((xs.take (xs.length - 4)).length : Int) by omega)]
            simp only [cond_true]
            rw [List.take_length]
            rfl
        · rw [if_neg (fun h => e2 h.2), show (q.1 != k) = false by simp [e1], show (q.2 != (xs.length : Int)) = true by simpa using e2]; rfl
      · rw [if_neg (fun h => e1 h.1), show (q.1 != k) = true by simpa using e1]; rfl
theorem openD_seal {k : Int} {b : List Int} (hk : kindOk k = true) (hl : b.length ≤ 1024) : openD k (sealedL (headL k b ++ b)) = (b, none) := by
  have hkk := kindOk_lt hk
  have hlen : (sealedL (headL k b ++ b)).length = b.length + 9 := by rw [sealedL_len]; simp [headL, le_len]; omega
  have hkd : kindD (sealedL (headL k b ++ b)) = some (k, (b.length : Int) + 9) := by
    unfold sealedL headL le le le
    show (if (116 : Int) = 116 ∧ (109 : Int) = 109 ∧ kindOk k = true ∧ (b.length : Int) % 256 + 256 * ((b.length : Int) / 256 % 256) ≤ 1024 then some (k, 9 + ((b.length : Int) % 256 + 256 * ((b.length : Int) / 256 % 256))) else none) = _
    rw [show (b.length : Int) % 256 + 256 * ((b.length : Int) / 256 % 256) = (b.length : Int) by omega, if_pos ⟨rfl, rfl, hk, by omega⟩]
    congr 2; omega
  unfold openD
  rw [if_pos hk, hkd]
  simp only
  rw [if_pos ⟨trivial, by rw [hlen]; omega⟩, openedD_seal]
  simp [headL, le]
end Go.Proofs.YtihignmcjldiiaaDoor.Mir
namespace Go.Proofs.YtihignmcjldiiaaDoor.Mir
open Go Go.RowKit
set_option maxRecDepth 100000
abbrev RdSt := List Int × Bool
def ruleB (r : Rul) : List Int := le 8 (IntKind.u64.wrap r.1) ++ (le 8 (IntKind.u64.wrap r.2.1) ++ (le 1 (r.2.2.size : Int) ++ bytesL r.2.2))
def rulesB : List Rul → List Int
  | [] => []
  | r :: L => ruleB r ++ rulesB L
def zoneB (n : ByteArray) (f : Int) (L : List Rul) : List Int := le 1 (n.size : Int) ++ bytesL n ++ le 8 (IntKind.u64.wrap f) ++ le 1 (L.length : Int) ++ rulesB L
def zencD (n : ByteArray) (f : Int) (L : List Rul) : List Int × Option Int := if mayZ n f L = true then sealD 6 (zoneB n f L) else ([], some 1)
theorem ruleB_by (r : Rul) : By (ruleB r) := (le_by _ _).append ((le_by _ _).append ((le_by _ _).append (bytesL_by _)))
theorem rulesB_by : ∀ L : List Rul, By (rulesB L)
  | [] => By.nil
  | r :: L => (ruleB_by r).append (rulesB_by L)
theorem zoneB_by (n : ByteArray) (f : Int) (L : List Rul) : By (zoneB n f L) := ((((le_by _ _).append (bytesL_by _)).append (le_by _ _)).append (le_by _ _)).append (rulesB_by L)
theorem rulesB_len : ∀ {L : List Rul}, (∀ r ∈ L, r.2.2.size ≤ 12) → (rulesB L).length ≤ L.length * 29
  | [], _ => by simp [rulesB]
  | r :: L, h => by
    have := rulesB_len (L := L) (fun x hx => h x (by simp [hx]))
    have hr := h r (by simp)
    simp only [rulesB, ruleB, List.length_append, le_len, bytesL_len, List.length_cons]
    omega
theorem allFrom_get {L : List Rul} : ∀ (k i : Nat), allFrom L i k = true → ∀ j, i ≤ j → j < i + k → okAt L j = true
  | 0, i, _, j, h1, h2 => by omega
  | k + 1, i, h, j, h1, h2 => by
    simp only [allFrom, Bool.and_eq_true] at h
    rcases Nat.eq_or_lt_of_le h1 with rfl | h3
    · exact h.1
    · exact allFrom_get k (i + 1) h.2 j h3 (by omega)
theorem nameB_size {s : ByteArray} (h : nameB s = true) : 1 ≤ s.size ∧ s.size ≤ 12 := by
  simp only [nameB, Bool.and_eq_true, decide_eq_true_eq] at h
  exact ⟨h.1, h.2.1⟩
theorem offB_rng {n : Int} (h : offB n = true) : -86399 ≤ n ∧ n ≤ 86399 := by simpa [offB] using h
structure ZOk (n : ByteArray) (f : Int) (L : List Rul) : Prop where
  nm : n.size ≤ 12
  off : -86399 ≤ f ∧ f ≤ 86399
  len : L.length ≤ 32
  rule : ∀ r ∈ L, r.2.2.size ≤ 12 ∧ (-86399 ≤ r.2.1 ∧ r.2.1 ≤ 86399) ∧ (-1099511627776 ≤ r.1 ∧ r.1 ≤ 1099511627776)
theorem mayZ_ok {n : ByteArray} {f : Int} {L : List Rul} (h : mayZ n f L = true) : ZOk n f L := by
  simp only [mayZ, Bool.and_eq_true, decide_eq_true_eq] at h
  obtain ⟨h1, h2, h3, h4⟩ := h
  refine ⟨(nameB_size h1).2, offB_rng h2, by omega, fun r hr => ?_⟩
  obtain ⟨i, hi, e⟩ := List.mem_iff_getElem.1 hr
  have hk := allFrom_get _ _ h4 i (Nat.zero_le _) (by omega)
  have eg : gR L i = r := by unfold gR; rw [List.getD_eq_getElem?_getD, List.getElem?_eq_getElem hi, e]; rfl
  unfold okAt at hk
  rw [eg] at hk
  simp only [Bool.and_eq_true, Bool.not_eq_true', decide_eq_false_iff_not] at hk
  exact ⟨(nameB_size hk.1).2, offB_rng hk.2.1, by omega⟩
theorem zoneB_len {n : ByteArray} {f : Int} {L : List Rul} (h : ZOk n f L) : (zoneB n f L).length ≤ 1000 := by
  have := rulesB_len (L := L) (fun r hr => (h.rule r hr).1)
  have h1 := h.nm
  have h2 := h.len
  simp only [zoneB, List.length_append, le_len, bytesL_len]
  omega
theorem u64_le8 (v : Int) : 0 ≤ IntKind.u64.wrap v ∧ IntKind.u64.wrap v < 18446744073709551616 := wu64_lt v
theorem zenc_loop {N : Nat} (hN : 3000 ≤ N) {L : List Rul} (hL : L.length ≤ 32) (hr : ∀ r ∈ L, r.2.2.size ≤ 12) : ∀ (k M i : Nat) (b : List Int), i + k = L.length → k < M → b.length + k * 29 ≤ 2000 →
    iter (b_18_0 N) M (b, L, (L.length : Int), (i : Int)) = some (.inr (b ++ rulesB (L.drop i))) := by
  intro k
  induction k with
  | zero =>
    intro M i b hi hM hb
    obtain ⟨M, rfl⟩ : ∃ m, M = m + 1 := ⟨M - 1, by omega⟩
    show b_18_0 N (iter (b_18_0 N) M) _ = _
    generalize iter (b_18_0 N) M = T
    unfold b_18_0
    simp only
    rw [decide_eq_false (show ¬ (i : Int) < (L.length : Int) by omega), List.drop_eq_nil_of_le (by omega)]
    simp [rulesB]
  | succ k ih =>
    intro M i b hi hM hb
    obtain ⟨M, rfl⟩ : ∃ m, M = m + 1 := ⟨M - 1, by omega⟩
    have hi' : i < L.length := by omega
    have hm := hr _ (List.getElem_mem hi')
    have eg : L.getD (Int.toNat (i : Int)) (0, 0, ByteArray.empty) = L[i] := by rw [Int.toNat_natCast, List.getD_eq_getElem?_getD, List.getElem?_eq_getElem hi']; rfl
    have hl : (b ++ ruleB L[i]).length = b.length + 17 + L[i].2.2.size := by simp only [ruleB, List.length_append, le_len, bytesL_len]; omega
    have key := ih M (i + 1) (b ++ ruleB L[i]) (by omega) (by omega) (by omega)
    show b_18_0 N (iter (b_18_0 N) M) _ = _
    generalize iter (b_18_0 N) M = T at key ⊢
    unfold b_18_0
    simp only
    rw [decide_eq_true (show (i : Int) < (L.length : Int) by omega), decide_eq_true (show 0 ≤ (i : Int) ∧ (i : Int) < (L.length : Int) by omega), eg]
    simp only [cond_true]
    rw [pi64_at (by omega) (by omega)]
    simp only [Option.bind_some]
    rw [pi64_at (by omega) (by rw [List.length_append, le_len]; omega)]
    simp only [Option.bind_some]
    rw [ftext_at (by omega) (by rw [List.length_append, List.length_append, le_len, le_len]; omega), if_neg (by omega)]
    simp only [Option.bind_some, Option.isNone_none, Bool.not_true, cond_false]
    rw [wi64 (by omega) (by omega), show (i : Int) + 1 = ((i + 1 : Nat) : Int) by omega]
    have e : b ++ le 8 (IntKind.u64.wrap L[i].1) ++ le 8 (IntKind.u64.wrap L[i].2.1) ++ le 1 (L[i].2.2.size : Int) ++ bytesL L[i].2.2 = b ++ ruleB L[i] := by simp [ruleB]
    rw [e, key, List.drop_eq_getElem_cons hi', rulesB, List.append_assoc]
theorem zenc_at {N : Nat} (hN : 3000 ≤ N) {n : ByteArray} {f : Int} {L : List Rul} (hL : L.length ≤ 60) : f_18 N n f L = some (zencD n f L) := by
  unfold f_18 zencD
  rw [check_at (by omega) (by omega)]
  simp only [Option.bind_some]
  cases hm : mayZ n f L with
  | false => rfl
  | true =>
    have hz := mayZ_ok hm
    have h1 := hz.nm
    have h2 := hz.len
    simp only [cond_true, Option.isNone_none, Bool.not_true, cond_false, if_true]
    rw [ftext_at (by omega) (by simp), if_neg (by omega)]
    simp only [Option.bind_some, Option.isNone_none, Bool.not_true, cond_false]
    have hl1 : ([] ++ le 1 (n.size : Int) ++ bytesL n).length = n.size + 1 := by simp [le_len, bytesL_len]; omega
    rw [pi64_at (by omega) (by omega)]
    simp only [Option.bind_some]
    have hl2 : ([] ++ le 1 (n.size : Int) ++ bytesL n ++ le 8 (IntKind.u64.wrap f)).length = n.size + 9 := by rw [List.length_append, hl1, le_len]
    have e2 : ([] ++ le 1 (n.size : Int) ++ bytesL n ++ le 8 (IntKind.u64.wrap f) ++ le 1 (L.length : Int)) ++ rulesB L = zoneB n f L := by simp [zoneB]
    generalize ([] : List Int) ++ le 1 (n.size : Int) ++ bytesL n ++ le 8 (IntKind.u64.wrap f) = B at hl2 e2 ⊢
    rw [decide_eq_true (show (B.length + ([IntKind.u8.wrap (L.length : Int)] : List Int).length) * 1 ≤ 140737488355328 by rw [hl2]; simp; omega)]
    simp only [cond_true]
    have e1 : ([IntKind.u8.wrap (L.length : Int)] : List Int) = le 1 (L.length : Int) := by rw [IntKind.wrap_u8]; rfl
    have h := zenc_loop hN h2 (fun r hr => (hz.rule r hr).1) L.length N 0 (B ++ le 1 (L.length : Int)) (by omega) (by omega) (by rw [List.length_append, hl2, le_len]; omega)
    rw [show ((0 : Nat) : Int) = 0 from rfl, List.drop_zero] at h
    unfold l_18_0
    rw [e1, h]
    simp only [Option.bind_some]
    rw [e2, bseal_at (zoneB_by n f L) (by omega)]
    rfl
end Go.Proofs.YtihignmcjldiiaaDoor.Mir
namespace Go.Proofs.YtihignmcjldiiaaDoor.Mir
open Go Go.RowKit
set_option maxRecDepth 100000
def rdRule (s : RdSt) : Rul × RdSt := ((IntKind.i64.wrap (tk 8 s).1, IntKind.i64.wrap (tk 8 (tk 8 s).2).1, (txt (tk 8 (tk 8 s).2).2).1), (txt (tk 8 (tk 8 s).2).2).2)
def rdRules : Nat → RdSt → List Rul × RdSt
  | 0, s => ([], s)
  | k + 1, s => ((rdRule s).1 :: (rdRules k (rdRule s).2).1, (rdRules k (rdRule s).2).2)
theorem rdRule_by {s : RdSt} (h : By s.1) : By (rdRule s).2.1 := txt_by (tk_by (tk_by h))
theorem tk_len {n : Nat} {s : RdSt} : (tk n s).2.1.length ≤ s.1.length := by
  unfold tk; split
  · simp
  · simp
theorem txt_len {s : RdSt} : (txt s).2.1.length ≤ s.1.length := by
  have := tk_len (n := 1) (s := s)
  unfold txt; split
  · simp
  · simp only [List.length_drop]; omega
theorem rdRule_len {s : RdSt} : (rdRule s).2.1.length ≤ s.1.length := Nat.le_trans txt_len (Nat.le_trans tk_len tk_len)
theorem rdRules_len : ∀ (k : Nat) (s : RdSt), (rdRules k s).1.length = k
  | 0, _ => rfl
  | k + 1, s => by simp [rdRules, rdRules_len k]
theorem zdec_loop {N : Nat} (c : Nat) (hc : c < 256) (z : ByteArray × Int × List Rul) (n : ByteArray) (f : Int) : ∀ (k M i : Nat) (s : RdSt) (acc : List Rul), i + k = c → k < M → By s.1 → acc.length + k ≤ 300 →
    iter (b_29_0 N) M ((), (), (), (c : Int), (i : Int), z, (n, f, acc), s) = some ((), (), (), z, (n, f, acc ++ (rdRules k s).1), (rdRules k s).2) := by
  intro k
  induction k with
  | zero =>
    intro M i s acc hi hM hb ha
    obtain ⟨M, rfl⟩ : ∃ m, M = m + 1 := ⟨M - 1, by omega⟩
    show b_29_0 N (iter (b_29_0 N) M) _ = _
    generalize iter (b_29_0 N) M = T
    unfold b_29_0
    simp only
    rw [decide_eq_false (show ¬ (i : Int) < (c : Int) by omega)]
    simp [rdRules]
  | succ k ih =>
    intro M i s acc hi hM hb ha
    obtain ⟨M, rfl⟩ : ∃ m, M = m + 1 := ⟨M - 1, by omega⟩
    have key := ih M (i + 1) (rdRule s).2 (acc ++ [(rdRule s).1]) (by omega) (by omega) (rdRule_by hb) (by simp; omega)
    show b_29_0 N (iter (b_29_0 N) M) _ = _
    generalize iter (b_29_0 N) M = T at key ⊢
    obtain ⟨xs, bd⟩ := s
    unfold b_29_0
    simp only
    rw [decide_eq_true (show (i : Int) < (c : Int) by omega), cond_true, i64_at N hb]
    simp only [Option.bind_some]
    rw [i64_at N (tk_by hb)]
    simp only [Option.bind_some]
    rw [text_at N (tk_by (tk_by hb))]
    simp only [Option.bind_some]
    rw [decide_eq_true (by simp; omega), cond_true, wu8 (by omega) (by omega), show (i : Int) + 1 = ((i + 1 : Nat) : Int) by omega]
    refine Eq.trans key ?_
    simp [rdRules]
def zdec1 (s : RdSt) : ByteArray × Int × List Rul × RdSt :=
  ((txt s).1, IntKind.i64.wrap (tk 8 (txt s).2).1, (rdRules (tk 1 (tk 8 (txt s).2).2).1.toNat (tk 1 (tk 8 (txt s).2).2).2).1, (rdRules (tk 1 (tk 8 (txt s).2).2).1.toNat (tk 1 (tk 8 (txt s).2).2).2).2)
def zdecD (xs : List Int) : (ByteArray × Int × List Rul) × Option Int :=
  match (openD 6 xs).2 with
  | some e => ((ByteArray.empty, 0, []), some e)
  | none => if (zdec1 ((openD 6 xs).1, false)).2.2.2.2 = true ∨ (zdec1 ((openD 6 xs).1, false)).2.2.2.1 ≠ [] ∨ mayZ (zdec1 ((openD 6 xs).1, false)).1 (zdec1 ((openD 6 xs).1, false)).2.1 (zdec1 ((openD 6 xs).1, false)).2.2.1 = false then ((ByteArray.empty, 0, []), some 3)
    else (((zdec1 ((openD 6 xs).1, false)).1, (zdec1 ((openD 6 xs).1, false)).2.1, (zdec1 ((openD 6 xs).1, false)).2.2.1), none)
theorem openD_len {k : Int} {xs : List Int} : (openD k xs).1.length ≤ xs.length := by
  unfold openD
  split
  · split
    · simp
    · split
      · split
        · simp
        · rename_i o ho
          rw [(opened_len ho).1]
          simp only [List.length_drop, List.length_take]; omega
      · simp
  · simp
theorem done_at (N : Nat) (s : RdSt) : ∃ q, f_44 N s.1 s.2 = some (if s.2 = true ∨ s.1 ≠ [] then some 3 else none, q) := by
  obtain ⟨xs, bd⟩ := s
  unfold f_44
  cases bd with
  | true => exact ⟨_, by rw [if_pos (.inl rfl)]; rfl⟩
  | false =>
    cases xs with
    | nil => exact ⟨_, by rw [if_neg (by simp)]; rfl⟩
    | cons x xs => exact ⟨_, by rw [if_pos (.inr (by simp)), decide_eq_true (by simp)]; rfl⟩
theorem rdRules_by : ∀ (k : Nat) {s : RdSt}, By s.1 → By (rdRules k s).2.1
  | 0, _, h => h
  | k + 1, _, h => rdRules_by k (rdRule_by h)
theorem tk1_lt {s : RdSt} (h : By s.1) : (tk 1 s).1.toNat < 256 ∧ ((tk 1 s).1.toNat : Int) = (tk 1 s).1 := by
  have := tk_lt (n := 1) h
  constructor <;> omega
theorem bytesS_size (l : List Int) : (bytesS l).size = l.length := by
  show (l.map _).toArray.size = _
  simp
theorem txt_size {s : RdSt} (h : By s.1) : (txt s).1.size ≤ 255 := by
  have := tk1_lt h
  unfold txt; split
  · rw [bytesS_size]; simp
  · rw [bytesS_size, List.length_take]; omega
theorem rdRules_size : ∀ (k : Nat) {s : RdSt}, By s.1 → ∀ r ∈ (rdRules k s).1, r.2.2.size ≤ 255
  | 0, _, _, r, hr => by simp [rdRules] at hr
  | k + 1, s, h, r, hr => by
    simp only [rdRules, List.mem_cons] at hr
    rcases hr with rfl | hr
    · exact txt_size (tk_by (tk_by h))
    · exact rdRules_size k (rdRule_by h) r hr
theorem gR_mem {L : List Rul} {i : Nat} (h : i < L.length) : gR L i ∈ L := by
  unfold gR
  rw [List.getD_eq_getElem?_getD, List.getElem?_eq_getElem h]
  exact List.getElem_mem h
theorem zdec_at {N : Nat} {xs : List Int} (hb : By xs) (hx : xs.length ≤ 1200) (hN : 3000 ≤ N) : f_29 N xs = some (zdecD xs) := by
  unfold f_29 zdecD
  rw [bopen_at hb (by omega) (by omega)]
  have hob := openD_by (k := 6) hb
  have hol := openD_len (k := 6) (xs := xs)
  simp only [Option.bind_some]
  generalize openD 6 xs = o at hob hol ⊢
  obtain ⟨ys, e⟩ := o
  cases e with
  | some e => rfl
  | none =>
    simp only [Option.isNone_none, Bool.not_true, cond_false]
    simp only at hob hol
    rw [new_at N (by omega)]
    simp only [Option.bind_some]
    rw [text_at N hob]
    simp only [Option.bind_some]
    have h1 := txt_by (s := (ys, false)) hob
    rw [show f_26 N (txt (ys, false)).2.1 (txt (ys, false)).2.2 = _ from i64_at N h1]
    simp only [Option.bind_some]
    have h2 := tk_by (n := 8) (s := (txt (ys, false)).2) h1
    rw [show f_25 N (tk 8 (txt (ys, false)).2).2.1 (tk 8 (txt (ys, false)).2).2.2 = _ from u8_at N h2]
    simp only [Option.bind_some]
    have h3 := tk_by (n := 1) (s := (tk 8 (txt (ys, false)).2).2) h2
    obtain ⟨hc1, hc2⟩ := tk1_lt (s := (tk 8 (txt (ys, false)).2).2) h2
    have h := zdec_loop (N := N) (tk 1 (tk 8 (txt (ys, false)).2).2).1.toNat hc1 (ByteArray.empty, 0, []) (txt (ys, false)).1 (IntKind.i64.wrap (tk 8 (txt (ys, false)).2).1) (tk 1 (tk 8 (txt (ys, false)).2).2).1.toNat N 0 (tk 1 (tk 8 (txt (ys, false)).2).2).2 [] (by omega) (by omega) h3 (by simp; omega)
    rw [hc2, show ((0 : Nat) : Int) = 0 from rfl, List.nil_append] at h
    unfold l_29_0
    show Option.bind (iter (b_29_0 N) N ((), (), (), (tk 1 (tk 8 (txt (ys, false)).2).2).1, 0, (ByteArray.empty, 0, []), ((txt (ys, false)).1, IntKind.i64.wrap (tk 8 (txt (ys, false)).2).1, []), (tk 1 (tk 8 (txt (ys, false)).2).2).2)) _ = _
    rw [h]
    simp only [Option.bind_some]
    have hlen := rdRules_len (tk 1 (tk 8 (txt (ys, false)).2).2).1.toNat (tk 1 (tk 8 (txt (ys, false)).2).2).2
    unfold zdec1
    simp only
    generalize rdRules (tk 1 (tk 8 (txt (ys, false)).2).2).1.toNat (tk 1 (tk 8 (txt (ys, false)).2).2).2 = R at hlen ⊢
    obtain ⟨q, hd⟩ := done_at N R.2
    rw [hd]
    simp only [Option.bind_some]
    rw [check_at (by omega) (by omega)]
    by_cases hq : R.2.2 = true ∨ R.2.1 ≠ []
    · rw [if_pos hq, if_pos (by rcases hq with h | h; exact .inl h; exact .inr (.inl h))]; rfl
    · rw [if_neg hq]
      simp only [Option.isNone_none, Bool.not_true, cond_false, Option.bind_some]
      obtain ⟨q1, q2⟩ := not_or.1 hq
      cases hm : mayZ (txt (ys, false)).1 (IntKind.i64.wrap (tk 8 (txt (ys, false)).2).1) R.1 with
      | false => rw [if_pos (.inr (.inr rfl))]; rfl
      | true => rw [if_neg (by simp [q1]; simpa using q2)]; rfl
theorem bytesS_bytesL (s : ByteArray) : bytesS (bytesL s) = s := by
  unfold bytesS bytesL
  have : (s.data.toList.map fun b => (b.toNat : Int)).map (fun n => UInt8.ofNat n.toNat) = s.data.toList := by
    rw [List.map_map]
    conv => rhs; rw [← List.map_id s.data.toList]
    apply List.map_congr_left
    intro b _
    simp
  rw [this]
theorem tk_le {n : Nat} {v : Int} (h0 : 0 ≤ v) (h1 : v < 256 ^ n) (r : List Int) : tk n (le n v ++ r, false) = (v, (r, false)) := by
  unfold tk
  rw [if_neg (by simp [le_len])]
  simp only
  rw [List.take_left' (le_len n v), List.drop_left' (le_len n v), ofLe_le n h0 h1]
theorem txt_le {s : ByteArray} (h : s.size ≤ 255) (r : List Int) : txt (le 1 (s.size : Int) ++ (bytesL s ++ r), false) = (s, (r, false)) := by
  unfold txt
  rw [tk_le (by omega) (by simp; omega)]
  simp only [Bool.false_eq_true, false_or, List.length_append, bytesL_len, Int.toNat_natCast]
  rw [if_neg (by omega), List.take_left' (bytesL_len s), List.drop_left' (bytesL_len s), bytesS_bytesL]
theorem rdRule_le {q : Rul} (h : q.2.2.size ≤ 255) (h1 : -9223372036854775808 ≤ q.1 ∧ q.1 < 9223372036854775808) (h2 : -9223372036854775808 ≤ q.2.1 ∧ q.2.1 < 9223372036854775808) (r : List Int) : rdRule (ruleB q ++ r, false) = (q, (r, false)) := by
  have e : ruleB q ++ r = le 8 (IntKind.u64.wrap q.1) ++ (le 8 (IntKind.u64.wrap q.2.1) ++ (le 1 (q.2.2.size : Int) ++ (bytesL q.2.2 ++ r))) := by simp [ruleB]
  have v1 := wu64_lt q.1
  have v2 := wu64_lt q.2.1
  unfold rdRule
  rw [e, tk_le v1.1 (by simpa using v1.2)]
  simp only
  rw [tk_le v2.1 (by simpa using v2.2)]
  simp only
  rw [txt_le h, wi64_u64 h1.1 h1.2, wi64_u64 h2.1 h2.2]
theorem rdRules_le : ∀ {L : List Rul}, (∀ q ∈ L, q.2.2.size ≤ 255 ∧ (-9223372036854775808 ≤ q.1 ∧ q.1 < 9223372036854775808) ∧ (-9223372036854775808 ≤ q.2.1 ∧ q.2.1 < 9223372036854775808)) → ∀ r : List Int, rdRules L.length (rulesB L ++ r, false) = (L, (r, false))
  | [], _, _ => rfl
  | q :: L, h, r => by
    have hq := h q (by simp)
    have ih := rdRules_le (L := L) (fun x hx => h x (by simp [hx])) r
    simp only [List.length_cons, rdRules, rulesB, List.append_assoc]
    rw [rdRule_le hq.1 hq.2.1 hq.2.2, ih]
theorem zdec1_le {n : ByteArray} {f : Int} {L : List Rul} (h : ZOk n f L) (r : List Int) : zdec1 (zoneB n f L ++ r, false) = (n, f, L, (r, false)) := by
  have h1 := h.nm
  have h2 := h.len
  have h3 := h.off
  have e : zoneB n f L ++ r = le 1 (n.size : Int) ++ (bytesL n ++ (le 8 (IntKind.u64.wrap f) ++ (le 1 (L.length : Int) ++ (rulesB L ++ r)))) := by simp [zoneB]
  have v1 := wu64_lt f
  unfold zdec1
  rw [e, txt_le (by omega)]
  simp only
  rw [tk_le v1.1 (by simpa using v1.2)]
  simp only
  rw [tk_le (by omega) (by simp; omega)]
  simp only [Int.toNat_natCast]
  rw [rdRules_le (fun q hq => by have := h.rule q hq; omega), wi64_u64 (by omega) (by omega)]
theorem zdec_enc {n : ByteArray} {f : Int} {L : List Rul} (h : (zencD n f L).2 = none) : zdecD (zencD n f L).1 = ((n, f, L), none) := by
  unfold zencD at h ⊢
  cases hm : mayZ n f L with
  | false => rw [hm] at h; cases h
  | true =>
    have hz := mayZ_ok hm
    have hl := zoneB_len hz
    have e : sealD 6 (zoneB n f L) = (sealedL (headL 6 (zoneB n f L) ++ zoneB n f L), none) := by
      unfold sealD
      rw [if_pos (by decide), if_neg (by omega)]
    rw [if_pos rfl, e]
    unfold zdecD
    rw [openD_seal (by decide) (by omega)]
    have hd := zdec1_le hz []
    rw [List.append_nil] at hd
    simp only
    rw [hd]
    simp [hm]
theorem zdecD_len {xs : List Int} (hb : By xs) : (zdecD xs).1.2.2.length ≤ 255 := by
  unfold zdecD
  split
  · simp
  · split
    · simp
    · unfold zdec1
      simp only
      rw [rdRules_len]
      have := (tk1_lt (s := (tk 8 (txt ((openD 6 xs).1, false)).2).2) (tk_by (txt_by (openD_by hb)))).1
      omega
end Go.Proofs.YtihignmcjldiiaaDoor.Mir
namespace Go.Proofs.YtihignmcjldiiaaDoor.Mir
open Go Go.RowKit
set_option maxRecDepth 100000
def rulEq : List Rul → List Rul → Bool
  | [], [] => true
  | r :: L, q :: M => (r.1 == q.1 && (r.2.1 == q.2.1 && r.2.2.toList == q.2.2.toList)) && rulEq L M
  | _, _ => false
theorem rulEq_self : ∀ L : List Rul, rulEq L L = true
  | [] => rfl
  | r :: L => by simp [rulEq, rulEq_self L]
theorem rulEq_len : ∀ {L M : List Rul}, L.length ≠ M.length → rulEq L M = false
  | [], [], h => absurd rfl h
  | [], _ :: _, _ => rfl
  | _ :: _, [], _ => rfl
  | r :: L, q :: M, h => by simp only [rulEq]; rw [rulEq_len (by simpa using h), Bool.and_false]
def eqZ (n : ByteArray) (f : Int) (L : List Rul) (n2 : ByteArray) (f2 : Int) (L2 : List Rul) : Bool := (n.toList == n2.toList) && ((f == f2) && rulEq L L2)
theorem eqZ_self (n : ByteArray) (f : Int) (L : List Rul) : eqZ n f L n f L = true := by simp [eqZ, rulEq_self]
theorem req_loop (N : Nat) {L L2 : List Rul} (hl : L.length = L2.length) (hL : L.length ≤ 1000000) : ∀ (k M i : Nat), i + k = L.length → k < M → iter (b_30_0 N) M (L, L2, (L.length : Int), (i : Int)) = bif rulEq (L.drop i) (L2.drop i) then some (.inr ()) else some (.inl false) := by
  intro k
  induction k with
  | zero =>
    intro M i hi hM
    obtain ⟨M, rfl⟩ : ∃ m, M = m + 1 := ⟨M - 1, by omega⟩
    show b_30_0 N (iter (b_30_0 N) M) _ = _
    generalize iter (b_30_0 N) M = T
    unfold b_30_0
    simp only
    rw [decide_eq_false (show ¬ (i : Int) < (L.length : Int) by omega), List.drop_eq_nil_of_le (by omega), List.drop_eq_nil_of_le (by omega)]; rfl
  | succ k ih =>
    intro M i hi hM
    obtain ⟨M, rfl⟩ : ∃ m, M = m + 1 := ⟨M - 1, by omega⟩
    have key := ih M (i + 1) (by omega) (by omega)
    show b_30_0 N (iter (b_30_0 N) M) _ = _
    generalize iter (b_30_0 N) M = T at key ⊢
    have h1 : i < L.length := by omega
    have h2 : i < L2.length := by omega
    have g1 : L.getD (Int.toNat (i : Int)) (0, 0, ByteArray.empty) = L[i] := by rw [Int.toNat_natCast, List.getD_eq_getElem?_getD, List.getElem?_eq_getElem h1]; rfl
    have g2 : L2.getD (Int.toNat (i : Int)) (0, 0, ByteArray.empty) = L2[i] := by rw [Int.toNat_natCast, List.getD_eq_getElem?_getD, List.getElem?_eq_getElem h2]; rfl
    unfold b_30_0
    simp only
    rw [decide_eq_true (show (i : Int) < (L.length : Int) by omega), decide_eq_true (show 0 ≤ (i : Int) ∧ (i : Int) < (L.length : Int) by omega), decide_eq_true (show 0 ≤ (i : Int) ∧ (i : Int) < (L2.length : Int) by omega), g1, g2, wi64 (by omega) (by omega), show (i : Int) + 1 = ((i + 1 : Nat) : Int) by omega, key, List.drop_eq_getElem_cons h1, List.drop_eq_getElem_cons h2]
    simp only [cond_true, rulEq]
    generalize (L[i].1 == L2[i].1 && (L[i].2.1 == L2[i].2.1 && L[i].2.2.toList == L2[i].2.2.toList)) = q
    cases q <;> rfl
theorem req_at {N : Nat} {L L2 : List Rul} (hL : L.length ≤ 1000000) (hN : L.length < N) : f_30 N L L2 = some (rulEq L L2) := by
  unfold f_30 l_30_0
  by_cases hl : L.length = L2.length
  · have h := req_loop N hl hL L.length N 0 (by omega) (by omega)
    rw [show ((0 : Nat) : Int) = 0 from rfl] at h
    rw [h, show ((L.length : Int) != (L2.length : Int)) = false by rw [hl]; simp]
    simp only [cond_false, List.drop_zero]
    cases rulEq L L2 <;> rfl
  · rw [show ((L.length : Int) != (L2.length : Int)) = true by simp; omega, rulEq_len hl]; rfl
end Go.Proofs.YtihignmcjldiiaaDoor.Mir
namespace Go.Proofs.YtihignmcjldiiaaDoor.Mir
open Go Go.RowKit
set_option maxRecDepth 100000
def smayB (k b a : Int) : Bool := bif decide (b < 0) then false else (bif decide (b > 43200) then false else (bif decide (a < 0) then false else (bif decide (a > 43200) then false else (bif k == 0 then (IntKind.i64.wrap (b + a)) == 0 else (bif k == 1 then decide ((IntKind.i64.wrap (b + a)) > 0) else (bif k == 2 then decide ((IntKind.i64.wrap (b + a)) ≥ 3600) else false))))))
theorem schk_at (N : Nat) (k b a : Int) : f_12 N k b a = some (bif smayB k b a then none else some 1) := by
  unfold f_12 smayB
  generalize decide (b < 0) = d1
  generalize decide (b > 43200) = d2
  generalize decide (a < 0) = d3
  generalize decide (a > 43200) = d4
  generalize (k == 0) = d5
  generalize (k == 1) = d6
  generalize (k == 2) = d7
  generalize (IntKind.i64.wrap (b + a) == 0) = d8
  generalize decide (IntKind.i64.wrap (b + a) > 0) = d9
  generalize decide (IntKind.i64.wrap (b + a) ≥ 3600) = d0
  cases d1 <;> cases d2 <;> cases d3 <;> cases d4 <;> cases d5 <;> cases d6 <;> cases d7 <;> cases d8 <;> cases d9 <;> cases d0 <;> rfl
def qmayB (q : Int) : Bool := !decide (q < 1) && !decide (q > 68719476736)
theorem qchk_at (N : Nat) (q : Int) : f_13 N q = some (bif qmayB q then none else some 1) := by
  unfold f_13 qmayB
  cases decide (q < 1) <;> cases decide (q > 68719476736) <;> rfl
def umayB (w c : Int) : Bool := !decide (w < 0) && (!decide (w > 1099511627776) && (!decide (c < 1) && !decide (c > 1125899906842624)))
theorem uchk_at (N : Nat) (w c : Int) : f_14 N w c = some (bif umayB w c then none else some 1) := by
  unfold f_14 umayB
  cases decide (w < 0) <;> cases decide (w > 1099511627776) <;> cases decide (c < 1) <;> cases decide (c > 1125899906842624) <;> rfl
def mayP (k b a q w c : Int) (n : ByteArray) (f : Int) (L : List Rul) : Bool := smayB k b a && (qmayB q && (umayB w c && mayZ n f L))
theorem pchk_loop (M : Nat) (N : Nat) (e1 e2 e3 e4 : Bool) : iter (b_6_0 N) (M + 5) (((bif e1 then none else some 1), (bif e2 then none else some 1), (bif e3 then none else some 1), (bif e4 then none else some 1)), 0) = bif e1 && (e2 && (e3 && e4)) then some (.inr ()) else some (.inl (some 1)) := by
  rw [show iter (b_6_0 N) (M + 5) = b_6_0 N (b_6_0 N (b_6_0 N (b_6_0 N (b_6_0 N (iter (b_6_0 N) M))))) from rfl]
  generalize iter (b_6_0 N) M = T
  unfold b_6_0
  have w1 : IntKind.i64.wrap ((0 : Int) + 1) = 1 := by rw [wi64 (by omega) (by omega)]; rfl
  have w2 : IntKind.i64.wrap ((1 : Int) + 1) = 2 := by rw [wi64 (by omega) (by omega)]; rfl
  have w3 : IntKind.i64.wrap ((2 : Int) + 1) = 3 := by rw [wi64 (by omega) (by omega)]; rfl
  have w4 : IntKind.i64.wrap ((3 : Int) + 1) = 4 := by rw [wi64 (by omega) (by omega)]; rfl
  simp only [w1, w2, w3, w4]
  cases e1 <;> cases e2 <;> cases e3 <;> cases e4 <;> rfl
theorem pchk_at {N : Nat} (hN : 3000 ≤ N) (k b a q w c : Int) (j : Bool) {n : ByteArray} {f : Int} {L : List Rul} (hL : L.length ≤ 1000) : f_6 N k b a q w c j n f L = some (bif mayP k b a q w c n f L then none else some 1) := by
  unfold f_6 l_6_0 mayP
  rw [schk_at, qchk_at, uchk_at, check_at (by omega) (by omega)]
  simp only [Option.bind_some]
  obtain ⟨M, rfl⟩ : ∃ m, N = m + 5 := ⟨N - 5, by omega⟩
  rw [pchk_loop M]
  cases smayB k b a && (qmayB q && (umayB w c && mayZ n f L)) <;> rfl
def pol5 : List Int → List Int
  | [] => []
  | v :: r => le 8 (IntKind.u64.wrap v) ++ pol5 r
theorem pol5_len : ∀ vs : List Int, (pol5 vs).length = 8 * vs.length
  | [] => rfl
  | _ :: r => by simp only [pol5, List.length_append, le_len, pol5_len r, List.length_cons]; omega
theorem pol5_by : ∀ vs : List Int, By (pol5 vs)
  | [] => By.nil
  | _ :: r => (le_by _ _).append (pol5_by r)
def flagI (j : Bool) : Int := bif j then 1 else 0
def polB (k b a q w c : Int) (j : Bool) (z : List Int) : List Int := (([k % 256] ++ pol5 [b, a, q, w, c]) ++ [flagI j]) ++ le 2 (z.length : Int) ++ z
theorem polB_by {k b a q w c : Int} {j : Bool} {z : List Int} (h : By z) : By (polB k b a q w c j z) :=
  (((((By.cons (by omega) By.nil).append (pol5_by _)).append (By.cons (by cases j <;> decide) By.nil)).append (le_by _ _)).append h)
theorem polB_len (k b a q w c : Int) (j : Bool) (z : List Int) : (polB k b a q w c j z).length = 44 + z.length := by
  simp only [polB, List.length_append, pol5_len, le_len, List.length_cons, List.length_nil]
def pencD (k b a q w c : Int) (j : Bool) (n : ByteArray) (f : Int) (L : List Rul) : List Int × Option Int := if mayP k b a q w c n f L = true then sealD 3 (polB k b a q w c j (zencD n f L).1) else ([], some 1)
theorem penc_loop {N : Nat} (hN : 10 ≤ N) (z : List Int) {vs : List Int} (hv : vs.length = 5) (R : Int × Int × Int × Int × Int × Int × Bool × ByteArray × Int × List Rul) : ∀ (k M i : Nat) (b : List Int), i + k = 5 → k < M → b.length + 8 * k ≤ 1000 →
    iter (b_8_0 N) M ((), z, b, vs, (i : Int), R) = some ((), z, b ++ pol5 (vs.drop i), R) := by
  obtain ⟨r1, r2, r3, r4, r5, r6, r7, r8, r9, r0⟩ := R
  intro k
  induction k with
  | zero =>
    intro M i b hi hM hb
    obtain ⟨M, rfl⟩ : ∃ m, M = m + 1 := ⟨M - 1, by omega⟩
    show b_8_0 N (iter (b_8_0 N) M) _ = _
    generalize iter (b_8_0 N) M = T
    unfold b_8_0
    simp only
    rw [decide_eq_false (show ¬ (i : Int) < 5 by omega), List.drop_eq_nil_of_le (by omega)]
    simp [pol5]
  | succ k ih =>
    intro M i b hi hM hb
    obtain ⟨M, rfl⟩ : ∃ m, M = m + 1 := ⟨M - 1, by omega⟩
    have h1 : i < vs.length := by omega
    have key := ih M (i + 1) (b ++ le 8 (IntKind.u64.wrap vs[i])) (by omega) (by omega) (by rw [List.length_append, le_len]; omega)
    show b_8_0 N (iter (b_8_0 N) M) _ = _
    generalize iter (b_8_0 N) M = T at key ⊢
    have g1 : vs.getD (Int.toNat (i : Int)) 0 = vs[i] := by rw [Int.toNat_natCast, List.getD_eq_getElem?_getD, List.getElem?_eq_getElem h1]; rfl
    unfold b_8_0
    simp only
    rw [decide_eq_true (show (i : Int) < 5 by omega), decide_eq_true (show 0 ≤ (i : Int) ∧ (i : Int) < 5 ∧ True from ⟨by omega, by omega, trivial⟩), g1]
    simp only [cond_true]
    rw [pi64_at (by omega) (by omega)]
    simp only [Option.bind_some]
    rw [wi64 (by omega) (by omega), show (i : Int) + 1 = ((i + 1 : Nat) : Int) by omega, key, List.drop_eq_getElem_cons h1, pol5, List.append_assoc]
theorem zencD_ok {n : ByteArray} {f : Int} {L : List Rul} (h : mayZ n f L = true) : (zencD n f L).2 = none ∧ (zencD n f L).1.length ≤ 1009 ∧ By (zencD n f L).1 := by
  have hl := zoneB_len (mayZ_ok h)
  unfold zencD sealD
  rw [if_pos h, if_pos (by decide), if_neg (by omega)]
  refine ⟨rfl, ?_, sealedL_by ((headL_by (by decide) (by decide) _).append (zoneB_by _ _ _))⟩
  rw [sealedL_len]
  simp [headL, le_len]; omega
theorem penc_at {N : Nat} (hN : 3000 ≤ N) (k b a q w c : Int) (j : Bool) {n : ByteArray} {f : Int} {L : List Rul} (hL : L.length ≤ 60) : f_8 N k b a q w c j n f L = some (pencD k b a q w c j n f L) := by
  unfold f_8 pencD
  rw [pchk_at hN k b a q w c j (by omega)]
  simp only [Option.bind_some]
  cases hm : mayP k b a q w c n f L with
  | false => rfl
  | true =>
    have hz : mayZ n f L = true := by simp only [mayP, Bool.and_eq_true] at hm; exact hm.2.2.2
    obtain ⟨z1, z2, z3⟩ := zencD_ok hz
    simp only [cond_true, Option.isNone_none, Bool.not_true, cond_false, if_true]
    rw [zenc_at hN hL]
    simp only [Option.bind_some]
    rw [z1]
    simp only [Option.isNone_none, Bool.not_true, cond_false]
    generalize (zencD n f L).1 = z at z2 z3 ⊢
    have h := penc_loop (N := N) (by omega) z (vs := [b, a, q, w, c]) rfl (k, b, a, q, w, c, j, n, f, L) 5 N 0 [IntKind.u8.wrap k] rfl (by omega) (by simp)
    rw [show ((0 : Nat) : Int) = 0 from rfl, List.drop_zero] at h
    unfold l_8_0
    rw [h]
    simp only [Option.bind_some]
    have e0 : f_21 N j = some (flagI j) := by cases j <;> rfl
    rw [e0]
    simp only [Option.bind_some]
    have hl : ([IntKind.u8.wrap k] ++ pol5 [b, a, q, w, c]).length = 41 := by rw [List.length_append, pol5_len]; rfl
    have e3 : (([IntKind.u8.wrap k] ++ pol5 [b, a, q, w, c]) ++ [flagI j]) ++ le 2 (z.length : Int) ++ z = polB k b a q w c j z := by rw [IntKind.wrap_u8]; rfl
    generalize [IntKind.u8.wrap k] ++ pol5 [b, a, q, w, c] = B at hl e3 ⊢
    rw [decide_eq_true (show (B.length + ([flagI j] : List Int).length) * 1 ≤ 140737488355328 by rw [hl]; simp)]
    simp only [cond_true]
    rw [wu16 (by omega) (by omega), pu16_at (by omega) (by rw [List.length_append, hl]; simp) (by omega) (by omega)]
    simp only [Option.bind_some]
    rw [decide_eq_true (show ((B ++ [flagI j] ++ le 2 (z.length : Int)).length + z.length) * 1 ≤ 140737488355328 by rw [List.length_append, List.length_append, hl, le_len]; simp; omega), e3]
    simp only [cond_true]
    rw [bseal_at (polB_by z3) (by omega)]
    rfl
end Go.Proofs.YtihignmcjldiiaaDoor.Mir
namespace Go.Proofs.YtihignmcjldiiaaDoor.Mir
open Go Go.RowKit
set_option maxRecDepth 100000
theorem le1_u64 (k : Int) : le 1 (IntKind.u64.wrap k) = [k % 256] := by
  unfold le le
  rw [IntKind.wrap_u64]
  congr 1; omega
abbrev PolT := Int × Int × Int × Int × Int × Int × Bool × ByteArray × Int × List Rul
def pol0 : PolT := (0, 0, 0, 0, 0, 0, false, ByteArray.empty, 0, [])
def at8 (xs : List Int) (i : Nat) : Int := IntKind.i64.wrap (ofLe ((xs.drop i).take 8))
def polOf (xs : List Int) (z : ByteArray × Int × List Rul) : PolT := (xs.getD 0 0, at8 xs 1, at8 xs 9, at8 xs 17, at8 xs 25, at8 xs 33, xs.getD 41 0 == 1, z)
def mayPT (p : PolT) : Bool := mayP p.1 p.2.1 p.2.2.1 p.2.2.2.1 p.2.2.2.2.1 p.2.2.2.2.2.1 p.2.2.2.2.2.2.2.1 p.2.2.2.2.2.2.2.2.1 p.2.2.2.2.2.2.2.2.2
def pdecD (xs : List Int) : PolT × Option Int :=
  match (openD 3 xs).2 with
  | some e => (pol0, some e)
  | none =>
    let y := (openD 3 xs).1
    if y.length < 44 ∨ y.getD 41 0 > 1 ∨ (y.length : Int) ≠ 44 + (y.getD 42 0 + 256 * y.getD 43 0) then (pol0, some 3)
    else if (zdecD (y.drop 44)).2 ≠ none ∨ mayPT (polOf y (zdecD (y.drop 44)).1) = false then (pol0, some 3)
    else (polOf y (zdecD (y.drop 44)).1, none)
theorem tk_ok {n : Nat} {xs : List Int} (h : n ≤ xs.length) : tk n (xs, false) = (ofLe (xs.take n), (xs.drop n, false)) := by
  unfold tk
  rw [if_neg (by simp; omega)]
theorem tk_bad {n : Nat} {s : List Int × Bool} (h : s.2 = true ∨ s.1.length < n) : tk n s = (0, ([], true)) := by unfold tk; rw [if_pos h]
structure Rd44 where
  k : Int
  v : List Int
  j : Int
  n : Int
  left : RdSt
def rd44 (s : RdSt) : Rd44 :=
  let r4 := tk 1 s
  let r5 := tk 8 r4.2
  let r6 := tk 8 r5.2
  let r7 := tk 8 r6.2
  let r8 := tk 8 r7.2
  let r9 := tk 8 r8.2
  let r10 := tk 1 r9.2
  let r11 := tk 2 r10.2
  ⟨r4.1, [r5.1, r6.1, r7.1, r8.1, r9.1], r10.1, r11.1, r11.2⟩
theorem getD_at {xs : List Int} {i : Nat} (h : i < xs.length) : ofLe ((xs.drop i).take 1) = xs.getD i 0 := by
  rw [List.drop_eq_getElem_cons h, List.getD_eq_getElem?_getD, List.getElem?_eq_getElem h]
  simp only [List.take_succ_cons, List.take_zero, ofLe, Option.getD_some]
  omega
theorem getD_at2 {xs : List Int} {i : Nat} (h : i + 1 < xs.length) : ofLe ((xs.drop i).take 2) = xs.getD i 0 + 256 * xs.getD (i + 1) 0 := by
  rw [List.drop_eq_getElem_cons (show i < xs.length by omega), List.drop_eq_getElem_cons h, List.getD_eq_getElem?_getD, List.getElem?_eq_getElem (show i < xs.length by omega), List.getD_eq_getElem?_getD, List.getElem?_eq_getElem h]
  simp only [List.take_succ_cons, List.take_zero, ofLe, Option.getD_some]
  omega
theorem rd44_ok {xs : List Int} (h : 44 ≤ xs.length) : rd44 (xs, false) = ⟨xs.getD 0 0, [ofLe ((xs.drop 1).take 8), ofLe ((xs.drop 9).take 8), ofLe ((xs.drop 17).take 8), ofLe ((xs.drop 25).take 8), ofLe ((xs.drop 33).take 8)], xs.getD 41 0, xs.getD 42 0 + 256 * xs.getD 43 0, (xs.drop 44, false)⟩ := by
  unfold rd44
  simp only
  rw [tk_ok (n := 1) (by omega)]
  simp only
  rw [tk_ok (n := 8) (by rw [List.length_drop]; omega)]
  simp only [List.drop_drop]
  rw [tk_ok (n := 8) (by rw [List.length_drop]; omega)]
  simp only [List.drop_drop]
  rw [tk_ok (n := 8) (by rw [List.length_drop]; omega)]
  simp only [List.drop_drop]
  rw [tk_ok (n := 8) (by rw [List.length_drop]; omega)]
  simp only [List.drop_drop]
  rw [tk_ok (n := 8) (by rw [List.length_drop]; omega)]
  simp only [List.drop_drop]
  rw [tk_ok (n := 1) (by rw [List.length_drop]; omega)]
  simp only [List.drop_drop]
  rw [tk_ok (n := 2) (by rw [List.length_drop]; omega)]
  simp only [List.drop_drop]
  have e0 := getD_at (xs := xs) (i := 0) (by omega)
  rw [List.drop_zero] at e0
  rw [e0, getD_at (show 41 < xs.length by omega), getD_at2 (show 42 + 1 < xs.length by omega)]
theorem tk_chain {n : Nat} {s : RdSt} : (tk n s).2.2 = true ∧ (tk n s).2.1 = [] ∨ ((tk n s).2.2 = false ∧ s.2 = false ∧ (tk n s).2.1.length + n = s.1.length) := by
  unfold tk
  split
  · exact .inl ⟨rfl, rfl⟩
  · rename_i h
    have := not_or.1 h
    refine .inr ⟨rfl, by simpa using this.1, ?_⟩
    simp only [List.length_drop]; omega
theorem rd44_short {xs : List Int} (h : xs.length < 44) : (rd44 (xs, false)).n = 0 ∧ (rd44 (xs, false)).left = ([], true) := by
  unfold rd44
  simp only
  have c4 := tk_chain (n := 1) (s := (xs, false))
  generalize tk 1 (xs, false) = r4 at c4 ⊢
  have c5 := tk_chain (n := 8) (s := r4.2)
  generalize tk 8 r4.2 = r5 at c5 ⊢
  have c6 := tk_chain (n := 8) (s := r5.2)
  generalize tk 8 r5.2 = r6 at c6 ⊢
  have c7 := tk_chain (n := 8) (s := r6.2)
  generalize tk 8 r6.2 = r7 at c7 ⊢
  have c8 := tk_chain (n := 8) (s := r7.2)
  generalize tk 8 r7.2 = r8 at c8 ⊢
  have c9 := tk_chain (n := 8) (s := r8.2)
  generalize tk 8 r8.2 = r9 at c9 ⊢
  have c10 := tk_chain (n := 1) (s := r9.2)
  generalize tk 1 r9.2 = r10 at c10 ⊢
  have hb : r10.2.2 = true ∨ r10.2.1.length < 2 := by
    rcases c10 with c10 | ⟨_, a10, b10⟩
    · exact .inl c10.1
    · rcases c9 with c9 | ⟨_, a9, b9⟩
      · rw [c9.1] at a10; cases a10
      · rcases c8 with c8 | ⟨_, a8, b8⟩
        · rw [c8.1] at a9; cases a9
        · rcases c7 with c7 | ⟨_, a7, b7⟩
          · rw [c7.1] at a8; cases a8
          · rcases c6 with c6 | ⟨_, a6, b6⟩
            · rw [c6.1] at a7; cases a7
            · rcases c5 with c5 | ⟨_, a5, b5⟩
              · rw [c5.1] at a6; cases a6
              · rcases c4 with c4 | ⟨_, a4, b4⟩
                · rw [c4.1] at a5; cases a5
                · simp only at b4
                  right; omega
  rw [tk_bad hb]
  exact ⟨rfl, rfl⟩
theorem openD_ne {k : Int} {xs : List Int} {e : Int} (h : (openD k xs).2 = some e) : e ≠ 0 := by
  unfold openD at h
  split at h
  · split at h
    · cases h; decide
    · split at h
      · split at h
        · cases h; decide
        · cases h
      · cases h; decide
  · cases h; decide
theorem left_at (N : Nat) (s : RdSt) : ∃ q, f_28 N s.1 s.2 = some ((s.1.length : Int), q) := ⟨_, rfl⟩
theorem zdec_nil : (zdecD []).2 = some 3 := by decide +kernel
theorem by_getD {xs : List Int} (h : By xs) (i : Nat) : 0 ≤ xs.getD i 0 ∧ xs.getD i 0 < 256 := by
  rw [List.getD_eq_getElem?_getD]
  by_cases hi : i < xs.length
  · rw [List.getElem?_eq_getElem hi]; exact h _ (List.getElem_mem hi)
  · rw [List.getElem?_eq_none (by omega)]; decide
theorem pdec_at {N : Nat} {xs : List Int} (hb : By xs) (hx : xs.length ≤ 1200) (hN : 3000 ≤ N) : f_9 N xs = some (pdecD xs) := by
  unfold f_9 pdecD
  rw [bopen_at hb (by omega) (by omega)]
  have hob := openD_by (k := 3) hb
  have hol := openD_len (k := 3) (xs := xs)
  simp only [Option.bind_some]
  generalize openD 3 xs = o at hob hol ⊢
  obtain ⟨ys, e⟩ := o
  cases e with
  | some e => rfl
  | none =>
    simp only [Option.isNone_none, Bool.not_true, cond_false]
    simp only at hob hol
    rw [new_at N (by omega)]
    simp only [Option.bind_some]
    rw [u8_at N hob]
    simp only [Option.bind_some]
    have h4 := tk_by (n := 1) (s := (ys, false)) hob
    rw [show f_26 N (tk 1 (ys, false)).2.1 (tk 1 (ys, false)).2.2 = _ from i64_at N h4]
    simp only [Option.bind_some]
    have h5 := tk_by (n := 8) h4
    rw [show f_26 N (tk 8 (tk 1 (ys, false)).2).2.1 (tk 8 (tk 1 (ys, false)).2).2.2 = _ from i64_at N h5]
    simp only [Option.bind_some]
    have h6 := tk_by (n := 8) h5
    rw [show f_26 N (tk 8 (tk 8 (tk 1 (ys, false)).2).2).2.1 (tk 8 (tk 8 (tk 1 (ys, false)).2).2).2.2 = _ from i64_at N h6]
    simp only [Option.bind_some]
    have h7 := tk_by (n := 8) h6
    rw [show f_26 N (tk 8 (tk 8 (tk 8 (tk 1 (ys, false)).2).2).2).2.1 (tk 8 (tk 8 (tk 8 (tk 1 (ys, false)).2).2).2).2.2 = _ from i64_at N h7]
    simp only [Option.bind_some]
    have h8 := tk_by (n := 8) h7
    rw [show f_26 N (tk 8 (tk 8 (tk 8 (tk 8 (tk 1 (ys, false)).2).2).2).2).2.1 (tk 8 (tk 8 (tk 8 (tk 8 (tk 1 (ys, false)).2).2).2).2).2.2 = _ from i64_at N h8]
    simp only [Option.bind_some]
    have h9 := tk_by (n := 8) h8
    rw [show f_25 N (tk 8 (tk 8 (tk 8 (tk 8 (tk 8 (tk 1 (ys, false)).2).2).2).2).2).2.1 (tk 8 (tk 8 (tk 8 (tk 8 (tk 8 (tk 1 (ys, false)).2).2).2).2).2).2.2 = _ from u8_at N h9]
    simp only [Option.bind_some]
    have h10 := tk_by (n := 1) h9
    rw [show f_27 N (tk 1 (tk 8 (tk 8 (tk 8 (tk 8 (tk 8 (tk 1 (ys, false)).2).2).2).2).2).2).2.1 (tk 1 (tk 8 (tk 8 (tk 8 (tk 8 (tk 8 (tk 1 (ys, false)).2).2).2).2).2).2).2.2 = _ from u16_at N h10]
    simp only [Option.bind_some]
    have hj := tk_lt (n := 1) h9
    have hn := tk_lt (n := 2) h10
    have hk := tk_lt (n := 1) (s := (ys, false)) hob
    obtain ⟨qq, hleft⟩ := left_at N (tk 2 (tk 1 (tk 8 (tk 8 (tk 8 (tk 8 (tk 8 (tk 1 (ys, false)).2).2).2).2).2).2).2).2
    rw [hleft]
    simp only [Option.bind_some]
    by_cases hlen : ys.length < 44
    · rw [if_pos (.inl hlen)]
      obtain ⟨s1, s2⟩ := rd44_short hlen
      have s1 : (tk 2 (tk 1 (tk 8 (tk 8 (tk 8 (tk 8 (tk 8 (tk 1 (ys, false)).2).2).2).2).2).2).2).1 = 0 := s1
      have s2 : (tk 2 (tk 1 (tk 8 (tk 8 (tk 8 (tk 8 (tk 8 (tk 1 (ys, false)).2).2).2).2).2).2).2).2 = ([], true) := s2
      rw [s1, s2]
      cases decide ((tk 1 (tk 8 (tk 8 (tk 8 (tk 8 (tk 8 (tk 1 (ys, false)).2).2).2).2).2).2).1 > 1) with
      | true => rfl
      | false =>
        simp only [cond_false, List.length_nil]
        rw [wi64 (by omega) (by omega)]
        rfl
    · have hk44 := rd44_ok (xs := ys) (by omega)
      have t1 : (tk 1 (ys, false)).1 = ys.getD 0 0 := congrArg Rd44.k hk44
      have t2 := congrArg Rd44.v hk44
      have t3 : (tk 1 (tk 8 (tk 8 (tk 8 (tk 8 (tk 8 (tk 1 (ys, false)).2).2).2).2).2).2).1 = ys.getD 41 0 := congrArg Rd44.j hk44
      have t4 : (tk 2 (tk 1 (tk 8 (tk 8 (tk 8 (tk 8 (tk 8 (tk 1 (ys, false)).2).2).2).2).2).2).2).1 = ys.getD 42 0 + 256 * ys.getD 43 0 := congrArg Rd44.n hk44
      have t5 : (tk 2 (tk 1 (tk 8 (tk 8 (tk 8 (tk 8 (tk 8 (tk 1 (ys, false)).2).2).2).2).2).2).2).2 = (ys.drop 44, false) := congrArg Rd44.left hk44
      simp only [rd44, List.cons.injEq, and_true] at t2
      obtain ⟨v1, v2, v3, v4, v5⟩ := t2
      have g0 := by_getD hob 0
      have g2 := by_getD hob 42
      have g3 := by_getD hob 43
      rw [t1, v1, v2, v3, v4, v5, t3, t4, t5]
      clear t1 v1 v2 v3 v4 v5 t3 t4 t5 hk44 hleft hj hn hk h4 h5 h6 h7 h8 h9 h10
      rw [wi64 (n := ys.getD 0 0) (by omega) (by omega), wi64 (n := ys.getD 42 0 + 256 * ys.getD 43 0) (by omega) (by omega)]
      by_cases hj1 : ys.getD 41 0 > 1
      · rw [if_pos (.inr (.inl hj1)), decide_eq_true hj1]; rfl
      · rw [decide_eq_false hj1]
        simp only [cond_false, List.length_drop]
        by_cases hnn : (ys.length : Int) ≠ 44 + (ys.getD 42 0 + 256 * ys.getD 43 0)
        · rw [if_pos (.inr (.inr hnn)), show (((ys.length - 44 : Nat) : Int) != ys.getD 42 0 + 256 * ys.getD 43 0) = true by rw [bne_iff_ne]; omega]; rfl
        · rw [if_neg (by rintro (h | h | h); exact hlen h; exact hj1 h; exact hnn h)]
          have hnn' : (ys.length : Int) = 44 + (ys.getD 42 0 + 256 * ys.getD 43 0) := by omega
          rw [show (((ys.length - 44 : Nat) : Int) != ys.getD 42 0 + 256 * ys.getD 43 0) = false by rw [bne_eq_false_iff_eq]; omega]
          simp only [cond_false]
          by_cases hz0 : ys.getD 42 0 + 256 * ys.getD 43 0 = 0
          · rw [hz0, if_pos (.inl (by rw [List.drop_eq_nil_of_le (by omega), zdec_nil]; simp))]; rfl
          · rw [show (ys.getD 42 0 + 256 * ys.getD 43 0 == 0) = false by simpa using hz0, wi64 (n := (ys.length : Int) - _) (by omega) (by omega), show (ys.length : Int) - (ys.getD 42 0 + 256 * ys.getD 43 0) = ((44 : Nat) : Int) by omega, decide_eq_true (show 0 ≤ (ys.length : Int) ∧ (ys.length : Int) ≤ (ys.length : Int) by omega), decide_eq_true (show 0 ≤ ((44 : Nat) : Int) ∧ ((44 : Nat) : Int) ≤ (ys.length : Int) by omega)]
            simp only [cond_false, cond_true, Int.toNat_natCast, List.take_length]
            rw [zdec_at (hob.drop 44) (by rw [List.length_drop]; omega) hN]
            simp only [Option.bind_some]
            have hzl := zdecD_len (hob.drop 44)
            generalize zdecD (ys.drop 44) = Z at hzl ⊢
            obtain ⟨zz, ze⟩ := Z
            cases ze with
            | some e => rw [if_pos (.inl (by simp))]; rfl
            | none =>
              simp only [Option.isNone_none, Bool.not_true, cond_false] at hzl ⊢
              rw [pchk_at hN _ _ _ _ _ _ _ (by omega)]
              simp only [Option.bind_some]
              show (bif !(Option.isNone (bif mayPT (polOf ys zz) then none else some 1)) then _ else _) = _
              cases hm : mayPT (polOf ys zz) with
              | false => rw [if_pos (.inr rfl)]; rfl
              | true => rw [if_neg (by simp)]; rfl
end Go.Proofs.YtihignmcjldiiaaDoor.Mir
namespace Go.Proofs.YtihignmcjldiiaaDoor.Mir
open Go Go.RowKit
set_option maxRecDepth 100000
theorem zdecD_size {xs : List Int} (hb : By xs) : (zdecD xs).1.1.size ≤ 255 ∧ ∀ i, i < (zdecD xs).1.2.2.length → (gR (zdecD xs).1.2.2 i).2.2.size ≤ 255 := by
  unfold zdecD
  split
  · exact ⟨Nat.zero_le _, fun i hi => by simp at hi⟩
  · split
    · exact ⟨Nat.zero_le _, fun i hi => by simp at hi⟩
    · have ho := openD_by (k := 6) hb
      refine ⟨txt_size (s := ((openD 6 xs).1, false)) ho, fun i hi => ?_⟩
      exact rdRules_size _ (tk_by (tk_by (txt_by (s := ((openD 6 xs).1, false)) ho))) _ (gR_mem hi)
def eqP (p q : PolT) : Bool := (p.1 == q.1 && (p.2.1 == q.2.1 && p.2.2.1 == q.2.2.1)) && (p.2.2.2.1 == q.2.2.2.1 && ((p.2.2.2.2.1 == q.2.2.2.2.1 && p.2.2.2.2.2.1 == q.2.2.2.2.2.1) && (p.2.2.2.2.2.2.1 == q.2.2.2.2.2.2.1 && eqZ p.2.2.2.2.2.2.2.1 p.2.2.2.2.2.2.2.2.1 p.2.2.2.2.2.2.2.2.2 q.2.2.2.2.2.2.2.1 q.2.2.2.2.2.2.2.2.1 q.2.2.2.2.2.2.2.2.2)))
theorem rulEq_comm : ∀ L M : List Rul, rulEq L M = rulEq M L
  | [], [] => rfl
  | [], _ :: _ => rfl
  | _ :: _, [] => rfl
  | r :: L, q :: M => by
    simp only [rulEq]
    rw [rulEq_comm L M, BEq.comm (a := r.1), BEq.comm (a := r.2.1), BEq.comm (a := r.2.2.toList)]
theorem eqP_comm (p q : PolT) : eqP p q = eqP q p := by
  unfold eqP eqZ
  rw [rulEq_comm, BEq.comm (a := p.1), BEq.comm (a := p.2.1), BEq.comm (a := p.2.2.1), BEq.comm (a := p.2.2.2.1), BEq.comm (a := p.2.2.2.2.1), BEq.comm (a := p.2.2.2.2.2.1), BEq.comm (a := p.2.2.2.2.2.2.1), BEq.comm (a := p.2.2.2.2.2.2.2.1.toList), BEq.comm (a := p.2.2.2.2.2.2.2.2.1)]
theorem eqP_self (p : PolT) : eqP p p = true := by
  unfold eqP
  rw [eqZ_self]; simp
theorem psame_at {N : Nat} (p q : PolT) (hL : p.2.2.2.2.2.2.2.2.2.length ≤ 1000000) (hN : p.2.2.2.2.2.2.2.2.2.length < N) :
    f_10 N p.1 p.2.1 p.2.2.1 p.2.2.2.1 p.2.2.2.2.1 p.2.2.2.2.2.1 p.2.2.2.2.2.2.1 p.2.2.2.2.2.2.2.1 p.2.2.2.2.2.2.2.2.1 p.2.2.2.2.2.2.2.2.2 q.1 q.2.1 q.2.2.1 q.2.2.2.1 q.2.2.2.2.1 q.2.2.2.2.2.1 q.2.2.2.2.2.2.1 q.2.2.2.2.2.2.2.1 q.2.2.2.2.2.2.2.2.1 q.2.2.2.2.2.2.2.2.2 = some (eqP p q) := by
  unfold f_10 eqP eqZ
  rw [req_at hL hN]
  generalize (p.1 == q.1 && (p.2.1 == q.2.1 && p.2.2.1 == q.2.2.1)) = c1
  generalize (p.2.2.2.1 == q.2.2.2.1) = c2
  generalize (p.2.2.2.2.1 == q.2.2.2.2.1 && p.2.2.2.2.2.1 == q.2.2.2.2.2.1) = c3
  generalize (p.2.2.2.2.2.2.1 == q.2.2.2.2.2.2.1) = c4
  generalize (p.2.2.2.2.2.2.2.1.toList == q.2.2.2.2.2.2.2.1.toList) = c5
  generalize (p.2.2.2.2.2.2.2.2.1 == q.2.2.2.2.2.2.2.2.1) = c6
  cases c1 <;> cases c2 <;> cases c3 <;> cases c4 <;> cases c5 <;> cases c6 <;> rfl
theorem pdecD_len {xs : List Int} (hb : By xs) : (pdecD xs).1.2.2.2.2.2.2.2.2.2.length ≤ 255 := by
  unfold pdecD
  split
  · exact Nat.zero_le _
  · simp only
    split
    · exact Nat.zero_le _
    · split
      · exact Nat.zero_le _
      · exact zdecD_len ((openD_by hb).drop 44)
end Go.Proofs.YtihignmcjldiiaaDoor.Mir
namespace Go.Proofs.YtihignmcjldiiaaDoor.Mir
open Go Go.RowKit
set_option maxRecDepth 100000
theorem at8_mid {v : Int} (h0 : -9223372036854775808 ≤ v) (h1 : v < 9223372036854775808) {A B : List Int} {i : Nat} (hA : A.length = i) : at8 (A ++ (le 8 (IntKind.u64.wrap v) ++ B)) i = v := by
  unfold at8
  rw [List.drop_left' hA, List.take_left' (le_len 8 _), ofLe_le 8 (wu64_lt v).1 (Int.lt_of_lt_of_le (wu64_lt v).2 (by decide)), wi64_u64 h0 h1]
theorem getD_mid {x : Int} {A B : List Int} {i : Nat} (hA : A.length = i) : (A ++ x :: B).getD i 0 = x := by
  rw [List.getD_eq_getElem?_getD, List.getElem?_append_right (by omega), show i - A.length = 0 by omega]; rfl
theorem drop_mid {A B : List Int} {i : Nat} (hA : A.length = i) : (A ++ B).drop i = B := List.drop_left' hA
structure POk (k b a q w c : Int) (n : ByteArray) (f : Int) (L : List Rul) : Prop where
  hk : 0 ≤ k ∧ k < 256
  hb : 0 ≤ b ∧ b ≤ 43200
  ha : 0 ≤ a ∧ a ≤ 43200
  hq : 1 ≤ q ∧ q ≤ 68719476736
  hw : 0 ≤ w ∧ w ≤ 1099511627776
  hc : 1 ≤ c ∧ c ≤ 1125899906842624
  hz : mayZ n f L = true
theorem smayB_ok {k b a : Int} (h : smayB k b a = true) : (0 ≤ k ∧ k < 256) ∧ (0 ≤ b ∧ b ≤ 43200) ∧ (0 ≤ a ∧ a ≤ 43200) := by
  unfold smayB at h
  by_cases h1 : b < 0
  · rw [decide_eq_true h1] at h; cases h
  by_cases h2 : b > 43200
  · rw [decide_eq_false h1, decide_eq_true h2] at h; cases h
  by_cases h3 : a < 0
  · rw [decide_eq_false h1, decide_eq_false h2, decide_eq_true h3] at h; cases h
  by_cases h4 : a > 43200
  · rw [decide_eq_false h1, decide_eq_false h2, decide_eq_false h3, decide_eq_true h4] at h; cases h
  refine ⟨?_, by omega, by omega⟩
  rw [decide_eq_false h1, decide_eq_false h2, decide_eq_false h3, decide_eq_false h4] at h
  simp only [cond_false] at h
  by_cases k0 : k = 0
  · omega
  rw [show (k == 0) = false by simpa using k0] at h
  by_cases k1 : k = 1
  · omega
  rw [show (k == 1) = false by simpa using k1] at h
  by_cases k2 : k = 2
  · omega
  rw [show (k == 2) = false by simpa using k2] at h
  simp only [cond_false] at h
  cases h
theorem mayP_ok {k b a q w c : Int} {n : ByteArray} {f : Int} {L : List Rul} (h : mayP k b a q w c n f L = true) : POk k b a q w c n f L := by
  simp only [mayP, Bool.and_eq_true] at h
  obtain ⟨h1, h2, h3, h4⟩ := h
  obtain ⟨s1, s2, s3⟩ := smayB_ok h1
  simp only [qmayB, Bool.and_eq_true, Bool.not_eq_true', decide_eq_false_iff_not] at h2
  simp only [umayB, Bool.and_eq_true, Bool.not_eq_true', decide_eq_false_iff_not] at h3
  exact ⟨s1, s2, s3, by omega, by omega, by omega, h4⟩
theorem zenc_len (m : Nat) {n : ByteArray} {f : Int} {L : List Rul} (h : mayZ n f L = true) (hL : L.length ≤ m) : (zencD n f L).1.length ≤ 31 + 29 * m := by
  have ho := mayZ_ok h
  have h0 := rulesB_len (L := L) (fun r hr => (ho.rule r hr).1)
  have h1 := ho.nm
  have h2 := ho.len
  have h3 : (zoneB n f L).length ≤ 22 + 29 * m := by simp only [zoneB, List.length_append, le_len, bytesL_len]; omega
  have h4 := zoneB_len ho
  unfold zencD sealD
  rw [if_pos h, if_pos (by decide), if_neg (by omega)]
  rw [sealedL_len]
  simp [headL, le_len]; omega
theorem penc_len (m : Nat) {k b a q w c : Int} {j : Bool} {n : ByteArray} {f : Int} {L : List Rul} (h : mayP k b a q w c n f L = true) (hL : L.length ≤ m) : (pencD k b a q w c j n f L).1.length ≤ 84 + 29 * m := by
  have hz := (mayP_ok h).hz
  have hl := zenc_len m hz hL
  have ho := mayZ_ok hz
  have hl32 := zenc_len 32 hz ho.len
  unfold pencD
  rw [if_pos h]
  generalize (zencD n f L).1 = z at hl hl32
  unfold sealD
  rw [if_pos (by decide), if_neg (by rw [polB_len]; omega)]
  rw [sealedL_len, List.length_append, polB_len]
  simp [headL, le_len]; omega
theorem penc_eq {k b a q w c : Int} {j : Bool} {n : ByteArray} {f : Int} {L : List Rul} (h : mayP k b a q w c n f L = true) : pencD k b a q w c j n f L = (sealedL (headL 3 (polB k b a q w c j (zencD n f L).1) ++ polB k b a q w c j (zencD n f L).1), none) := by
  have hz := (mayP_ok h).hz
  have hl := zenc_len 32 hz (mayZ_ok hz).len
  unfold pencD sealD
  rw [if_pos h, if_pos (by decide), if_neg (by rw [polB_len]; omega)]
theorem pdec_enc {k b a q w c : Int} {j : Bool} {n : ByteArray} {f : Int} {L : List Rul} (h : mayP k b a q w c n f L = true) : pdecD (pencD k b a q w c j n f L).1 = ((k, b, a, q, w, c, j, n, f, L), none) := by
  obtain ⟨hk, hb, ha, hq, hw, hc, hz⟩ := mayP_ok h
  have hl := zenc_len 32 hz (mayZ_ok hz).len
  have hzd := zdec_enc (zencD_ok hz).1
  rw [penc_eq h]
  unfold pdecD
  rw [openD_seal (by decide) (by rw [polB_len]; omega)]
  simp only
  generalize (zencD n f L).1 = z at hl hzd ⊢
  have e0 : (polB k b a q w c j z).getD 0 0 = k := by
    have := getD_mid (x := k % 256) (A := []) (B := pol5 [b, a, q, w, c] ++ [flagI j] ++ le 2 (z.length : Int) ++ z) (i := 0) rfl
    rw [show k % 256 = k by omega] at this
    refine Eq.trans ?_ this
    simp [polB, show k % 256 = k by omega]
  have e1 : at8 (polB k b a q w c j z) 1 = b := by
    refine Eq.trans ?_ (at8_mid (v := b) (by omega) (by omega) (A := [k % 256]) (B := pol5 [a, q, w, c] ++ [flagI j] ++ le 2 (z.length : Int) ++ z) (i := 1) rfl)
    simp [polB, pol5]
  have e2 : at8 (polB k b a q w c j z) 9 = a := by
    refine Eq.trans ?_ (at8_mid (v := a) (by omega) (by omega) (A := [k % 256] ++ pol5 [b]) (B := pol5 [q, w, c] ++ [flagI j] ++ le 2 (z.length : Int) ++ z) (i := 9) (by simp [pol5_len]))
    simp [polB, pol5]
  have e3 : at8 (polB k b a q w c j z) 17 = q := by
    refine Eq.trans ?_ (at8_mid (v := q) (by omega) (by omega) (A := [k % 256] ++ pol5 [b, a]) (B := pol5 [w, c] ++ [flagI j] ++ le 2 (z.length : Int) ++ z) (i := 17) (by simp [pol5_len]))
    simp [polB, pol5]
  have e4 : at8 (polB k b a q w c j z) 25 = w := by
    refine Eq.trans ?_ (at8_mid (v := w) (by omega) (by omega) (A := [k % 256] ++ pol5 [b, a, q]) (B := pol5 [c] ++ [flagI j] ++ le 2 (z.length : Int) ++ z) (i := 25) (by simp [pol5_len]))
    simp [polB, pol5]
  have e5 : at8 (polB k b a q w c j z) 33 = c := by
    refine Eq.trans ?_ (at8_mid (v := c) (by omega) (by omega) (A := [k % 256] ++ pol5 [b, a, q, w]) (B := [flagI j] ++ le 2 (z.length : Int) ++ z) (i := 33) (by simp [pol5_len]))
    simp [polB, pol5]
  have e6 : (polB k b a q w c j z).getD 41 0 = flagI j := by
    refine Eq.trans ?_ (getD_mid (x := flagI j) (A := [k % 256] ++ pol5 [b, a, q, w, c]) (B := le 2 (z.length : Int) ++ z) (i := 41) (by simp [pol5_len]))
    simp [polB]
  have e7 : (polB k b a q w c j z).getD 42 0 = (z.length : Int) % 256 := by
    refine Eq.trans ?_ (getD_mid (x := (z.length : Int) % 256) (A := [k % 256] ++ pol5 [b, a, q, w, c] ++ [flagI j]) (B := (z.length : Int) / 256 % 256 :: z) (i := 42) (by simp [pol5_len]))
    simp [polB, le]
  have e8 : (polB k b a q w c j z).getD 43 0 = (z.length : Int) / 256 % 256 := by
    refine Eq.trans ?_ (getD_mid (x := (z.length : Int) / 256 % 256) (A := [k % 256] ++ pol5 [b, a, q, w, c] ++ [flagI j] ++ [(z.length : Int) % 256]) (B := z) (i := 43) (by simp [pol5_len]))
    simp [polB, le]
  have e9 : (polB k b a q w c j z).drop 44 = z := by
    rw [show polB k b a q w c j z = ([k % 256] ++ pol5 [b, a, q, w, c] ++ [flagI j] ++ le 2 (z.length : Int)) ++ z from rfl]
    exact drop_mid (by simp [pol5_len, le_len])
  have hf : flagI j ≤ 1 := by cases j <;> decide
  have hfe : (flagI j == 1) = j := by cases j <;> rfl
  unfold polOf mayPT
  rw [e0, e1, e2, e3, e4, e5, e6, e7, e8, e9, hzd, polB_len, hfe]
  rw [if_neg (by rintro (h | h | h) <;> omega)]
  simp only
  rw [if_neg (by rintro (h1 | h1) <;> simp_all)]
end Go.Proofs.YtihignmcjldiiaaDoor.Mir
namespace Go.Proofs.YtihignmcjldiiaaDoor.Mir
open Go Go.RowKit
set_option maxRecDepth 100000
theorem tb31 {v : Nat} (h : v < 2147483648) : v.testBit 31 = false := Nat.testBit_lt_two_pow (by simpa using h)
theorem c1_inj {a b : Nat} (ha : a < 4294967296) (hb : b < 4294967296) (h : c1 a = c1 b) : a = b := by
  have key : ∀ x y : Nat, x < 4294967296 → y < 4294967296 → (x / 2) ^^^ 3988292384 ≠ y / 2 := fun x y hx hy e => by
    have h1 := congrArg (fun n => Nat.testBit n 31) e
    simp only [Nat.testBit_xor] at h1
    rw [tb31 (v := x / 2) (by omega), tb31 (v := y / 2) (by omega)] at h1
    exact absurd h1 (by decide +kernel)
  unfold c1 at h
  by_cases h1 : a % 2 = 1
  · by_cases h2 : b % 2 = 1
    · rw [if_pos h1, if_pos h2] at h
      have h3 : a / 2 = b / 2 := by
        have := congrArg (· ^^^ 3988292384) h
        simpa [Nat.xor_assoc] using this
      omega
    · rw [if_pos h1, if_neg h2] at h
      exact absurd h (key a b ha hb)
  · by_cases h2 : b % 2 = 1
    · rw [if_neg h1, if_pos h2] at h
      exact absurd h.symm (key b a hb ha)
    · rw [if_neg h1, if_neg h2] at h
      omega
theorem cK_inj : ∀ (k : Nat) {a b : Nat}, a < 4294967296 → b < 4294967296 → cK k a = cK k b → a = b
  | 0, _, _, _, _, h => h
  | k + 1, _, _, ha, hb, h => c1_inj ha hb (cK_inj k (c1_lt ha) (c1_lt hb) h)
theorem xor_inj {a b c : Nat} (h : a ^^^ c = b ^^^ c) : a = b := by
  have := congrArg (· ^^^ c) h
  simpa [Nat.xor_assoc] using this
theorem crcSt_inj : ∀ {xs : List Int} {a b : Nat}, By xs → a < 4294967296 → b < 4294967296 → crcSt a xs = crcSt b xs → a = b
  | [], _, _, _, _, _, h => h
  | x :: xs, a, b, hb, ha, hb', h => by
    have hx := hb x (by simp)
    have h1 := crcSt_inj (xs := xs) (fun y hy => hb y (by simp [hy])) (cK_lt 8 (xor_lt32 ha (by omega))) (cK_lt 8 (xor_lt32 hb' (by omega))) h
    exact xor_inj (cK_inj 8 (xor_lt32 ha (by omega)) (xor_lt32 hb' (by omega)) h1)
theorem crcSt_set : ∀ {xs : List Int} {v i : Nat} {y : Int}, By xs → v < 4294967296 → (hi : i < xs.length) → 0 ≤ y → y < 256 → y ≠ xs[i] → crcSt v (xs.set i y) ≠ crcSt v xs
  | [], _, _, _, _, _, hi, _, _, _ => by simp at hi
  | x :: xs, v, 0, y, hb, hv, _, h0, h1, hne => by
    have hx := hb x (by simp)
    intro h
    have h2 := crcSt_inj (xs := xs) (a := cK 8 (v ^^^ y.toNat)) (b := cK 8 (v ^^^ x.toNat)) (fun z hz => hb z (by simp [hz])) (cK_lt 8 (xor_lt32 hv (by omega))) (cK_lt 8 (xor_lt32 hv (by omega))) h
    have h3 := cK_inj 8 (xor_lt32 hv (by omega)) (xor_lt32 hv (by omega)) h2
    rw [Nat.xor_comm v, Nat.xor_comm v] at h3
    have h4 := xor_inj h3
    simp only [List.getElem_cons_zero] at hne
    omega
  | x :: xs, v, i + 1, y, hb, hv, hi, h0, h1, hne => by
    have hx := hb x (by simp)
    exact crcSt_set (xs := xs) (i := i) (fun z hz => hb z (by simp [hz])) (cK_lt 8 (xor_lt32 hv (by omega))) (by simpa using hi) h0 h1 (by simpa using hne)
theorem crcS_set {xs : List Int} {i : Nat} {y : Int} (hb : By xs) (hi : i < xs.length) (h0 : 0 ≤ y) (h1 : y < 256) (hne : y ≠ xs[i]) : crcS (xs.set i y) ≠ crcS xs := by
  unfold crcS
  intro h
  have h2 : 4294967295 ^^^ crcSt 4294967295 (xs.set i y) = 4294967295 ^^^ crcSt 4294967295 xs := by omega
  rw [Nat.xor_comm 4294967295, Nat.xor_comm 4294967295] at h2
  exact crcSt_set hb (by decide) hi h0 h1 hne (xor_inj h2)
theorem By.set {xs : List Int} (hb : By xs) (i : Nat) {y : Int} (h0 : 0 ≤ y) (h1 : y < 256) : By (xs.set i y) := fun x hx => by
  rcases List.mem_or_eq_of_mem_set hx with h | rfl
  · exact hb x h
  · exact ⟨h0, h1⟩
theorem le_inj {n : Nat} {a b : Int} (ha : 0 ≤ a ∧ a < 256 ^ n) (hb : 0 ≤ b ∧ b < 256 ^ n) (h : le n a = le n b) : a = b := by
  have := congrArg ofLe h
  rwa [ofLe_le n ha.1 ha.2, ofLe_le n hb.1 hb.2] at this
theorem opened_set {m : List Int} {i : Nat} {y : Int} (hb : By m) (hi : i < (sealedL m).length) (h0 : 0 ≤ y) (h1 : y < 256) (hne : y ≠ (sealedL m)[i]) : openedD ((sealedL m).set i y) = none := by
  unfold openedD
  rw [if_neg]
  rintro ⟨_, h⟩
  have hl := sealedL_len m
  rw [List.length_set, hl, show m.length + 4 - 4 = m.length by omega] at h
  by_cases hc : i < m.length
  · have e1 : ((sealedL m).set i y).take m.length = m.set i y := by
      unfold sealedL
      rw [List.set_append_left _ _ hc, List.take_left' (List.length_set ..)]
    have e2 : (sealedL m).set i y = m.set i y ++ le 4 (crcS m) := by
      unfold sealedL
      rw [List.set_append_left _ _ hc]
    rw [e1, e2] at h
    unfold sealedL at h
    have h2 := List.append_cancel_left h
    have hc1 := crcS_lt (hb.set i h0 h1)
    have hc2 := crcS_lt hb
    have h3 := le_inj (n := 4) (by constructor; exact hc1.1; simpa using hc1.2) (by constructor; exact hc2.1; simpa using hc2.2) h2
    refine crcS_set hb hc h0 h1 ?_ h3
    intro e
    apply hne
    have h5 : (sealedL m)[i]? = m[i]? := by unfold sealedL; exact List.getElem?_append_left hc
    rw [List.getElem?_eq_getElem hi, List.getElem?_eq_getElem hc] at h5
    rw [e]; exact (Option.some.inj h5).symm
  · have e1 : ((sealedL m).set i y).take m.length = m := by
      unfold sealedL
      rw [List.set_append_right _ _ (by omega), List.take_left' rfl]
    rw [e1] at h
    have h2 : (sealedL m)[i]? = ((sealedL m).set i y)[i]? := congrArg (fun l => l[i]?) h
    rw [List.getElem?_set_self hi, List.getElem?_eq_getElem hi] at h2
    exact hne (Option.some.inj h2).symm
theorem open_set {k : Int} {m : List Int} {i : Nat} {y : Int} (hb : By m) (hi : i < (sealedL m).length) (h0 : 0 ≤ y) (h1 : y < 256) (hne : y ≠ (sealedL m)[i]) : (openD k ((sealedL m).set i y)).2 ≠ none := by
  unfold openD
  rw [opened_set hb hi h0 h1 hne]
  split
  · split
    · simp
    · split
      · simp
      · simp
  · simp
theorem kindD_take {xs : List Int} {n : Nat} {q : Int × Int} (h : kindD (xs.take n) = some q) : kindD xs = some q := by
  rcases n with _ | _ | _ | _ | _ | n
  · simp [kindD] at h
  all_goals rcases xs with _ | ⟨a, _ | ⟨b, _ | ⟨c, _ | ⟨d, _ | ⟨e, r⟩⟩⟩⟩⟩ <;> first
    | (simp [kindD] at h; done)
    | (simp only [List.take_succ_cons, kindD] at h ⊢; exact h)
    | (simp only [List.take_succ_cons, List.take_zero, kindD] at h; cases h)
theorem open_take {k : Int} {b : List Int} {n : Nat} (hk : kindOk k = true) (hl : b.length ≤ 1024) (hn : n < (sealedL (headL k b ++ b)).length) : (openD k ((sealedL (headL k b ++ b)).take n)).2 ≠ none := by
  have ho := openD_seal hk hl
  have hlen : (sealedL (headL k b ++ b)).length = b.length + 9 := by rw [sealedL_len]; simp [headL, le_len]; omega
  generalize sealedL (headL k b ++ b) = B at ho hn hlen ⊢
  unfold openD at ho ⊢
  rw [if_pos hk] at ho ⊢
  cases h : kindD (B.take n) with
  | none => simp
  | some q =>
    rw [kindD_take h] at ho
    simp only at ho ⊢
    by_cases hq : q.1 = k ∧ q.2 = (B.length : Int)
    · rw [if_neg (by rintro ⟨_, h2⟩; rw [List.length_take] at h2; omega)]; simp
    · rw [if_neg hq] at ho; cases ho
theorem x8 {a b : Nat} (ha : a < 256) (hb : b < 256) : ibits .xor .u8 (a : Int) (b : Int) = ((a ^^^ b : Nat) : Int) := by
  have h : a ^^^ b < 256 := Nat.xor_lt_two_pow (n := 8) ha hb
  show IntKind.u8.wrap (((BitVec.ofInt 8 (a : Int) ^^^ BitVec.ofInt 8 (b : Int)).toNat : Nat) : Int) = _
  rw [BitVec.ofInt_natCast, BitVec.ofInt_natCast, BitVec.toNat_xor, BitVec.toNat_ofNat, BitVec.toNat_ofNat, Nat.mod_eq_of_lt (by simpa using ha), Nat.mod_eq_of_lt (by simpa using hb), IntKind.wrap_u8]
  omega
theorem turned {x : Int} (hx : 0 ≤ x ∧ x < 256) {j : Nat} (hj : j < 8) : ∃ y, ibits .xor .u8 x (IntKind.u8.wrap (1 * 2 ^ j)) = y ∧ 0 ≤ y ∧ y < 256 ∧ y ≠ x := by
  obtain ⟨a, rfl⟩ : ∃ a : Nat, x = (a : Int) := ⟨x.toNat, by omega⟩
  have hp : (2 : Nat) ^ j < 256 := Nat.pow_lt_pow_right (by decide) hj
  have hp0 : 0 < (2 : Nat) ^ j := Nat.pos_of_ne_zero (by simp)
  have e : IntKind.u8.wrap (1 * 2 ^ j) = ((2 ^ j : Nat) : Int) := by
    rw [Int.one_mul, show (2 : Int) ^ j = ((2 ^ j : Nat) : Int) by push_cast; rfl, IntKind.wrap_u8]
    omega
  have ha : a < 256 := by omega
  rw [e, x8 ha hp]
  refine ⟨_, rfl, by omega, ?_, ?_⟩
  · have : a ^^^ 2 ^ j < 256 := Nat.xor_lt_two_pow (n := 8) ha hp
    omega
  · intro h
    have h2 : a ^^^ 2 ^ j = a := by omega
    have h3 : 2 ^ j = 0 := by
      have := congrArg (a ^^^ ·) h2
      simp [← Nat.xor_assoc] at this
    omega
theorem cut_at {at_ : Int} {n : Nat} (h0 : 0 < n) (hn : n ≤ 2000) : ∃ k : Nat, IntKind.i64.wrap (Int.tmod (IntKind.u64.wrap at_) (IntKind.u64.wrap (n : Int))) = (k : Int) ∧ k < n := by
  have hu := wu64_lt at_
  rw [wu64 (n := (n : Int)) (by omega) (by omega)]
  have h1 : 0 ≤ Int.tmod (IntKind.u64.wrap at_) (n : Int) := Int.tmod_nonneg _ hu.1
  have h2 : Int.tmod (IntKind.u64.wrap at_) (n : Int) < n := Int.tmod_lt_of_pos _ (by omega)
  rw [wi64 (by omega) (by omega)]
  exact ⟨(Int.tmod (IntKind.u64.wrap at_) (n : Int)).toNat, by omega, by omega⟩
theorem bit_at {at_ : Int} {n : Nat} (h0 : 0 < n) (hn : n ≤ 2000) : ∃ i j : Nat, i < n ∧ j < 8 ∧ IntKind.i64.wrap (Int.tdiv (IntKind.i64.wrap (Int.tmod (IntKind.u64.wrap at_) (IntKind.u64.wrap (IntKind.i64.wrap (8 * (n : Int)))))) 8) = (i : Int) ∧ IntKind.u64.wrap (Int.tmod (IntKind.i64.wrap (Int.tmod (IntKind.u64.wrap at_) (IntKind.u64.wrap (IntKind.i64.wrap (8 * (n : Int)))))) 8) = (j : Int) ∧ IntKind.u64.wrap (IntKind.i64.wrap (8 * (n : Int))) ≠ 0 := by
  have hu := wu64_lt at_
  rw [wi64 (n := 8 * (n : Int)) (by omega) (by omega), wu64 (n := 8 * (n : Int)) (by omega) (by omega)]
  have h1 : 0 ≤ Int.tmod (IntKind.u64.wrap at_) (8 * (n : Int)) := Int.tmod_nonneg _ hu.1
  have h2 : Int.tmod (IntKind.u64.wrap at_) (8 * (n : Int)) < 8 * n := Int.tmod_lt_of_pos _ (by omega)
  rw [wi64 (n := Int.tmod (IntKind.u64.wrap at_) (8 * (n : Int))) (by omega) (by omega)]
  generalize Int.tmod (IntKind.u64.wrap at_) (8 * (n : Int)) = t at h1 h2 ⊢
  have h3 : Int.tdiv t 8 = t / 8 := Int.tdiv_eq_ediv_of_nonneg h1
  have h4 : Int.tmod t 8 = t % 8 := Int.tmod_eq_emod_of_nonneg h1
  rw [h3, h4, wi64 (n := t / 8) (by omega) (by omega), wu64 (n := t % 8) (by omega) (by omega)]
  exact ⟨(t / 8).toNat, (t % 8).toNat, by omega, by omega, by omega, by omega, by omega⟩
end Go.Proofs.YtihignmcjldiiaaDoor.Mir
namespace Go.Proofs.YtihignmcjldiiaaDoor.Mir
open Go Go.RowKit
set_option maxRecDepth 100000
theorem give_loop28 (N : Nat) {n : ByteArray} {f : Int} {L : List Rul} (hL : L.length ≤ 4398046511104) (z : ByteArray × Int × List Rul) : ∀ (k M i : Nat) (acc : List Rul), i + k = L.length → k < M → acc.length = i →
    iter (b_11_0 N) M ((), (), (), (i : Int), (n, f, L), z, (n, f, acc)) = some ((), (), z, (n, f, acc ++ L.drop i)) := by
  intro k
  induction k with
  | zero =>
    intro M i acc hi hM ha
    obtain ⟨M, rfl⟩ : ∃ m, M = m + 1 := ⟨M - 1, by omega⟩
    show b_11_0 N (iter (b_11_0 N) M) _ = _
    unfold b_11_0
    simp only
    rw [decide_eq_false (show ¬ (i : Int) < (L.length : Int) by omega), List.drop_eq_nil_of_le (by omega), List.append_nil]; rfl
  | succ k ih =>
    intro M i acc hi hM ha
    obtain ⟨M, rfl⟩ : ∃ m, M = m + 1 := ⟨M - 1, by omega⟩
    have ih' := ih M (i + 1) (acc ++ [gR L i]) (by omega) (by omega) (by rw [List.length_append, ha]; rfl)
    show b_11_0 N (iter (b_11_0 N) M) _ = _
    generalize iter (b_11_0 N) M = I at ih' ⊢
    unfold b_11_0
    simp only
    rw [decide_eq_true (show (i : Int) < (L.length : Int) by omega), decide_eq_true (show 0 ≤ (i : Int) ∧ (i : Int) < (L.length : Int) by omega), wi64 (n := (i : Int) + 1) (by omega) (by omega), show (i : Int) + 1 = ((i + 1 : Nat) : Int) by omega]
    simp only [cond_true, Int.toNat_natCast]
    show (bif decide ((acc.length + [gR L i].length) * 32 ≤ 140737488355328) then I ((), (), (), ((i + 1 : Nat) : Int), (n, f, L), z, (n, f, acc ++ [gR L i])) else none) = _
    rw [decide_eq_true (by rw [List.length_singleton]; omega), cond_true, ih', List.append_assoc]
    have hi' : i < L.length := by omega
    have e : gR L i = L[i] := by unfold gR; rw [List.getD_eq_getElem?_getD, List.getElem?_eq_getElem hi']; rfl
    rw [List.drop_eq_getElem_cons hi', e]; rfl
theorem give_at28 {N : Nat} (n : ByteArray) (f : Int) {L : List Rul} (hL : L.length ≤ 4398046511104) (hN : L.length < N) : f_11 N n f L = some (n, f, L) := by
  have h := give_loop28 N (n := n) (f := f) hL (ByteArray.empty, 0, []) L.length N 0 [] (by omega) hN rfl
  have h' : l_11_0 N ((), (), (), 0, (n, f, L), (ByteArray.empty, 0, []), (n, f, [])) = some ((), (), (ByteArray.empty, 0, []), (n, f, L)) := h
  unfold f_11
  rw [h']; rfl
theorem big_loop28 (N : Nat) {n : ByteArray} {f : Int} {L : List Rul} : ∀ (k M i : Nat), i + k = 60 → k < M → ∃ r, iter (b_5_0 N) M ((), (i : Int), (n, f, L)) = some r ∧ (r = .inl true ∨ (r = .inr ((), (n, f, L)) ∧ ∀ j, i ≤ j → j < L.length → j < 60 → (gR L j).2.2.size ≤ 200)) := by
  intro k
  induction k with
  | zero =>
    intro M i hi hM
    obtain ⟨M, rfl⟩ : ∃ m, M = m + 1 := ⟨M - 1, by omega⟩
    refine ⟨.inr ((), (n, f, L)), ?_, .inr ⟨rfl, fun j h1 h2 h3 => by omega⟩⟩
    show b_5_0 N (iter (b_5_0 N) M) _ = _
    unfold b_5_0
    simp only
    rw [decide_eq_false (show ¬ (i : Int) < 60 by omega)]
    cases decide ((i : Int) < (L.length : Int)) <;> rfl
  | succ k ih =>
    intro M i hi hM
    obtain ⟨M, rfl⟩ : ∃ m, M = m + 1 := ⟨M - 1, by omega⟩
    obtain ⟨r, h1, h2⟩ := ih M (i + 1) (by omega) (by omega)
    by_cases hl : i < L.length
    · by_cases hs : (gR L i).2.2.size > 200
      · refine ⟨.inl true, ?_, .inl rfl⟩
        show b_5_0 N (iter (b_5_0 N) M) _ = _
        unfold b_5_0
        simp only
        rw [decide_eq_true (show (i : Int) < 60 by omega), decide_eq_true (show (i : Int) < (L.length : Int) by omega), decide_eq_true (show 0 ≤ (i : Int) ∧ (i : Int) < (L.length : Int) by omega), Int.toNat_natCast]
        show (bif decide (((gR L i).2.2.size : Int) > 200) then _ else _) = _
        rw [decide_eq_true (by omega)]; rfl
      · refine ⟨r, ?_, ?_⟩
        · rw [← h1]
          show b_5_0 N (iter (b_5_0 N) M) _ = _
          generalize iter (b_5_0 N) M = I
          unfold b_5_0
          simp only
          rw [decide_eq_true (show (i : Int) < 60 by omega), decide_eq_true (show (i : Int) < (L.length : Int) by omega), decide_eq_true (show 0 ≤ (i : Int) ∧ (i : Int) < (L.length : Int) by omega), Int.toNat_natCast, wi64 (n := (i : Int) + 1) (by omega) (by omega)]
          show (bif decide (((gR L i).2.2.size : Int) > 200) then _ else _) = _
          rw [decide_eq_false (by omega)]; rfl
        · rcases h2 with h2 | ⟨h2, h3⟩
          · exact .inl h2
          · refine .inr ⟨h2, fun j a b c => ?_⟩
            by_cases hj : j = i
            · subst hj; omega
            · exact h3 j (by omega) b c
    · refine ⟨.inr ((), (n, f, L)), ?_, .inr ⟨rfl, fun j h1 h2 h3 => by omega⟩⟩
      show b_5_0 N (iter (b_5_0 N) M) _ = _
      unfold b_5_0
      simp only
      rw [decide_eq_false (show ¬ (i : Int) < (L.length : Int) by omega)]; rfl
theorem big_at28 {N : Nat} (n : ByteArray) (f : Int) (L : List Rul) (hN : 61 ≤ N) : ∃ b, f_5 N n f L = some b ∧ (b = false → L.length ≤ 60 ∧ n.size ≤ 200 ∧ ∀ i, i < L.length → (gR L i).2.2.size ≤ 200) := by
  obtain ⟨r, h1, h2⟩ := big_loop28 N (n := n) (f := f) (L := L) 60 N 0 rfl (by omega)
  have h' : l_5_0 N ((), 0, (n, f, L)) = some r := h1
  unfold f_5
  rw [h']
  rcases h2 with rfl | ⟨rfl, h3⟩
  · exact ⟨true, rfl, fun h => by cases h⟩
  · show ∃ b, (bif decide ((L.length : Int) > 60) then some true else some (decide ((n.size : Int) > 200))) = some b ∧ _
    by_cases hl : L.length > 60
    · rw [decide_eq_true (show (L.length : Int) > 60 by omega)]
      exact ⟨true, rfl, fun h => by cases h⟩
    · rw [decide_eq_false (show ¬ (L.length : Int) > 60 by omega)]
      refine ⟨_, rfl, fun h => ?_⟩
      have := of_decide_eq_false h
      exact ⟨by omega, by omega, fun i hi => h3 i (Nat.zero_le _) hi (by omega)⟩
end Go.Proofs.YtihignmcjldiiaaDoor.Mir
