/- Texts joined. -/
import Derived.RangeFuncBox
import Derived.RangeFuncNested
import Derived.RangeFuncBound
import Derived.RangeFuncCalls
import Derived.RangeFuncLeaves
import Derived.Shelf.Abstract
import Derived.WalkKit
import Derived.OwnWalkIn
import Derived.TacticsInMore
import Derived.LoopNIn
import Derived.LoopIn
import Derived.Test.YtmdnnlfoljdfpaaGreatDoorProg
import Derived.Test.YtmdnnlfoljdfpaaGreatDoorKx5d6646
import Derived.Test.YtmdnnlfoljdfpaaGreatDoorKx28db2b
import Derived.Shelf.Strings.SlTrimAscii
import Derived.Shelf.Spec.SlicesGrow
import Derived.Laws.AppendOwn
import Derived.KernelRfl
namespace Go.Proofs.YtmdnnlfoljdfpaaGreatDoor
open Go Go.RowKit Go.Shelf Go.Proofs
attribute [local go_sem] Oper.semAt_some
def upTo {α : Type} (f : Nat → α) (k : Nat) : List α := (List.range k).map f
theorem upTo_succ {α : Type} (f : Nat → α) (k : Nat) : upTo f (k + 1) = upTo f k ++ [f k] := by simp [upTo, List.range_succ]
theorem upTo_length {α : Type} (f : Nat → α) (k : Nat) : (upTo f k).length = k := by simp [upTo]
def backAt (zs : List Int) (len k : Nat) : Int × Int := ((len : Int) - 1 - k, zs[len - 1 - k]?.getD 0)
def KeepB (Bs n₀ : Nat) (W W' : World) : Prop := (∀ v, W.cell? ⟨Bs, 0, none⟩ = some v → W'.cell? ⟨Bs, 0, none⟩ = some v) ∧ Below n₀ W W'
theorem KeepB.trans {Bs n₀ : Nat} {A B C : World} (h : KeepB Bs n₀ A B) (k : KeepB Bs n₀ B C) : KeepB Bs n₀ A C := ⟨fun v e => k.1 v (h.1 v e), h.2.trans k.2⟩
set_option maxRecDepth 100000 in
set_option maxHeartbeats 2000000 in
theorem back1_in (F : Fence) (n : Nat) (h8 : F.fn 100) (hro : F.round = none) (hn : 1 ≤ n) (l Bs n₀ b off len cap : Nat) (zs : List Int) (hreach : len ≤ 140737488351232) (hb : b < n₀) (J Jx : List (Int × Int) → World → Prop)
    (hY : ∀ pre x W, J pre W → pre.length < len → YieldAt F (n - 1) Tryz.prog l #[.int .i64 x.1, .int .u8 x.2] W fun e W' =>
      (e = .returned (.bool true) ∧ J (pre ++ [x]) W' ∧ KeepB Bs n₀ W W') ∨ (e = .returned (.bool false) ∧ Jx (pre ++ [x]) W'))
    (W : World) (hBs : W.cell? ⟨Bs, 0, none⟩ = some (.slice (some ⟨b, off, none⟩) len cap)) (hc : ∀ j, j < len → W.cell? ⟨b, off + j, none⟩ = some (.int .u8 (zs[j]?.getD 0))) (h0 : J [] W) :
    CallsIn F n Tryz.prog 100 #[.func (.yield l) #[] #[], .pointer (some ⟨Bs, 0, none⟩)] W fun e W' => (∃ v, e = .returned v) ∧
      ((∃ ys, ys = upTo (backAt zs len) len ∧ J ys W') ∨ (∃ pre, (∃ k, k ≤ len ∧ pre = upTo (backAt zs len) k) ∧ Jx pre W')) := by
  refine callsIn_of_wp Tryz.func100 rfl h8 ?_ hro
  simp only [Tryz.ntmps100, List.size_toArray, List.length_cons, List.length_nil, Nat.reduceAdd, Nat.reduceSub, Array.replicate_succ, Array.replicate_zero, List.push_toArray, List.append_toArray, List.nil_append, List.cons_append]
  gi_wp2
  gi_loopw [3] (fun i wr => ∃ k : Nat, k ≤ len ∧ i = .int .i64 ((len : Int) - 1 - k) ∧ J (upTo (backAt zs len) k) wr ∧ wr.cell? ⟨Bs, 0, none⟩ = some (.slice (some ⟨b, off, none⟩) len cap) ∧ Below n₀ W wr)
    (fun i _ => (intOf i + 1).toNat)
  case atStart => exact ⟨0, Nat.zero_le _, by simp, h0, hBs, Below.refl _ _⟩
  case round =>
    obtain ⟨k, hk, rfl, hJs, hBs', hnx⟩ := hrel
    have hcx : k < len → wr.cell? ⟨b, off + (len - 1 - k), none⟩ = some (.int .u8 (zs[len - 1 - k]?.getD 0)) := fun h => (hnx.cell (p := ⟨b, off + (len - 1 - k), none⟩) hb).trans (hc _ (by omega))
    by_cases hlt : k < len
    · obtain ⟨fn, tmps, assign, body, hy, hR⟩ := hY _ (backAt zs len k) wr hJs (by rw [upTo_length]; exact hlt)
      dsimp only [backAt] at hy
      have hcx' := hcx hlt
      obtain ⟨m, hm1, hm2, hm3⟩ : ∃ m : Nat, (len : Int) - 1 - k = m ∧ len - 1 - k = m ∧ m < len := ⟨len - 1 - k, by omega, rfl, by omega⟩
      rw [hm2] at hcx'
      rw [hm1, hm2] at hy
      rw [hm1]
      gi_wp2
      refine hR.mono ?_
      rintro e W3 (⟨rfl, hJ3, hk3⟩ | ⟨rfl, hJx3⟩)
      · gi_wp2
        go_roundw
        case rel => exact ⟨k + 1, by omega, by congr 1; omega, by rw [upTo_succ]; exact hJ3, hk3.1 _ hBs', hnx.trans hk3.2⟩
        case measure => simp [intOf]
      · gi_wp2
        refine bodyPost_ret (results_none rfl _ _ _) rfl ?_
        exact ⟨⟨_, rfl⟩, .inr ⟨_, ⟨k + 1, by omega, (upTo_succ _ _).symm⟩, hJx3⟩⟩
    · obtain rfl : k = len := by omega
      gi_wp2
      go_end0
      exact ⟨⟨_, rfl⟩, .inl ⟨_, rfl, hJs⟩⟩
set_option maxRecDepth 100000 in
set_option maxHeartbeats 1000000 in
theorem back1_nil_in (F : Fence) (n : Nat) (h8 : F.fn 100) (hro : F.round = none) (l Bs : Nat) (J : List (Int × Int) → World → Prop) (W : World) (hBs : W.cell? ⟨Bs, 0, none⟩ = some (.slice none 0 0)) (h0 : J [] W) :
    CallsIn F n Tryz.prog 100 #[.func (.yield l) #[] #[], .pointer (some ⟨Bs, 0, none⟩)] W fun e W' => (∃ v, e = .returned v) ∧ J [] W' := by
  refine callsIn_of_wp Tryz.func100 rfl h8 ?_ hro
  simp only [Tryz.ntmps100, List.size_toArray, List.length_cons, List.length_nil, Nat.reduceAdd, Nat.reduceSub, Array.replicate_succ, Array.replicate_zero, List.push_toArray, List.append_toArray, List.nil_append, List.cons_append]
  gi_wp2
  gi_loopw [3] (fun i wr => i = .int .i64 (-1) ∧ J [] wr) (fun _ _ => 0)
  case atStart => exact ⟨rfl, h0⟩
  case round =>
    obtain ⟨rfl, hJs⟩ := hrel
    gi_wp2
    go_end0
    exact ⟨⟨_, rfl⟩, hJs⟩
set_option maxHeartbeats 1000000 in
theorem backward_in (F : Fence) (n : Nat) (h6 : F.fn 90) (hro : F.round = none) (a : Option Addr) (len cap : Nat) (w : World) :
    CallsIn F n Tryz.prog 90 #[.slice a len cap] w fun e w' => e = .returned (.func (.func 100) #[] #[.pointer (some ⟨w.heap.size, 0, none⟩)]) ∧ w' = w.alloc (.cells #[.slice a len cap] 25) := by
  refine callsIn_of_wp Tryz.func90 rfl h6 ?_ hro
  simp only [Tryz.ntmps90, List.size_toArray, List.length_cons, List.length_nil, Nat.reduceAdd, Nat.reduceSub, Array.replicate_succ, Array.replicate_zero, List.push_toArray, List.append_toArray, List.nil_append, List.cons_append]
  gi_wp2
  go_ret
  exact ⟨rfl, rfl⟩
def Bytes (n₀ : Nat) (W : World) (sv : Value) (zs : List Int) : Prop :=
  (sv = .slice none 0 0 ∧ zs = []) ∨ ∃ b off cap, sv = .slice (some ⟨b, off, none⟩) zs.length cap ∧ b < n₀ ∧ ∀ j, j < zs.length → W.cell? ⟨b, off + j, none⟩ = some (.int .u8 (zs[j]?.getD 0))
theorem Bytes.below {n₀ : Nat} {A B : World} (h : Below n₀ A B) {sv : Value} {zs : List Int} : Bytes n₀ A sv zs → Bytes n₀ B sv zs
  | .inl e => .inl e
  | .inr ⟨b, off, cap, e, hb, hc⟩ => .inr ⟨b, off, cap, e, hb, fun j hj => (h.cell (p := ⟨b, off + j, none⟩) hb).trans (hc j hj)⟩
theorem back_stops (F : Fence) (n : Nat) (h8 : F.fn 100) (hro : F.round = none) (hn : 1 ≤ n) (Bs n₀ : Nat) (sv : Value) (zs : List Int) (hreach : zs.length ≤ 140737488351232) (w : World) (hBs : Bs < w.heap.size) (hn₀ : n₀ ≤ w.heap.size)
    (hc : w.cell? ⟨Bs, 0, none⟩ = some sv) (hI : Bytes n₀ w sv zs) :
    SeqStopsK F n Tryz.prog 100 #[.pointer (some ⟨Bs, 0, none⟩)] (fun x : Int × Int => #[Value.int .i64 x.1, Value.int .u8 x.2]) (KeepB Bs n₀) (fun ys => ys = upTo (backAt zs zs.length) zs.length)
      (fun pre => ∃ k, k ≤ zs.length ∧ pre = upTo (backAt zs zs.length) k) zs.length w := fun l J Jx W hW _ _ hY h0 => by
  have hc' := (hW.cell (p := ⟨Bs, 0, none⟩) hBs).trans hc
  rcases hI.below (hW.mono hn₀) with ⟨rfl, rfl⟩ | ⟨b, off, cap, rfl, hb, hcs⟩
  · exact (back1_nil_in F n h8 hro l Bs J W hc' h0).mono fun e W' ⟨he, hj⟩ => ⟨he, .inl ⟨_, rfl, hj⟩⟩
  · exact back1_in F n h8 hro hn l Bs n₀ b off zs.length cap zs hreach hb J Jx hY W hc' hcs h0
def numStep (v : Int) (x : Int × Int) : Int := bits .or .u64 (IntKind.u64.wrap (v * 256)) (IntKind.u64.wrap x.2)
theorem upTo_nil {α : Type} (f : Nat → α) : upTo f 0 = [] := rfl
def leftOf (b off len cap n : Nat) : Value := .slice (some ⟨b, if cap = n then off else off + n, none⟩) (len - n) (cap - n)
set_option maxRecDepth 100000 in
set_option maxHeartbeats 1000000 in
theorem take_good (β b off len cap n : Nat) (w : World) (hn : 1 ≤ n) (hnl : n ≤ len) (hcap : len ≤ cap)
    (h0 : w.cell? ⟨β, 0, none⟩ = some (.slice (some ⟨b, off, none⟩) len cap)) (h1 : w.cell? ⟨β, 1, none⟩ = some (.bool false)) (hf : w.frozen? ⟨β, 0, none⟩ = false) :
    Calls Tryz.prog 74 #[.pointer (some ⟨β, 0, none⟩), .int .i64 n] w fun e W' => e = .returned (.slice (some ⟨b, off, none⟩) n cap) ∧ W' = w.setCell ⟨β, 0, none⟩ (leftOf b off len cap n) := by
  go_enter Tryz.func74, Tryz.ntmps74
  go_wp2
  · go_ret
    exact ⟨rfl, by unfold leftOf; simp⟩
  · have hcn : ¬ cap = n := by omega
    go_ret
    exact ⟨rfl, by unfold leftOf; rw [if_neg hcn]⟩
def gone (β : Nat) (w : World) : World := (w.setCell ⟨β, 0, none⟩ (.slice none 0 0)).setCell ⟨β, 1, none⟩ (.bool true)
set_option maxRecDepth 100000 in
set_option maxHeartbeats 1000000 in
theorem take_bad (β len cap n : Nat) (a : Option Addr) (bd : Bool) (w : World) (hbad : bd = true ∨ len < n)
    (h0 : w.cell? ⟨β, 0, none⟩ = some (.slice a len cap)) (h1 : w.cell? ⟨β, 1, none⟩ = some (.bool bd)) (hf : w.frozen? ⟨β, 0, none⟩ = false) (hf1 : w.frozen? ⟨β, 1, none⟩ = false) :
    Calls Tryz.prog 74 #[.pointer (some ⟨β, 0, none⟩), .int .i64 n] w fun e W' => e = .returned (.slice none 0 0) ∧ W' = gone β w := by
  cases bd with
  | true =>
    go_enter Tryz.func74, Tryz.ntmps74
    go_wp2
    go_ret
    exact ⟨rfl, rfl⟩
  | false =>
    have hbad : len < n := by simpa using hbad
    go_enter Tryz.func74, Tryz.ntmps74
    go_wp2
    go_ret
    exact ⟨rfl, rfl⟩
set_option maxRecDepth 100000 in
set_option maxHeartbeats 2000000 in
theorem number_bad (β len cap n : Nat) (ad : Option Addr) (bd : Bool) (w : World) (hbad : bd = true ∨ len < n) (hβ : β < w.heap.size)
    (h0 : w.cell? ⟨β, 0, none⟩ = some (.slice ad len cap)) (h1 : w.cell? ⟨β, 1, none⟩ = some (.bool bd)) (hf : w.frozen? ⟨β, 0, none⟩ = false) (hf1 : w.frozen? ⟨β, 1, none⟩ = false) :
    CallsIn Fence.wide 5 Tryz.prog 75 #[.pointer (some ⟨β, 0, none⟩), .int .i64 n] w fun e W' => e = .returned (.int .u64 0) ∧ Below w.heap.size (gone β w) W' := by
  refine callsIn_of_wp_marks Tryz.func75 rfl trivial ?_ rfl
  simp only [Tryz.ntmps75, List.size_toArray, List.length_cons, List.length_nil, Nat.reduceAdd, Nat.reduceSub, Array.replicate_succ, Array.replicate_zero, List.push_toArray, List.append_toArray, List.nil_append, List.cons_append]
  have h0' : (w.alloc (.cells #[.int .u64 0] 80)).cell? ⟨β, 0, none⟩ = some (.slice ad len cap) := by rw [World.cell?_alloc_lt _ _ _ hβ]; exact h0
  have h1' : (w.alloc (.cells #[.int .u64 0] 80)).cell? ⟨β, 1, none⟩ = some (.bool bd) := by rw [World.cell?_alloc_lt _ _ _ hβ]; exact h1
  have hf' : (w.alloc (.cells #[.int .u64 0] 80)).frozen? ⟨β, 0, none⟩ = false := by rw [frozen?_alloc_cells]; exact hf
  have hf1' : (w.alloc (.cells #[.int .u64 0] 80)).frozen? ⟨β, 1, none⟩ = false := by rw [frozen?_alloc_cells]; exact hf1
  gi_wp2_with (first | (refine ⟨trivial, ?_⟩; gi_at_call 90; refine (backward_in Fence.wide _ trivial rfl _ _ _ _).mono ?_; rintro e w' ⟨rfl, rfl⟩) | (refine ⟨trivial, ?_⟩; gi_at_call 74; refine (callsIn_wide.2 (take_bad β len cap n ad bd _ hbad h0' h1' hf' hf1')).mono ?_; rintro e w' ⟨rfl, rfl⟩; unfold gone))
  have hAs : (gone β w).heap.size = w.heap.size := by simp [gone]
  have hAe : (w.setCell ⟨β, 0, none⟩ (.slice none 0 0)).setCell ⟨β, 1, none⟩ (.bool true) = gone β w := rfl
  try rw [hAe]
  generalize hA : gone β w = A at hAs ⊢
  have bS := Boxed.new A 80 (.int .u64 0)
  have bN := Boxed.new (A.alloc (.cells #[.int .u64 0] 80)) 25 (.slice none 0 0)
  rw [World.size_alloc, hAs] at bN
  rw [hAs] at bS
  have hB0 : Below w.heap.size A ((A.alloc (.cells #[.int .u64 0] 80)).alloc (.cells #[.slice none 0 0] 25)) := ((Below.refl _ A).alloc (by omega) _).alloc (by simp; omega) _
  have hBy : Bytes w.heap.size A (.slice none 0 0) [] := .inl ⟨rfl, rfl⟩
  refine wpIn_rangeFunc_ownG rfl (by omega) (gf := 100) (lb := #[.pointer (some ⟨w.heap.size + 1, 0, none⟩)]) (by simp [Act.eval]) trivial (enters_of Tryz.func100 (by kernel_rfl) rfl)
    (back_stops Fence.wide 4 trivial rfl (by omega) (w.heap.size + 1) w.heap.size _ [] (by simp) _ (by simp; omega) (by simp; omega) bN.cell (hBy.below hB0)) KeepB.trans
    (fun W l o o' hl h hcl _ => ⟨fun v e => by
      have hne' : l ≠ w.heap.size + 1 := fun el => by
        subst el
        unfold World.cell? at e
        rw [h] at e
        cases o <;> simp_all [Obj.isCells]
      exact cell_kept e (grownBy_putObj' W l o') (fun r e => by cases e; exact ⟨_, h, hcl⟩), belowK_b (w := A) (by omega) W l o o' (by simp at hl; omega) h hcl (by assumption)⟩) (Below.refl _ _) (fun _ => rfl)
    (fun pre W => (W.cell? ⟨w.heap.size, 0, none⟩ = some (.int .u64 (pre.foldl numStep 0)) ∧ W.frozen? ⟨w.heap.size, 0, none⟩ = false) ∧ Below w.heap.size A W)
    (fun _ _ _ => False)
    (OwnFrom.and (Own.from (fun s A B row hs hg hr => ⟨cell_kept hs.1 hg hr, (frozen_kept hs.1 hg hr).trans hs.2⟩) _) (ownFrom_below (by omega) (by simp; omega)))
    (fun _ _ _ _ _ hs _ _ => hs)
    ⟨⟨(bS.alloc _).cell, (bS.alloc _).frozen⟩, hB0⟩
    (fun x => { tmps := #[.pointer (some ⟨β, 0, none⟩), .int .i64 n, undef, undef, .int .u64 0, .pointer (some ⟨w.heap.size, 0, none⟩), undef, .int .u8 x.2, .pointer (some ⟨β, 0, none⟩), .int .i64 n, .slice none 0 0, .func (.func 100) #[] #[.pointer (some ⟨w.heap.size + 1, 0, none⟩)], .int .i64 x.1, .int .u8 x.2, undef, undef, undef, undef, undef, undef], defers := [] }) ?assign ?body ?done ?stop
  case assign =>
    intro l x W K hK
    gi_wp2
    exact hK
  case body =>
    rintro l pre x W _ hlen
    exact absurd hlen (Nat.not_lt_zero _)
  case done =>
    rintro D ys W hD rfl ⟨⟨hc, _⟩, hB⟩ hK
    gi_wp2
    refine ⟨by simp, .inl ⟨_, _, rfl, run_takeDeferred hK, ?_⟩⟩
    exact ⟨_, results_tmp rfl _ _ _, rfl, by rw [hA]; exact hB.trans (belowK_b (w := A) (by omega) W D _ _ (by simp at hD; omega) hK rfl rfl)⟩
  case stop =>
    rintro D c pre W _ _ h _
    exact h.elim
set_option maxRecDepth 100000 in
set_option maxHeartbeats 2000000 in
theorem number_good (β b off len cap : Nat) (zs : List Int) (w : World) (hn : 1 ≤ zs.length) (hnl : zs.length ≤ len) (hcap : len ≤ cap) (hmax : zs.length ≤ 140737488351232) (hβ : β < w.heap.size)
    (hb : b < w.heap.size) (hne : b ≠ β) (h0 : w.cell? ⟨β, 0, none⟩ = some (.slice (some ⟨b, off, none⟩) len cap)) (h1 : w.cell? ⟨β, 1, none⟩ = some (.bool false)) (hf : w.frozen? ⟨β, 0, none⟩ = false)
    (hc : ∀ j, j < zs.length → w.cell? ⟨b, off + j, none⟩ = some (.int .u8 (zs[j]?.getD 0))) :
    CallsIn Fence.wide 5 Tryz.prog 75 #[.pointer (some ⟨β, 0, none⟩), .int .i64 (zs.length : Int)] w fun e W' => e = .returned (.int .u64 ((upTo (backAt zs zs.length) zs.length).foldl numStep 0)) ∧
      Below w.heap.size (w.setCell ⟨β, 0, none⟩ (leftOf b off len cap zs.length)) W' := by
  refine callsIn_of_wp_marks Tryz.func75 rfl trivial ?_ rfl
  simp only [Tryz.ntmps75, List.size_toArray, List.length_cons, List.length_nil, Nat.reduceAdd, Nat.reduceSub, Array.replicate_succ, Array.replicate_zero, List.push_toArray, List.append_toArray, List.nil_append, List.cons_append]
  have h0' : (w.alloc (.cells #[.int .u64 0] 80)).cell? ⟨β, 0, none⟩ = some (.slice (some ⟨b, off, none⟩) len cap) := by rw [World.cell?_alloc_lt _ _ _ hβ]; exact h0
  have h1' : (w.alloc (.cells #[.int .u64 0] 80)).cell? ⟨β, 1, none⟩ = some (.bool false) := by rw [World.cell?_alloc_lt _ _ _ hβ]; exact h1
  have hf' : (w.alloc (.cells #[.int .u64 0] 80)).frozen? ⟨β, 0, none⟩ = false := by rw [frozen?_alloc_cells]; exact hf
  gi_wp2_with (first | (refine ⟨trivial, ?_⟩; gi_at_call 90; refine (backward_in Fence.wide _ trivial rfl _ _ _ _).mono ?_; rintro e w' ⟨rfl, rfl⟩) | (refine ⟨trivial, ?_⟩; gi_at_call 74; refine (callsIn_wide.2 (take_good β b off len cap zs.length _ hn hnl hcap h0' h1' hf')).mono ?_; rintro e w' ⟨rfl, rfl⟩))
  have hAs : (w.setCell ⟨β, 0, none⟩ (leftOf b off len cap zs.length)).heap.size = w.heap.size := by simp
  generalize hA : w.setCell ⟨β, 0, none⟩ (leftOf b off len cap zs.length) = A at hAs ⊢
  have bS := Boxed.new A 80 (.int .u64 0)
  have bN := Boxed.new (A.alloc (.cells #[.int .u64 0] 80)) 25 (.slice (some ⟨b, off, none⟩) zs.length cap)
  rw [World.size_alloc, hAs] at bN
  rw [hAs] at bS
  have hB0 : Below w.heap.size A ((A.alloc (.cells #[.int .u64 0] 80)).alloc (.cells #[.slice (some ⟨b, off, none⟩) zs.length cap] 25)) := ((Below.refl _ A).alloc (by omega) _).alloc (by simp; omega) _
  have hBy : Bytes w.heap.size A (.slice (some ⟨b, off, none⟩) zs.length cap) zs := .inr ⟨b, off, cap, rfl, hb, fun j hj => by
    rw [← hA, World.cell?_setCell_other _ _ _ _ (by simp)]
    exact hc j hj⟩
  refine wpIn_rangeFunc_ownG rfl (by omega) (gf := 100) (lb := #[.pointer (some ⟨w.heap.size + 1, 0, none⟩)]) (by simp [Act.eval]) trivial (enters_of Tryz.func100 (by kernel_rfl) rfl)
    (back_stops Fence.wide 4 trivial rfl (by omega) (w.heap.size + 1) w.heap.size _ zs (by omega) _ (by simp; omega) (by simp; omega) bN.cell (hBy.below hB0)) KeepB.trans
    (fun W l o o' hl h hcl _ => ⟨fun v e => by
      have hne' : l ≠ w.heap.size + 1 := fun el => by
        subst el
        unfold World.cell? at e
        rw [h] at e
        cases o <;> simp_all [Obj.isCells]
      exact cell_kept e (grownBy_putObj' W l o') (fun r e => by cases e; exact ⟨_, h, hcl⟩), belowK_b (w := A) (by omega) W l o o' (by simp at hl; omega) h hcl (by assumption)⟩) (Below.refl _ _) (fun _ => rfl)
    (fun pre W => (W.cell? ⟨w.heap.size, 0, none⟩ = some (.int .u64 (pre.foldl numStep 0)) ∧ W.frozen? ⟨w.heap.size, 0, none⟩ = false) ∧ Below w.heap.size A W)
    (fun _ _ _ => False)
    (OwnFrom.and (Own.from (fun s A B row hs hg hr => ⟨cell_kept hs.1 hg hr, (frozen_kept hs.1 hg hr).trans hs.2⟩) _) (ownFrom_below (by omega) (by simp; omega)))
    (fun _ _ _ _ _ hs _ _ => hs)
    ⟨⟨(bS.alloc _).cell, (bS.alloc _).frozen⟩, hB0⟩
    (fun x => { tmps := #[.pointer (some ⟨β, 0, none⟩), .int .i64 (zs.length : Int), undef, undef, .int .u64 0, .pointer (some ⟨w.heap.size, 0, none⟩), undef, .int .u8 x.2, .pointer (some ⟨β, 0, none⟩), .int .i64 (zs.length : Int), .slice (some ⟨b, off, none⟩) zs.length cap, .func (.func 100) #[] #[.pointer (some ⟨w.heap.size + 1, 0, none⟩)], .int .i64 x.1, .int .u8 x.2, undef, undef, undef, undef, undef, undef], defers := [] }) ?assign ?body ?done ?stop
  case assign =>
    intro l x W K hK
    gi_wp2
    exact hK
  case body =>
    rintro l pre x W ⟨⟨hc, hf⟩, hB⟩ _
    gi_wp2
    refine ⟨(KeepsOthers.setCell _ _ _).from _, ⟨fun v e => ?_, (Below.refl w.heap.size W).setCell (p := ⟨w.heap.size, 0, none⟩) (Nat.le_refl _) _⟩, ⟨?_, by rw [World.frozen?_setCell]; exact hf⟩, hB.setCell (p := ⟨w.heap.size, 0, none⟩) (Nat.le_refl _) _⟩
    · rw [World.cell?_setCell_other _ _ _ _ (by simp)]; exact e
    · rw [List.foldl_append]; exact World.cell?_setCell_same' _ _ _ (by rw [hc]; rfl)
  case done =>
    rintro D ys W hD rfl ⟨⟨hc, _⟩, hB⟩ hK
    gi_wp2
    refine ⟨by simp, .inl ⟨_, _, rfl, run_takeDeferred hK, ?_⟩⟩
    exact ⟨_, results_tmp rfl _ _ _, rfl, by rw [hA]; exact hB.trans (belowK_b (w := A) (by omega) W D _ _ (by simp at hD; omega) hK rfl rfl)⟩
  case stop =>
    rintro D c pre W _ _ h _
    exact h.elim
end Go.Proofs.YtmdnnlfoljdfpaaGreatDoor
namespace Go.Proofs.YtmdnnlfoljdfpaaGreatDoor.Mir
open Go Go.RowKit
def numV (zs : List Int) : Int := (upTo (backAt zs zs.length) zs.length).foldl numStep 0
def rdF (n : Int) (xs : List Int) (bd : Bool) : Option (Int × List Int × Bool) :=
  bif decide (1 ≤ n ∧ n ≤ 140737488351232) then (bif bd || decide ((xs.length : Int) < n) then some (0, [], true) else some (numV (xs.take n.toNat), xs.drop n.toNat, false)) else none
def rdS : Sum := fnSum 2 1 1 [.one (.ptr 0 0), .one (.d (.int .i64)), .agg [.d (.sl [.int .u8]), .d .bool]] [.one (.d (.int .u64)), .agg [.d (.sl [.int .u8]), .d .bool]] (fun p => rdF p.2.1 p.2.2.1 p.2.2.2)
theorem ends1 {n : Nat} {PS RS : List ShA} {F : TAs PS → Option (TAs RS)} {al : List A} {cs cs' : List C} {r : TAs RS} {g : Gh} {w w' : World} {v : Value} {β : Nat} {vs : Array Value} {ty : TypeId}
    (htk : tksOf RS = []) (hB : Blks g w [cs]) (hk : Knows g w) (hj : g.j 0 = some β) (hout : ((fnSum n 1 1 PS RS F).out al [cs] r).2 = [cs'])
    (hv : RepV { K := g.K, j := g.j, th := fun _ _ => none } ((fnSum n 1 1 PS RS F).out al [cs] r).1 v)
    (hb : w'.heap[β]? = some (.cells vs ty (0, 0))) (hr : RepL { K := g.K, j := g.j, th := fun _ _ => none } cs' vs.toList) (ho : Only (fun k => k = β) w w') : Ends (fnSum n 1 1 PS RS F) al [cs] r g w v w' { K := g.K, j := g.j, th := fun _ _ => none } := by
  obtain ⟨β0, _, _, h1, h2, _, h4⟩ := hB.blk 0 cs rfl
  obtain rfl := Option.some.inj (hj.symm.trans h1)
  have dom : ∀ n β', g.j n = some β' → n = 0 := fun n β' e => by
    obtain ⟨i, h5, h6⟩ := hB.dom n β' e
    simp only [List.length_singleton] at h6
    omega
  refine ⟨fun _ _ _ e => e, fun _ _ _ e => .inl e, fun β' o u e => ?_, hv, ⟨fun i cs0 e => ?_, fun i k β' e1 e2 => ?_, fun m β' e => ?_⟩, ?_, fun i _ => rfl, fun i β' hi e => ?_, noTks (fun _ _ => rfl) (fun p => ?_), noLvs (fun p => ?_), fun β' ⟨n', e, cap, h⟩ => (by cases h), ?_⟩
  · have hne : β' ≠ β := fun e' => by subst e'; have := h4 o; rw [this] at e; cases e
    have := hk β' o u e
    have hl := block_lt_of_cell this
    unfold World.cell? at this ⊢
    rw [ho.block β' hl hne]; exact this
  · rw [hout] at e
    cases i with
    | zero => simp at e; subst e; exact ⟨β, vs, ty, h1, hb, hr, h4⟩
    | succ i => simp at e
  · have := dom _ _ e1; have := dom _ _ e2; omega
  · rw [hout]; exact ⟨0, dom m β' e, by simp⟩
  · rw [hout]; simp
  · have := dom _ _ e; simp at hi; omega
  · show (tksOf RS)[p]? = none
    rw [htk]; rfl
  · show (tksOf RS)[p]? = none
    rw [htk]; rfl
  · exact ho.mono fun k _ e => .inl ⟨0, by simp, by subst e; exact h1⟩
theorem setCell_row {w : World} {β o : Nat} {vs : Array Value} {ty : TypeId} {u : Value} (h : w.heap[β]? = some (.cells vs ty (0, 0))) : (w.setCell ⟨β, o, none⟩ u).heap[β]? = some (.cells (vs.setIfInBounds o u) ty (0, 0)) := by
  have hl := (Array.getElem?_eq_some_iff.1 h).1
  have he := (Array.getElem?_eq_some_iff.1 h).2
  show (w.heap.modify β _)[β]? = _
  rw [Array.getElem?_eq_getElem (by simpa using hl), Array.getElem_modify_self, he]
  rfl
theorem frozen_row {w : World} {β o : Nat} {vs : Array Value} {ty : TypeId} (h : w.heap[β]? = some (.cells vs ty (0, 0))) : w.frozen? ⟨β, o, none⟩ = false := by
  simp [World.frozen?, h]
set_option maxRecDepth 100000 in
theorem rdS_ok {laid : List (Nat × Nat × Value)} : SumOk Tryz.prog laid 75 rdS := by
  intro al bs r hr g w vs hlaid hknown hA hB hTk hLv
  simp only [rdS, fnSum] at hr
  cases hk : (Nat.beq al.length 2 && Nat.beq bs.length 1) with
  | false => rw [hk] at hr; cases hr
  | true =>
    rw [hk] at hr
    simp only [cond_true] at hr
    simp only [Bool.and_eq_true] at hk
    obtain ⟨a0, a1, rfl⟩ : ∃ a0 a1, al = [a0, a1] := by
      match al, Nat.eq_of_beq_eq_true hk.1 with
      | [a0, a1], _ => exact ⟨a0, a1, rfl⟩
    obtain ⟨cs, rfl⟩ : ∃ cs, bs = [cs] := by
      match bs, Nat.eq_of_beq_eq_true hk.2 with
      | [cs], _ => exact ⟨cs, rfl⟩
    split at hr
    · rename_i p ep
      obtain ⟨u, n, xs, bd⟩ := p
      simp only at hr
      obtain ⟨d1, d2⟩ := decAs_get ep
      obtain ⟨x0, _, rfl, h0, x1, _, rfl, h1, rfl⟩ := hA
      obtain ⟨a0', e0, q0, _⟩ := d2 0 a0 rfl
      obtain rfl := Option.some.inj e0
      obtain ⟨β, hj, rfl⟩ : RepC g (.ptr 0 0) x0 := q0 g x0 h0
      obtain ⟨a1', e1, q1, _⟩ := d2 1 a1 rfl
      obtain rfl := Option.some.inj e1
      obtain rfl : x1 = .int .i64 n := q1 g x1 h1
      obtain ⟨a2', e2, q2, _⟩ := d2 2 (.agg cs) rfl
      obtain rfl := Option.some.inj e2
      obtain ⟨β', vs', ty, hb1, hb2, hb3, hb4⟩ := hB.blk 0 cs rfl
      obtain rfl := Option.some.inj (hj.symm.trans hb1)
      obtain ⟨us, eu, hu⟩ := q2 g (.agg vs') ⟨vs'.toList, by simp, hb3⟩
      injection eu with eu
      subst eu
      obtain ⟨sv, _, rfl, hs, bv, _, rfl, hv, rfl⟩ : RepL g [.sl none [.int .u8] xs, boolC bd] us := hu
      obtain rfl : bv = .bool bd := hv
      have hβ : β < w.heap.size := (Array.getElem?_eq_some_iff.1 hb2).1
      have c0 : w.cell? ⟨β, 0, none⟩ = some sv := by rw [cell_row hb2]; rfl
      have c1 : w.cell? ⟨β, 1, none⟩ = some (.bool bd) := by rw [cell_row hb2]; rfl
      have f0 := frozen_row (o := 0) hb2
      have f1 := frozen_row (o := 1) hb2
      unfold rdF at hr
      cases hn : decide (1 ≤ n ∧ n ≤ 140737488351232) with
      | false => rw [hn] at hr; cases hr
      | true =>
        rw [hn] at hr
        simp only [cond_true] at hr
        obtain ⟨hn1, hn2⟩ := of_decide_eq_true hn
        obtain ⟨m, hm⟩ := Int.eq_ofNat_of_zero_le (a := n) (Int.le_trans (by decide) hn1)
        subst hm
        have hn1 : (1 : Int) ≤ (m : Int) := hn1
        have hn2 : (m : Int) ≤ (140737488351232 : Int) := hn2
        have hslice : ∃ ad cap, sv = .slice ad xs.length cap := by
          rcases hs.1 with ⟨rfl, ad, cz, rfl⟩ | ⟨b, off, cap, rfl, _⟩
          · exact ⟨ad, cz, rfl⟩
          · exact ⟨_, cap, rfl⟩
        cases hbad : (bd || decide ((xs.length : Int) < (m : Int))) with
        | true =>
          rw [hbad] at hr
          obtain rfl := Option.some.inj hr
          obtain ⟨ad, cap, rfl⟩ := hslice
          have hb' : bd = true ∨ xs.length < m := by
            rcases Bool.or_eq_true_iff.1 hbad with h | h
            · exact .inl h
            · have h2 : ((List.length (α := Int) xs : Nat) : Int) < (m : Int) := of_decide_eq_true h
              exact .inr (by omega)
          have hC := callsIn_wide.1 (number_bad β xs.length cap m ad bd w hb' hβ c0 c1 f0 f1)
          refine invokes_of_calls Tryz.func75 (by kernel_rfl) rfl (Calls.mono hC ?_)
          rintro e w' ⟨rfl, hw⟩
          refine ⟨_, rfl, _, ends1 (cs := cs) (cs' := [.sl none [.int .u8] [], boolC true]) (β := β) (vs := #[.slice none 0 0, .bool true]) (ty := ty) rfl hB hknown hj rfl rfl ?_ ?_ ?_⟩
          · rw [hw.block β hβ]
            exact setCell_row (setCell_row hb2)
          · exact ⟨_, _, rfl, ⟨.inl ⟨rfl, none, 0, rfl⟩, fun _ _ e => by cases e⟩, _, _, rfl, rfl, rfl⟩
          · refine ⟨hw.os, hw.tape, hw.output, ?_, fun k hk hne => ?_⟩
            · have := hw.size; simpa [gone] using this
            · rw [hw.block k hk]
              unfold gone
              rw [Below.heap_setCell _ _ _ _ hne, Below.heap_setCell _ _ _ _ hne]
        | false =>
          rw [hbad] at hr
          obtain rfl := Option.some.inj hr
          obtain ⟨rfl, hlt⟩ := Bool.or_eq_false_iff.1 hbad
          have hlt : ¬ (((List.length (α := Int) xs : Nat) : Int) < (m : Int)) := of_decide_eq_false hlt
          rcases hs.1 with ⟨rfl, _⟩ | ⟨b, off, cap, rfl, hcap, hel⟩
          · simp at hlt; omega
          have hcap : List.length (α := Int) xs ≤ cap := hcap
          have hbl : ∀ j, j < List.length (α := Int) xs → g.K b (off + j) = some (.int .u8 (xs[j]?.getD 0)) := fun j hj => by
            obtain ⟨us, u1, u2, u3⟩ := hel j xs[j] (List.getElem?_eq_getElem hj)
            obtain rfl : us = [Value.int .u8 xs[j]] := u2
            have := u3 0 _ rfl
            rw [List.getElem?_eq_getElem hj]
            simpa [widSL, widS] using this
          have hbK := hbl 0 (by omega)
          have hbs : b < w.heap.size := block_lt_of_cell (hknown _ _ _ hbK)
          have hne : b ≠ β := fun e => by subst e; rw [hb4] at hbK; cases hbK
          have hzl : (xs.take m).length = m := by rw [List.length_take]; omega
          have hC := callsIn_wide.1 (number_good β b off xs.length cap (xs.take m) w (by omega) (by omega) hcap (by omega) hβ hbs hne c0 c1 f0 (fun j hj => by
            rw [hknown _ _ _ (hbl j (by omega)), List.getElem?_take, if_pos (by omega)]))
          rw [hzl] at hC
          refine invokes_of_calls Tryz.func75 (by kernel_rfl) rfl (Calls.mono hC ?_)
          rintro e w' ⟨rfl, hw⟩
          refine ⟨_, rfl, _, ends1 (cs := cs) (cs' := [.sl none [.int .u8] (xs.drop m), boolC false]) (β := β) (vs := #[leftOf b off xs.length cap m, .bool false]) (ty := ty) rfl hB hknown hj rfl ?_ ?_ ?_ ?_⟩
          · show Value.int .u64 _ = Value.int .u64 (numV (xs.take m))
            unfold numV
            rw [hzl]
          · rw [hw.block β hβ]
            exact setCell_row hb2
          · refine ⟨_, _, rfl, ⟨?_, fun _ _ e => by cases e⟩, _, _, rfl, rfl, rfl⟩
            show RowS g.K _ _ (xs.drop m) (leftOf b off xs.length cap m)
            unfold leftOf
            refine .inr ⟨b, if cap = m then off else off + m, cap - m, by simp, by simp; omega, fun i x hx => ?_⟩
            rw [List.getElem?_drop] at hx
            have hi := (List.getElem?_eq_some_iff.1 hx).1
            obtain ⟨us, u1, u2, u3⟩ := hel (m + i) x hx
            refine ⟨us, u1, u2, fun j u hu => ?_⟩
            rw [if_neg (by omega)]
            have := u3 j u hu
            rw [show off + m + (i * widSL [.int .u8] + j) = off + ((m + i) * widSL [.int .u8] + j) by simp [widSL, widS]; omega]
            exact this
          · refine ⟨hw.os, hw.tape, hw.output, ?_, fun k hk hne => ?_⟩
            · have := hw.size; simpa using this
            · rw [hw.block k hk, Below.heap_setCell _ _ _ _ hne]
    · cases hr
end Go.Proofs.YtmdnnlfoljdfpaaGreatDoor.Mir
namespace Go.Proofs.YtmdnnlfoljdfpaaGreatDoor.Mir
open Go Go.RowKit
set_option maxRecDepth 1000000
def trimF (s c : ByteArray) : Option (TAs [.one (.d .str)]) := bif Nat.blt c.size 4294967281 && c.data.toList.all (fun b => Nat.blt b.toNat 128) then some ⟨(Lib.trimLeftS s.data.toList c.data.toList).toArray⟩ else none
def trimS : Sum := fnSum 2 0 1 [.one (.d .str), .one (.d .str)] [.one (.d .str)] (fun p => trimF p.1 p.2)
theorem trimS_ok : SumOk Tryz.prog laidL 85 trimS := by
  refine bridge rfl (fun _ => rfl) ?_
  rintro ⟨s, c⟩ r h g w vs _ ⟨_, _, rfl, hs, _, _, rfl, hc, rfl⟩
  simp only [trimF] at h
  cases hk : (Nat.blt c.size 4294967281 && c.data.toList.all (fun b => Nat.blt b.toNat 128)) with
  | false => rw [hk] at h; cases h
  | true =>
    rw [hk] at h
    obtain rfl := Option.some.inj h
    simp only [Bool.and_eq_true] at hk
    cases hs; cases hc
    refine invokes_of_calls Tryz.func85 (by kernel_rfl) (by kernel_rfl) ((Any.strings_TrimLeft_laid Tryz.lays161 (by kernel_rfl) s c w (Nat.le_of_ble_eq_true hk.1) (fun j b hb => ?_)).mono ?_)
    · exact Nat.le_of_ble_eq_true (List.all_eq_true.1 hk.2 b (List.mem_of_getElem? hb))
    · rintro e w' ⟨rfl, hw⟩
      exact ⟨_, rfl, rfl, hw⟩
end Go.Proofs.YtmdnnlfoljdfpaaGreatDoor.Mir
namespace Go.Proofs
open Go.Shelf
def Tryz.growB_ren : Go.Shelf.Ren := ⟨fun | 4 => 87 | n => n, fun | 22 => 25 | 25 => 5 | 3 => 3 | 4 => 4 | 9 => 9 | 20 => 20 | 0 => 0 | n => n, fun | n => n⟩
theorem Tryz.growB : Go.Proofs.Lays8.n4 Tryz.prog Tryz.growB_ren := {
  mixed := by kernel_rfl
  f4 := ⟨Tryz.f87.name, by decide, Tryz.func87.trans (congrArg some (by kernel_rfl))⟩
  t0 := Tryz.underlying0
  a0 := Tryz.isAgg0
  z0 := Tryz.sizeOf0
  v0 := Tryz.zeroValue0
  t3 := Tryz.underlying3
  a3 := Tryz.isAgg3
  z3 := Tryz.sizeOf3
  v3 := Tryz.zeroValue3
  t4 := Tryz.underlying4
  a4 := Tryz.isAgg4
  z4 := Tryz.sizeOf4
  v4 := Tryz.zeroValue4
  t9 := Tryz.underlying9
  a9 := Tryz.isAgg9
  z9 := Tryz.sizeOf9
  v9 := Tryz.zeroValue9
  t20 := Tryz.underlying20
  a20 := Tryz.isAgg20
  z20 := Tryz.sizeOf20
  v20 := Tryz.zeroValue20
  t22 := Tryz.underlying25
  a22 := Tryz.isAgg25
  z22 := Tryz.sizeOf25
  v22 := Tryz.zeroValue25 }
end Go.Proofs
namespace Go.Proofs.YtmdnnlfoljdfpaaGreatDoor.Mir
open Go Go.RowKit
set_option maxRecDepth 100000
def growBs : Sum := growS [.int .u8] 5 1 1
theorem growBs_ok {laid : List (Nat × Nat × Value)} : SumOk Tryz.prog laid 87 growBs := by
  refine growS_ok_of Tryz.func87 (by kernel_rfl) (by kernel_rfl) (fun w => ?_) (fun n w hn hb hm => ?_)
  · exact Any8.slices_Grow_room Tryz.growB none 0 0 0 w (by omega) (by omega) (by omega) (by omega)
  · refine (Any8.slices_Grow_grow Tryz.growB Tryz.t5 (.int .u8 0) (by kernel_rfl) (by kernel_rfl) (by rw [show (Tryz.t5).size = 1 from by kernel_rfl]; omega) none 0 0 n [] w (by omega) (by omega) ?_ (by omega) rfl (fun _ => rfl) (fun a e => by cases e)).mono ?_
    · rw [show (Tryz.t5).bytes = 1 from by kernel_rfl]; omega
    · rintro e w' ⟨rfl, rfl⟩
      have hG := grownCap_le_maxLen w (0 + n) 0 (Tryz.growB_ren.t 25) (by unfold maxLen; omega)
      have hg := grownCap_ge w (0 + n) 0 (Tryz.growB_ren.t 25)
      refine ⟨_, _, hG, ?_, rfl, rfl⟩
      simp only [Array.size_append, size_zeroCells]
      rw [show (Value.int IntKind.u8 0).cells.size = 1 from rfl]
      generalize grownCap w (0 + n) 0 (Tryz.growB_ren.t 25) = G at hg ⊢
      simp only [List.size_toArray, List.length_nil]
      omega
end Go.Proofs.YtmdnnlfoljdfpaaGreatDoor.Mir
namespace Go.Proofs.YtmdnnlfoljdfpaaGreatDoor.Mir
open Go Go.RowKit
def ti_2 : TI := ⟨.int .i64, 1, 8, [int .i64 0], [.int .i64]⟩
theorem tk_2 : TyOk1 Go.Proofs.Tryz.prog 2 ti_2 := ⟨by kernel_rfl, fieldsNone (fun fs h => by cases h), ⟨Go.Proofs.Tryz.t2, (Go.Proofs.Tryz.t2.zero).getD .nilIface, by kernel_rfl, by kernel_rfl, by kernel_rfl, by kernel_rfl, by kernel_rfl⟩⟩
def ti_3 : TI := ⟨.int .i64, 1, 8, [int .i64 0], [.int .i64]⟩
theorem tk_3 : TyOk1 Go.Proofs.Tryz.prog 3 ti_3 := ⟨by kernel_rfl, fieldsNone (fun fs h => by cases h), ⟨Go.Proofs.Tryz.t3, (Go.Proofs.Tryz.t3.zero).getD .nilIface, by kernel_rfl, by kernel_rfl, by kernel_rfl, by kernel_rfl, by kernel_rfl⟩⟩
def ti_4 : TI := ⟨.bool, 1, 1, [boolC false], [.bool]⟩
theorem tk_4 : TyOk1 Go.Proofs.Tryz.prog 4 ti_4 := ⟨by kernel_rfl, fieldsNone (fun fs h => by cases h), ⟨Go.Proofs.Tryz.t4, (Go.Proofs.Tryz.t4.zero).getD .nilIface, by kernel_rfl, by kernel_rfl, by kernel_rfl, by kernel_rfl, by kernel_rfl⟩⟩
def ti_5 : TI := ⟨.int .u8, 1, 1, [int .u8 0], [.int .u8]⟩
theorem tk_5 : TyOk1 Go.Proofs.Tryz.prog 5 ti_5 := ⟨by kernel_rfl, fieldsNone (fun fs h => by cases h), ⟨Go.Proofs.Tryz.t5, (Go.Proofs.Tryz.t5.zero).getD .nilIface, by kernel_rfl, by kernel_rfl, by kernel_rfl, by kernel_rfl, by kernel_rfl⟩⟩
def ti_9 : TI := ⟨.string, 1, 16, [.lit (.string ByteArray.empty)], [.str]⟩
theorem tk_9 : TyOk1 Go.Proofs.Tryz.prog 9 ti_9 := ⟨by kernel_rfl, fieldsNone (fun fs h => by cases h), ⟨Go.Proofs.Tryz.t9, (Go.Proofs.Tryz.t9.zero).getD .nilIface, by kernel_rfl, by kernel_rfl, by kernel_rfl, by kernel_rfl, by kernel_rfl⟩⟩
def ti_22 : TI := ⟨.slice 68, 1, 24, [.lit (.slice none 0 0)], [.sl [.int .i64, .int .i64, .str]]⟩
theorem tk_22 : TyOk1 Go.Proofs.Tryz.prog 22 ti_22 := ⟨by kernel_rfl, fieldsNone (fun fs h => by cases h), ⟨Go.Proofs.Tryz.t22, (Go.Proofs.Tryz.t22.zero).getD .nilIface, by kernel_rfl, by kernel_rfl, by kernel_rfl, by kernel_rfl, by kernel_rfl⟩⟩
def ti_24 : TI := ⟨.struct #[{ name := "Name", type := 9, offset := 0, embedded := false, tag := "", pkgPath := "", byteOffset := 0 }, { name := "First", type := 2, offset := 1, embedded := false, tag := "", pkgPath := "", byteOffset := 16 }, { name := "L", type := 22, offset := 2, embedded := false, tag := "", pkgPath := "", byteOffset := 24 }], 3, 48, [.lit (.string ByteArray.empty), int .i64 0, .lit (.slice none 0 0)], [.str, .int .i64, .sl [.int .i64, .int .i64, .str]]⟩
theorem tk_24 : TyOk1 Go.Proofs.Tryz.prog 24 ti_24 := ⟨by kernel_rfl, fieldsSome rfl (by kernel_rfl), ⟨Go.Proofs.Tryz.t24, (Go.Proofs.Tryz.t24.zero).getD .nilIface, by kernel_rfl, by kernel_rfl, by kernel_rfl, by kernel_rfl, by kernel_rfl⟩⟩
def ti_25 : TI := ⟨.slice 5, 1, 24, [.lit (.slice none 0 0)], [.sl [.int .u8]]⟩
theorem tk_25 : TyOk1 Go.Proofs.Tryz.prog 25 ti_25 := ⟨by kernel_rfl, fieldsNone (fun fs h => by cases h), ⟨Go.Proofs.Tryz.t25, (Go.Proofs.Tryz.t25.zero).getD .nilIface, by kernel_rfl, by kernel_rfl, by kernel_rfl, by kernel_rfl, by kernel_rfl⟩⟩
def ti_29 : TI := ⟨.interface #[("Error", 84)], 1, 16, [.lit .nilIface], [.err 88]⟩
theorem tk_29 : TyOk1 Go.Proofs.Tryz.prog 29 ti_29 := ⟨by kernel_rfl, fieldsNone (fun fs h => by cases h), ⟨Go.Proofs.Tryz.t29, (Go.Proofs.Tryz.t29.zero).getD .nilIface, by kernel_rfl, by kernel_rfl, by kernel_rfl, by kernel_rfl, by kernel_rfl⟩⟩
def ti_32 : TI := ⟨.slice 69, 1, 24, [.lit (.slice none 0 0)], [.sl [.int .i64, .int .i64, .str]]⟩
theorem tk_32 : TyOk1 Go.Proofs.Tryz.prog 32 ti_32 := ⟨by kernel_rfl, fieldsNone (fun fs h => by cases h), ⟨Go.Proofs.Tryz.t32, (Go.Proofs.Tryz.t32.zero).getD .nilIface, by kernel_rfl, by kernel_rfl, by kernel_rfl, by kernel_rfl, by kernel_rfl⟩⟩
def ti_34 : TI := ⟨.struct #[{ name := "Name", type := 9, offset := 0, embedded := false, tag := "", pkgPath := "", byteOffset := 0 }, { name := "First", type := 2, offset := 1, embedded := false, tag := "", pkgPath := "", byteOffset := 16 }, { name := "L", type := 32, offset := 2, embedded := false, tag := "", pkgPath := "", byteOffset := 24 }], 3, 48, [.lit (.string ByteArray.empty), int .i64 0, .lit (.slice none 0 0)], [.str, .int .i64, .sl [.int .i64, .int .i64, .str]]⟩
theorem tk_34 : TyOk1 Go.Proofs.Tryz.prog 34 ti_34 := ⟨by kernel_rfl, fieldsSome rfl (by kernel_rfl), ⟨Go.Proofs.Tryz.t34, (Go.Proofs.Tryz.t34.zero).getD .nilIface, by kernel_rfl, by kernel_rfl, by kernel_rfl, by kernel_rfl, by kernel_rfl⟩⟩
def ti_46 : TI := ⟨.struct #[{ name := "Kind", type := 3, offset := 0, embedded := false, tag := "", pkgPath := "", byteOffset := 0 }, { name := "Before", type := 2, offset := 1, embedded := false, tag := "", pkgPath := "", byteOffset := 8 }, { name := "After", type := 2, offset := 2, embedded := false, tag := "", pkgPath := "", byteOffset := 16 }], 3, 24, [int .i64 0, int .i64 0, int .i64 0], [.int .i64, .int .i64, .int .i64]⟩
theorem tk_46 : TyOk1 Go.Proofs.Tryz.prog 46 ti_46 := ⟨by kernel_rfl, fieldsSome rfl (by kernel_rfl), ⟨Go.Proofs.Tryz.t46, (Go.Proofs.Tryz.t46.zero).getD .nilIface, by kernel_rfl, by kernel_rfl, by kernel_rfl, by kernel_rfl, by kernel_rfl⟩⟩
def ti_48 : TI := ⟨.struct #[{ name := "Width", type := 2, offset := 0, embedded := false, tag := "", pkgPath := "", byteOffset := 0 }, { name := "Cell", type := 2, offset := 1, embedded := false, tag := "", pkgPath := "", byteOffset := 8 }], 2, 16, [int .i64 0, int .i64 0], [.int .i64, .int .i64]⟩
theorem tk_48 : TyOk1 Go.Proofs.Tryz.prog 48 ti_48 := ⟨by kernel_rfl, fieldsSome rfl (by kernel_rfl), ⟨Go.Proofs.Tryz.t48, (Go.Proofs.Tryz.t48.zero).getD .nilIface, by kernel_rfl, by kernel_rfl, by kernel_rfl, by kernel_rfl, by kernel_rfl⟩⟩
def ti_50 : TI := ⟨.struct #[{ name := "Smear", type := 46, offset := 0, embedded := false, tag := "", pkgPath := "", byteOffset := 0 }, { name := "Quantum", type := 2, offset := 3, embedded := false, tag := "", pkgPath := "", byteOffset := 24 }, { name := "Fuzz", type := 48, offset := 4, embedded := false, tag := "", pkgPath := "", byteOffset := 32 }, { name := "Jump", type := 4, offset := 6, embedded := false, tag := "", pkgPath := "", byteOffset := 48 }, { name := "Zone", type := 24, offset := 7, embedded := false, tag := "", pkgPath := "", byteOffset := 56 }], 10, 104, [int .i64 0, int .i64 0, int .i64 0, int .i64 0, int .i64 0, int .i64 0, boolC false, .lit (.string ByteArray.empty), int .i64 0, .lit (.slice none 0 0)], [.int .i64, .int .i64, .int .i64, .int .i64, .int .i64, .int .i64, .bool, .str, .int .i64, .sl [.int .i64, .int .i64, .str]]⟩
theorem tk_50 : TyOk1 Go.Proofs.Tryz.prog 50 ti_50 := ⟨by kernel_rfl, fieldsSome rfl (by kernel_rfl), ⟨Go.Proofs.Tryz.t50, (Go.Proofs.Tryz.t50.zero).getD .nilIface, by kernel_rfl, by kernel_rfl, by kernel_rfl, by kernel_rfl, by kernel_rfl⟩⟩
def ti_52 : TI := ⟨.struct #[{ name := "Kind", type := 3, offset := 0, embedded := false, tag := "", pkgPath := "", byteOffset := 0 }, { name := "Before", type := 2, offset := 1, embedded := false, tag := "", pkgPath := "", byteOffset := 8 }, { name := "After", type := 2, offset := 2, embedded := false, tag := "", pkgPath := "", byteOffset := 16 }], 3, 24, [int .i64 0, int .i64 0, int .i64 0], [.int .i64, .int .i64, .int .i64]⟩
theorem tk_52 : TyOk1 Go.Proofs.Tryz.prog 52 ti_52 := ⟨by kernel_rfl, fieldsSome rfl (by kernel_rfl), ⟨Go.Proofs.Tryz.t52, (Go.Proofs.Tryz.t52.zero).getD .nilIface, by kernel_rfl, by kernel_rfl, by kernel_rfl, by kernel_rfl, by kernel_rfl⟩⟩
def ti_53 : TI := ⟨.struct #[{ name := "Width", type := 2, offset := 0, embedded := false, tag := "", pkgPath := "", byteOffset := 0 }, { name := "Cell", type := 2, offset := 1, embedded := false, tag := "", pkgPath := "", byteOffset := 8 }], 2, 16, [int .i64 0, int .i64 0], [.int .i64, .int .i64]⟩
theorem tk_53 : TyOk1 Go.Proofs.Tryz.prog 53 ti_53 := ⟨by kernel_rfl, fieldsSome rfl (by kernel_rfl), ⟨Go.Proofs.Tryz.t53, (Go.Proofs.Tryz.t53.zero).getD .nilIface, by kernel_rfl, by kernel_rfl, by kernel_rfl, by kernel_rfl, by kernel_rfl⟩⟩
def ti_55 : TI := ⟨.struct #[{ name := "Smear", type := 52, offset := 0, embedded := false, tag := "", pkgPath := "", byteOffset := 0 }, { name := "Quantum", type := 2, offset := 3, embedded := false, tag := "", pkgPath := "", byteOffset := 24 }, { name := "Fuzz", type := 53, offset := 4, embedded := false, tag := "", pkgPath := "", byteOffset := 32 }, { name := "Jump", type := 4, offset := 6, embedded := false, tag := "", pkgPath := "", byteOffset := 48 }, { name := "Zone", type := 34, offset := 7, embedded := false, tag := "", pkgPath := "", byteOffset := 56 }], 10, 104, [int .i64 0, int .i64 0, int .i64 0, int .i64 0, int .i64 0, int .i64 0, boolC false, .lit (.string ByteArray.empty), int .i64 0, .lit (.slice none 0 0)], [.int .i64, .int .i64, .int .i64, .int .i64, .int .i64, .int .i64, .bool, .str, .int .i64, .sl [.int .i64, .int .i64, .str]]⟩
theorem tk_55 : TyOk1 Go.Proofs.Tryz.prog 55 ti_55 := ⟨by kernel_rfl, fieldsSome rfl (by kernel_rfl), ⟨Go.Proofs.Tryz.t55, (Go.Proofs.Tryz.t55.zero).getD .nilIface, by kernel_rfl, by kernel_rfl, by kernel_rfl, by kernel_rfl, by kernel_rfl⟩⟩
def ti_68 : TI := ⟨.struct #[{ name := "At", type := 2, offset := 0, embedded := false, tag := "", pkgPath := "", byteOffset := 0 }, { name := "Off", type := 2, offset := 1, embedded := false, tag := "", pkgPath := "", byteOffset := 8 }, { name := "Name", type := 9, offset := 2, embedded := false, tag := "", pkgPath := "", byteOffset := 16 }], 3, 32, [int .i64 0, int .i64 0, .lit (.string ByteArray.empty)], [.int .i64, .int .i64, .str]⟩
theorem tk_68 : TyOk1 Go.Proofs.Tryz.prog 68 ti_68 := ⟨by kernel_rfl, fieldsSome rfl (by kernel_rfl), ⟨Go.Proofs.Tryz.t68, (Go.Proofs.Tryz.t68.zero).getD .nilIface, by kernel_rfl, by kernel_rfl, by kernel_rfl, by kernel_rfl, by kernel_rfl⟩⟩
def ti_69 : TI := ⟨.struct #[{ name := "At", type := 2, offset := 0, embedded := false, tag := "", pkgPath := "", byteOffset := 0 }, { name := "Off", type := 2, offset := 1, embedded := false, tag := "", pkgPath := "", byteOffset := 8 }, { name := "Name", type := 9, offset := 2, embedded := false, tag := "", pkgPath := "", byteOffset := 16 }], 3, 32, [int .i64 0, int .i64 0, .lit (.string ByteArray.empty)], [.int .i64, .int .i64, .str]⟩
theorem tk_69 : TyOk1 Go.Proofs.Tryz.prog 69 ti_69 := ⟨by kernel_rfl, fieldsSome rfl (by kernel_rfl), ⟨Go.Proofs.Tryz.t69, (Go.Proofs.Tryz.t69.zero).getD .nilIface, by kernel_rfl, by kernel_rfl, by kernel_rfl, by kernel_rfl, by kernel_rfl⟩⟩
def ti_80 : TI := ⟨.int .u64, 1, 8, [int .u64 0], [.int .u64]⟩
theorem tk_80 : TyOk1 Go.Proofs.Tryz.prog 80 ti_80 := ⟨by kernel_rfl, fieldsNone (fun fs h => by cases h), ⟨Go.Proofs.Tryz.t80, (Go.Proofs.Tryz.t80.zero).getD .nilIface, by kernel_rfl, by kernel_rfl, by kernel_rfl, by kernel_rfl, by kernel_rfl⟩⟩
def ti_82 : TI := ⟨.pointer 122, 1, 8, [.lit (Value.pointer none)], []⟩
theorem tk_82 : TyOk1 Go.Proofs.Tryz.prog 82 ti_82 := ⟨by kernel_rfl, fieldsNone (fun fs h => by cases h), ⟨Go.Proofs.Tryz.t82, (Go.Proofs.Tryz.t82.zero).getD .nilIface, by kernel_rfl, by kernel_rfl, by kernel_rfl, by kernel_rfl, by kernel_rfl⟩⟩
def ti_88 : TI := ⟨.int .i64, 1, 8, [int .i64 0], [.int .i64]⟩
theorem tk_88 : TyOk1 Go.Proofs.Tryz.prog 88 ti_88 := ⟨by kernel_rfl, fieldsNone (fun fs h => by cases h), ⟨Go.Proofs.Tryz.t88, (Go.Proofs.Tryz.t88.zero).getD .nilIface, by kernel_rfl, by kernel_rfl, by kernel_rfl, by kernel_rfl, by kernel_rfl⟩⟩
def ti_90 : TI := ⟨.struct #[{ name := "B", type := 25, offset := 0, embedded := false, tag := "", pkgPath := "", byteOffset := 0 }, { name := "Bad", type := 4, offset := 1, embedded := false, tag := "", pkgPath := "", byteOffset := 24 }], 2, 32, [.lit (.slice none 0 0), boolC false], [.sl [.int .u8], .bool]⟩
theorem tk_90 : TyOk1 Go.Proofs.Tryz.prog 90 ti_90 := ⟨by kernel_rfl, fieldsSome rfl (by kernel_rfl), ⟨Go.Proofs.Tryz.t90, (Go.Proofs.Tryz.t90.zero).getD .nilIface, by kernel_rfl, by kernel_rfl, by kernel_rfl, by kernel_rfl, by kernel_rfl⟩⟩
def ti_97 : TI := ⟨.pointer 88, 1, 8, [.lit (Value.pointer none)], []⟩
theorem tk_97 : TyOk1 Go.Proofs.Tryz.prog 97 ti_97 := ⟨by kernel_rfl, fieldsNone (fun fs h => by cases h), ⟨Go.Proofs.Tryz.t97, (Go.Proofs.Tryz.t97.zero).getD .nilIface, by kernel_rfl, by kernel_rfl, by kernel_rfl, by kernel_rfl, by kernel_rfl⟩⟩
def ti_99 : TI := ⟨.array 5 2, 5, 40, [.arr .i64 5 (List.replicate 5 0)], [.arr .i64 5]⟩
theorem tk_99 : TyOk1 Go.Proofs.Tryz.prog 99 ti_99 := ⟨by kernel_rfl, fieldsNone (fun fs h => by cases h), ⟨Go.Proofs.Tryz.t99, (Go.Proofs.Tryz.t99.zero).getD .nilIface, by kernel_rfl, by kernel_rfl, by kernel_rfl, by kernel_rfl, by kernel_rfl⟩⟩
def ti_102 : TI := ⟨.int .u16, 1, 2, [int .u16 0], [.int .u16]⟩
theorem tk_102 : TyOk1 Go.Proofs.Tryz.prog 102 ti_102 := ⟨by kernel_rfl, fieldsNone (fun fs h => by cases h), ⟨Go.Proofs.Tryz.t102, (Go.Proofs.Tryz.t102.zero).getD .nilIface, by kernel_rfl, by kernel_rfl, by kernel_rfl, by kernel_rfl, by kernel_rfl⟩⟩
def ti_108 : TI := ⟨.array 4 29, 4, 64, [.lit .nilIface, .lit .nilIface, .lit .nilIface, .lit .nilIface], [.err 88, .err 88, .err 88, .err 88]⟩
theorem tk_108 : TyOk1 Go.Proofs.Tryz.prog 108 ti_108 := ⟨by kernel_rfl, fieldsNone (fun fs h => by cases h), ⟨Go.Proofs.Tryz.t108, (Go.Proofs.Tryz.t108.zero).getD .nilIface, by kernel_rfl, by kernel_rfl, by kernel_rfl, by kernel_rfl, by kernel_rfl⟩⟩
def ti_122 : TI := ⟨.struct #[{ name := "b", type := 25, offset := 0, embedded := false, tag := "", pkgPath := "fusee/fields", byteOffset := 0 }, { name := "bad", type := 4, offset := 1, embedded := false, tag := "", pkgPath := "fusee/fields", byteOffset := 24 }], 2, 32, [.lit (.slice none 0 0), boolC false], [.sl [.int .u8], .bool]⟩
theorem tk_122 : TyOk1 Go.Proofs.Tryz.prog 122 ti_122 := ⟨by kernel_rfl, fieldsSome rfl (by kernel_rfl), ⟨Go.Proofs.Tryz.t122, (Go.Proofs.Tryz.t122.zero).getD .nilIface, by kernel_rfl, by kernel_rfl, by kernel_rfl, by kernel_rfl, by kernel_rfl⟩⟩
def ti_145 : TI := ⟨.int .u32, 1, 4, [int .u32 0], [.int .u32]⟩
theorem tk_145 : TyOk1 Go.Proofs.Tryz.prog 145 ti_145 := ⟨by kernel_rfl, fieldsNone (fun fs h => by cases h), ⟨Go.Proofs.Tryz.t145, (Go.Proofs.Tryz.t145.zero).getD .nilIface, by kernel_rfl, by kernel_rfl, by kernel_rfl, by kernel_rfl, by kernel_rfl⟩⟩
def ti_147 : TI := ⟨.int .u64, 1, 8, [int .u64 0], [.int .u64]⟩
theorem tk_147 : TyOk1 Go.Proofs.Tryz.prog 147 ti_147 := ⟨by kernel_rfl, fieldsNone (fun fs h => by cases h), ⟨Go.Proofs.Tryz.t147, (Go.Proofs.Tryz.t147.zero).getD .nilIface, by kernel_rfl, by kernel_rfl, by kernel_rfl, by kernel_rfl, by kernel_rfl⟩⟩
def ti_148 : TI := ⟨.slice 25, 1, 24, [.lit (.slice none 0 0)], [.sl [.sl [.int .u8]]]⟩
theorem tk_148 : TyOk1 Go.Proofs.Tryz.prog 148 ti_148 := ⟨by kernel_rfl, fieldsNone (fun fs h => by cases h), ⟨Go.Proofs.Tryz.t148, (Go.Proofs.Tryz.t148.zero).getD .nilIface, by kernel_rfl, by kernel_rfl, by kernel_rfl, by kernel_rfl, by kernel_rfl⟩⟩
def tab : List (Nat × TI) := [(2, ti_2), (3, ti_3), (4, ti_4), (5, ti_5), (9, ti_9), (22, ti_22), (24, ti_24), (25, ti_25), (29, ti_29), (32, ti_32), (34, ti_34), (46, ti_46), (48, ti_48), (50, ti_50), (52, ti_52), (53, ti_53), (55, ti_55), (68, ti_68), (69, ti_69), (80, ti_80), (82, ti_82), (88, ti_88), (90, ti_90), (97, ti_97), (99, ti_99), (102, ti_102), (108, ti_108), (122, ti_122), (145, ti_145), (147, ti_147), (148, ti_148)]
def tyT : TypeId → Option TI := lookT tab
theorem tyOk : TyOk Go.Proofs.Tryz.prog tyT := TysOk.ok (tysOk_cons tk_2 (tysOk_cons tk_3 (tysOk_cons tk_4 (tysOk_cons tk_5 (tysOk_cons tk_9 (tysOk_cons tk_22 (tysOk_cons tk_24 (tysOk_cons tk_25 (tysOk_cons tk_29 (tysOk_cons tk_32 (tysOk_cons tk_34 (tysOk_cons tk_46 (tysOk_cons tk_48 (tysOk_cons tk_50 (tysOk_cons tk_52 (tysOk_cons tk_53 (tysOk_cons tk_55 (tysOk_cons tk_68 (tysOk_cons tk_69 (tysOk_cons tk_80 (tysOk_cons tk_82 (tysOk_cons tk_88 (tysOk_cons tk_90 (tysOk_cons tk_97 (tysOk_cons tk_99 (tysOk_cons tk_102 (tysOk_cons tk_108 (tysOk_cons tk_122 (tysOk_cons tk_145 (tysOk_cons tk_147 (tysOk_cons tk_148 tysOk_nil)))))))))))))))))))))))))))))))
theorem ek_52 : EqOk Go.Proofs.Tryz.prog 52 (eqQ [.int .i64, .int .i64, .int .i64]) := eqQ_ok (d := 9) (by kernel_rfl) (by omega) (by kernel_rfl) (by kernel_rfl)
theorem ek_53 : EqOk Go.Proofs.Tryz.prog 53 (eqQ [.int .i64, .int .i64]) := eqQ_ok (d := 9) (by kernel_rfl) (by omega) (by kernel_rfl) (by kernel_rfl)
theorem ek_69 : EqOk Go.Proofs.Tryz.prog 69 (eqQ [.int .i64, .int .i64, .str]) := eqQ_ok (d := 9) (by kernel_rfl) (by omega) (by kernel_rfl) (by kernel_rfl)
def eqT : TypeId → Option (List C → List C → Option Bool) := lookE [(52, eqQ [.int .i64, .int .i64, .int .i64]), (53, eqQ [.int .i64, .int .i64]), (69, eqQ [.int .i64, .int .i64, .str])]
theorem eqOk : ∀ t q, eqT t = some q → EqOk Go.Proofs.Tryz.prog t q := (eqsOk_cons ek_52 (eqsOk_cons ek_53 (eqsOk_cons ek_69 eqsOk_nil)))
end Go.Proofs.YtmdnnlfoljdfpaaGreatDoor.Mir
namespace Go.Proofs.YtmdnnlfoljdfpaaGreatDoor.Mir
open Go Go.RowKit
set_option maxRecDepth 100000
noncomputable def X_5 (_ : Nat) : Ctx := ⟨tyT, lookF [], eqT, fun _ => false⟩
noncomputable def c_5 : Code := bodyOf Go.Proofs.Tryz.f5
theorem x_5 (N : Nat) : CtxOk Go.Proofs.Tryz.prog laidL (X_5 N) := ⟨tyOk, eqOk, fun _ _ => fnsOk_nil.get, by kernel_rfl⟩
noncomputable def nd_5_0 : Code := loopAt 0 0 c_5
noncomputable def cb_5_0 : Code := unloop nd_5_0
theorem ne_5_0 : nd_5_0 = .loop cb_5_0 := by kernel_rfl
noncomputable def sh_5_0 : List ShA := [.one (.ptr 144 0), .one (.d (.int .i64)), .agg [.d (.str), .d (.int .i64), .d (.sl [.int .i64, .int .i64, .str])]]
noncomputable def o_5_0 : OutK 0 (((TAs [.one (.d (.bool))]) ⊕ (TAs [.one (.ptr 144 0), .agg [.d (.str), .d (.int .i64), .d (.sl [.int .i64, .int .i64, .str])]]))) := (outTwo (outOne 0 .ret [2] [] [.one (.d (.bool))]) (outOne 0 (.exit 0) [1] [144] [.one (.ptr 144 0), .agg [.d (.str), .d (.int .i64), .d (.sl [.int .i64, .int .i64, .str])]]))
noncomputable def b_5_0 (_ : Nat) (ih : TAs sh_5_0 → Option (((TAs [.one (.d (.bool))]) ⊕ (TAs [.one (.ptr 144 0), .agg [.d (.str), .d (.int .i64), .d (.sl [.int .i64, .int .i64, .str])]])))) : TAs sh_5_0 → Option (((TAs [.one (.d (.bool))]) ⊕ (TAs [.one (.ptr 144 0), .agg [.d (.str), .d (.int .i64), .d (.sl [.int .i64, .int .i64, .str])]]))) := fun (_, y4, (y5, y6, y7)) =>
  (bif (decide (y4 < (List.length y7 : Int))) then (bif (decide (y4 < 60)) then (bif (decide (0 ≤ y4 ∧ y4 < (List.length y7 : Int))) then (bif (decide ((ByteArray.size (List.getD y7 (Int.toNat y4) (0, 0, ByteArray.empty)).2.2 : Int) > 200)) then (some (.inl true)) else (ih ((), (IntKind.i64.wrap (y4 + 1)), (y5, y6, y7)))) else none) else (some (.inr ((), (y5, y6, y7))))) else (some (.inr ((), (y5, y6, y7)))))
noncomputable def l_5_0 (N : Nat) : TAs sh_5_0 → Option (((TAs [.one (.d (.bool))]) ⊕ (TAs [.one (.ptr 144 0), .agg [.d (.str), .d (.int .i64), .d (.sl [.int .i64, .int .i64, .str])]]))) := iter (b_5_0 N) N
noncomputable def lp_5_0 (_ : Nat) : Nat → Option LSum := lookL []
noncomputable def L_5_0 (N : Nat) : LSum := loopSum [1, 3] [144] sh_5_0 o_5_0 (l_5_0 N)
theorem b_ok_5_0 (N : Nat) (ih : TAs sh_5_0 → Option (((TAs [.one (.d (.bool))]) ⊕ (TAs [.one (.ptr 144 0), .agg [.d (.str), .d (.int .i64), .d (.sl [.int .i64, .int .i64, .str])]])))) (p : TAs sh_5_0) : b_5_0 N ih p = exec (X_5 N) Go.Proofs.Tryz.f5.ntmps (lp_5_0 N) cb_5_0 0 (roundK [1, 3] [144] sh_5_0 o_5_0 ih) (stOf [1, 3] [144] sh_5_0 p) := by kernel_rfl
theorem L_ok_5_0 (N : Nat) : SegOk Go.Proofs.Tryz.prog laidL 0 Go.Proofs.Tryz.f5.ntmps nd_5_0 (L_5_0 N) :=
  ne_5_0 ▸ loop_ok (cur := 0) (lp := lp_5_0 N) (x_5 N) (fun n => iter (b_5_0 N) n) (fun _ => rfl) (fun n p => b_ok_5_0 N (iter (b_5_0 N) n) p) (loopsAll (by kernel_rfl) (lookOk_nil)) N
noncomputable def lp_5 (N : Nat) : Nat → Option LSum := lookL [(0, L_5_0 N)]
noncomputable def f_5 (N : Nat) (x1 : ByteArray) (x2 : Int) (x3 : List (Int × Int × ByteArray)) : Option (TAs [.one (.d (.bool))]) :=
  ((l_5_0 N ((), 0, (x1, x2, x3))).bind fun q => (match q with | .inl q8 => (some q8) | .inr q9 => (bif (decide ((List.length q9.2.2.2 : Int) > 60)) then (some true) else (some (decide ((ByteArray.size q9.2.1 : Int) > 200))))))
theorem ok_5 (N : Nat) (x1 : ByteArray) (x2 : Int) (x3 : List (Int × Int × ByteArray)) : f_5 N x1 x2 x3 = exec (X_5 N) Go.Proofs.Tryz.f5.ntmps (lp_5 N) c_5 0 (fnK (X_5 N) Go.Proofs.Tryz.f5.results.toList 0 [.one (.d (.bool))]) (fnSt 1 0 [.agg [.d (.str), .d (.int .i64), .d (.sl [.int .i64, .int .i64, .str])]] (x1, x2, x3)) := by kernel_rfl
noncomputable def S_5 (N : Nat) : Sum := fnSum 1 0 1 [.agg [.d (.str), .d (.int .i64), .d (.sl [.int .i64, .int .i64, .str])]] [.one (.d (.bool))] (fun p => f_5 N p.1 p.2.1 p.2.2)
theorem s_5 (N : Nat) : SumOk Go.Proofs.Tryz.prog laidL 5 (S_5 N) :=
  fn_ok (lp := lp_5 N) (x_5 N) Go.Proofs.Tryz.func5 (c := c_5) (by kernel_rfl) (by kernel_rfl) rfl (fun p => ok_5 N p.1 p.2.1 p.2.2) (loopsAll (by kernel_rfl) ((lookOk_cons (L_ok_5_0 N) lookOk_nil)))
noncomputable def X_8 (_ : Nat) : Ctx := ⟨tyT, lookF [], eqT, fun _ => false⟩
noncomputable def c_8 : Code := bodyOf Go.Proofs.Tryz.f8
theorem x_8 (N : Nat) : CtxOk Go.Proofs.Tryz.prog laidL (X_8 N) := ⟨tyOk, eqOk, fun _ _ => fnsOk_nil.get, by kernel_rfl⟩
noncomputable def nd_8_0 : Code := loopAt 0 0 c_8
noncomputable def cb_8_0 : Code := unloop nd_8_0
theorem ne_8_0 : nd_8_0 = .loop cb_8_0 := by kernel_rfl
noncomputable def sh_8_0 : List ShA := [.one (.ptr 144 0), .one (.ptr 160 0), .one (.ptr 176 0), .one (.d (.int .i64)), .agg [.d (.str), .d (.int .i64), .d (.sl [.int .i64, .int .i64, .str])], .agg [.d (.str), .d (.int .i64), .slt [.int .i64, .int .i64, .str] 69 3], .agg [.d (.str), .d (.int .i64), .slt [.int .i64, .int .i64, .str] 69 3]]
noncomputable def o_8_0 : OutK 0 (TAs [.one (.ptr 160 0), .one (.ptr 176 0), .agg [.d (.str), .d (.int .i64), .slt [.int .i64, .int .i64, .str] 69 3], .agg [.d (.str), .d (.int .i64), .slt [.int .i64, .int .i64, .str] 69 3]]) := (outOne 0 (.exit 0) [2, 3] [160, 176] [.one (.ptr 160 0), .one (.ptr 176 0), .agg [.d (.str), .d (.int .i64), .slt [.int .i64, .int .i64, .str] 69 3], .agg [.d (.str), .d (.int .i64), .slt [.int .i64, .int .i64, .str] 69 3]])
noncomputable def b_8_0 (_ : Nat) (ih : TAs sh_8_0 → Option (TAs [.one (.ptr 160 0), .one (.ptr 176 0), .agg [.d (.str), .d (.int .i64), .slt [.int .i64, .int .i64, .str] 69 3], .agg [.d (.str), .d (.int .i64), .slt [.int .i64, .int .i64, .str] 69 3]])) : TAs sh_8_0 → Option (TAs [.one (.ptr 160 0), .one (.ptr 176 0), .agg [.d (.str), .d (.int .i64), .slt [.int .i64, .int .i64, .str] 69 3], .agg [.d (.str), .d (.int .i64), .slt [.int .i64, .int .i64, .str] 69 3]]) := fun (_, _, _, y4, (y5, y6, y7), (y8, y9, y10), (y11, y12, y13)) =>
  (bif (decide (y4 < (List.length y7 : Int))) then (bif (decide (0 ≤ y4 ∧ y4 < (List.length y7 : Int))) then (bif (decide ((List.length y13 + List.length ([((List.getD y7 (Int.toNat y4) (0, 0, ByteArray.empty)).1, (List.getD y7 (Int.toNat y4) (0, 0, ByteArray.empty)).2.1, (List.getD y7 (Int.toNat y4) (0, 0, ByteArray.empty)).2.2)] : List (Int × Int × ByteArray))) * 32 ≤ 140737488355328)) then (ih ((), (), (), (IntKind.i64.wrap (y4 + 1)), (y5, y6, y7), (y8, y9, y10), (y11, y12, (y13 ++ ([((List.getD y7 (Int.toNat y4) (0, 0, ByteArray.empty)).1, (List.getD y7 (Int.toNat y4) (0, 0, ByteArray.empty)).2.1, (List.getD y7 (Int.toNat y4) (0, 0, ByteArray.empty)).2.2)] : List (Int × Int × ByteArray)))))) else none) else none) else (some (((), (), (y8, y9, y10), (y11, y12, y13)))))
noncomputable def l_8_0 (N : Nat) : TAs sh_8_0 → Option (TAs [.one (.ptr 160 0), .one (.ptr 176 0), .agg [.d (.str), .d (.int .i64), .slt [.int .i64, .int .i64, .str] 69 3], .agg [.d (.str), .d (.int .i64), .slt [.int .i64, .int .i64, .str] 69 3]]) := iter (b_8_0 N) N
noncomputable def lp_8_0 (_ : Nat) : Nat → Option LSum := lookL []
noncomputable def L_8_0 (N : Nat) : LSum := loopSum [1, 2, 3, 4] [144, 160, 176] sh_8_0 o_8_0 (l_8_0 N)
theorem b_ok_8_0 (N : Nat) (ih : TAs sh_8_0 → Option (TAs [.one (.ptr 160 0), .one (.ptr 176 0), .agg [.d (.str), .d (.int .i64), .slt [.int .i64, .int .i64, .str] 69 3], .agg [.d (.str), .d (.int .i64), .slt [.int .i64, .int .i64, .str] 69 3]])) (p : TAs sh_8_0) : b_8_0 N ih p = exec (X_8 N) Go.Proofs.Tryz.f8.ntmps (lp_8_0 N) cb_8_0 0 (roundK [1, 2, 3, 4] [144, 160, 176] sh_8_0 o_8_0 ih) (stOf [1, 2, 3, 4] [144, 160, 176] sh_8_0 p) := by kernel_rfl
theorem L_ok_8_0 (N : Nat) : SegOk Go.Proofs.Tryz.prog laidL 0 Go.Proofs.Tryz.f8.ntmps nd_8_0 (L_8_0 N) :=
  ne_8_0 ▸ loop_ok (cur := 0) (lp := lp_8_0 N) (x_8 N) (fun n => iter (b_8_0 N) n) (fun _ => rfl) (fun n p => b_ok_8_0 N (iter (b_8_0 N) n) p) (loopsAll (by kernel_rfl) (lookOk_nil)) N
noncomputable def lp_8 (N : Nat) : Nat → Option LSum := lookL [(0, L_8_0 N)]
noncomputable def f_8 (N : Nat) (x1 : ByteArray) (x2 : Int) (x3 : List (Int × Int × ByteArray)) : Option (TAs [.agg [.d (.str), .d (.int .i64), .slt [.int .i64, .int .i64, .str] 69 3]]) :=
  ((l_8_0 N ((), (), (), 0, (x1, x2, x3), (ByteArray.empty, 0, ([] : List (Int × Int × ByteArray))), (x1, x2, ([] : List (Int × Int × ByteArray))))).bind fun q14 => (some (q14.2.2.2.1, q14.2.2.2.2.1, q14.2.2.2.2.2)))
theorem ok_8 (N : Nat) (x1 : ByteArray) (x2 : Int) (x3 : List (Int × Int × ByteArray)) : f_8 N x1 x2 x3 = exec (X_8 N) Go.Proofs.Tryz.f8.ntmps (lp_8 N) c_8 0 (fnK (X_8 N) Go.Proofs.Tryz.f8.results.toList 0 [.agg [.d (.str), .d (.int .i64), .slt [.int .i64, .int .i64, .str] 69 3]]) (fnSt 1 0 [.agg [.d (.str), .d (.int .i64), .d (.sl [.int .i64, .int .i64, .str])]] (x1, x2, x3)) := by kernel_rfl
noncomputable def S_8 (N : Nat) : Sum := fnSum 1 0 1 [.agg [.d (.str), .d (.int .i64), .d (.sl [.int .i64, .int .i64, .str])]] [.agg [.d (.str), .d (.int .i64), .slt [.int .i64, .int .i64, .str] 69 3]] (fun p => f_8 N p.1 p.2.1 p.2.2)
theorem s_8 (N : Nat) : SumOk Go.Proofs.Tryz.prog laidL 8 (S_8 N) :=
  fn_ok (lp := lp_8 N) (x_8 N) Go.Proofs.Tryz.func8 (c := c_8) (by kernel_rfl) (by kernel_rfl) rfl (fun p => ok_8 N p.1 p.2.1 p.2.2) (loopsAll (by kernel_rfl) ((lookOk_cons (L_ok_8_0 N) lookOk_nil)))
noncomputable def X_12 (_ : Nat) : Ctx := ⟨tyT, lookF [(46, asS)], eqT, fun _ => false⟩
noncomputable def c_12 : Code := bodyOf Go.Proofs.Tryz.f12
theorem x_12 (N : Nat) : CtxOk Go.Proofs.Tryz.prog laidL (X_12 N) := ⟨tyOk, eqOk, fun _ _ => (fnsOk_cons asS_ok fnsOk_nil).get, by kernel_rfl⟩
noncomputable def lp_12 (_ : Nat) : Nat → Option LSum := lookL []
noncomputable def f_12 (_ : Nat) (x1 : Option Int) : Option (TAs [.one (.d (.int .i64))]) :=
  (bif (Option.isNone x1) then (some 0) else ((some (x1, (0 : Int)) : Option (Option Int × Int)).bind fun r2 => (bif (Option.isSome r2.1) then (some (asVal r2.2 r2.1)) else (some (-1)))))
theorem ok_12 (N : Nat) (x1 : Option Int) : f_12 N x1 = exec (X_12 N) Go.Proofs.Tryz.f12.ntmps (lp_12 N) c_12 0 (fnK (X_12 N) Go.Proofs.Tryz.f12.results.toList 0 [.one (.d (.int .i64))]) (fnSt 1 0 [.one (.d (.err 88))] x1) := by kernel_rfl
noncomputable def S_12 (N : Nat) : Sum := fnSum 1 0 1 [.one (.d (.err 88))] [.one (.d (.int .i64))] (fun p => f_12 N p)
theorem s_12 (N : Nat) : SumOk Go.Proofs.Tryz.prog laidL 12 (S_12 N) :=
  fn_ok (lp := lp_12 N) (x_12 N) Go.Proofs.Tryz.func12 (c := c_12) (by kernel_rfl) (by kernel_rfl) rfl (fun p => ok_12 N p) (loopsAll (by kernel_rfl) (lookOk_nil))
noncomputable def X_13 (_ : Nat) : Ctx := ⟨tyT, lookF [], eqT, fun _ => false⟩
noncomputable def c_13 : Code := bodyOf Go.Proofs.Tryz.f13
theorem x_13 (N : Nat) : CtxOk Go.Proofs.Tryz.prog laidL (X_13 N) := ⟨tyOk, eqOk, fun _ _ => fnsOk_nil.get, by kernel_rfl⟩
noncomputable def nd_13_0 : Code := loopAt 0 0 c_13
noncomputable def cb_13_0 : Code := unloop nd_13_0
theorem ne_13_0 : nd_13_0 = .loop cb_13_0 := by kernel_rfl
noncomputable def sh_13_0 : List ShA := [.one (.ptr 160 0), .one (.ptr 176 0), .one (.d (.int .i64)), .agg [.d (.str), .d (.int .i64), .d (.sl [.int .i64, .int .i64, .str])], .agg [.d (.str), .d (.int .i64), .d (.sl [.int .i64, .int .i64, .str])]]
noncomputable def o_13_0 : OutK 0 (((TAs [.one (.d (.bool))]) ⊕ (TAs []))) := (outTwo (outOne 0 .ret [4] [] [.one (.d (.bool))]) (outOne 0 (.exit 0) [] [] []))
noncomputable def b_13_0 (_ : Nat) (ih : TAs sh_13_0 → Option (((TAs [.one (.d (.bool))]) ⊕ (TAs [])))) : TAs sh_13_0 → Option (((TAs [.one (.d (.bool))]) ⊕ (TAs []))) := fun (_, _, y7, (y8, y9, y10), (y11, y12, y13)) =>
  (bif (decide (y7 < (List.length y10 : Int))) then (bif (decide (0 ≤ y7 ∧ y7 < (List.length y10 : Int))) then (bif (decide (0 ≤ y7 ∧ y7 < (List.length y13 : Int))) then (bif (!(((List.getD y10 (Int.toNat y7) (0, 0, ByteArray.empty)).1 == (List.getD y13 (Int.toNat y7) (0, 0, ByteArray.empty)).1) && (((List.getD y10 (Int.toNat y7) (0, 0, ByteArray.empty)).2.1 == (List.getD y13 (Int.toNat y7) (0, 0, ByteArray.empty)).2.1) && ((List.getD y10 (Int.toNat y7) (0, 0, ByteArray.empty)).2.2.toList == (List.getD y13 (Int.toNat y7) (0, 0, ByteArray.empty)).2.2.toList)))) then (some (.inl false)) else (ih ((), (), (IntKind.i64.wrap (y7 + 1)), (y8, y9, y10), (y11, y12, y13)))) else none) else none) else (some (.inr ())))
noncomputable def l_13_0 (N : Nat) : TAs sh_13_0 → Option (((TAs [.one (.d (.bool))]) ⊕ (TAs []))) := iter (b_13_0 N) N
noncomputable def lp_13_0 (_ : Nat) : Nat → Option LSum := lookL []
noncomputable def L_13_0 (N : Nat) : LSum := loopSum [2, 3, 5] [160, 176] sh_13_0 o_13_0 (l_13_0 N)
theorem b_ok_13_0 (N : Nat) (ih : TAs sh_13_0 → Option (((TAs [.one (.d (.bool))]) ⊕ (TAs [])))) (p : TAs sh_13_0) : b_13_0 N ih p = exec (X_13 N) Go.Proofs.Tryz.f13.ntmps (lp_13_0 N) cb_13_0 0 (roundK [2, 3, 5] [160, 176] sh_13_0 o_13_0 ih) (stOf [2, 3, 5] [160, 176] sh_13_0 p) := by kernel_rfl
theorem L_ok_13_0 (N : Nat) : SegOk Go.Proofs.Tryz.prog laidL 0 Go.Proofs.Tryz.f13.ntmps nd_13_0 (L_13_0 N) :=
  ne_13_0 ▸ loop_ok (cur := 0) (lp := lp_13_0 N) (x_13 N) (fun n => iter (b_13_0 N) n) (fun _ => rfl) (fun n p => b_ok_13_0 N (iter (b_13_0 N) n) p) (loopsAll (by kernel_rfl) (lookOk_nil)) N
noncomputable def lp_13 (N : Nat) : Nat → Option LSum := lookL [(0, L_13_0 N)]
noncomputable def f_13 (N : Nat) (x1 : ByteArray) (x2 : Int) (x3 : List (Int × Int × ByteArray)) (x4 : ByteArray) (x5 : Int) (x6 : List (Int × Int × ByteArray)) : Option (TAs [.one (.d (.bool))]) :=
  (bif (!((ByteArray.toList x1) == (ByteArray.toList x4))) then (some false) else (bif (x2 != x5) then (some false) else (bif ((List.length x3 : Int) != (List.length x6 : Int)) then (some false) else ((l_13_0 N ((), (), 0, (x1, x2, x3), (x4, x5, x6))).bind fun q => (match q with | .inl q14 => (some q14) | .inr _ => (some true))))))
theorem ok_13 (N : Nat) (x1 : ByteArray) (x2 : Int) (x3 : List (Int × Int × ByteArray)) (x4 : ByteArray) (x5 : Int) (x6 : List (Int × Int × ByteArray)) : f_13 N x1 x2 x3 x4 x5 x6 = exec (X_13 N) Go.Proofs.Tryz.f13.ntmps (lp_13 N) c_13 0 (fnK (X_13 N) Go.Proofs.Tryz.f13.results.toList 0 [.one (.d (.bool))]) (fnSt 2 0 [.agg [.d (.str), .d (.int .i64), .d (.sl [.int .i64, .int .i64, .str])], .agg [.d (.str), .d (.int .i64), .d (.sl [.int .i64, .int .i64, .str])]] ((x1, x2, x3), (x4, x5, x6))) := by kernel_rfl
noncomputable def S_13 (N : Nat) : Sum := fnSum 2 0 1 [.agg [.d (.str), .d (.int .i64), .d (.sl [.int .i64, .int .i64, .str])], .agg [.d (.str), .d (.int .i64), .d (.sl [.int .i64, .int .i64, .str])]] [.one (.d (.bool))] (fun p => f_13 N p.1.1 p.1.2.1 p.1.2.2 p.2.1 p.2.2.1 p.2.2.2)
theorem s_13 (N : Nat) : SumOk Go.Proofs.Tryz.prog laidL 13 (S_13 N) :=
  fn_ok (lp := lp_13 N) (x_13 N) Go.Proofs.Tryz.func13 (c := c_13) (by kernel_rfl) (by kernel_rfl) rfl (fun p => ok_13 N p.1.1 p.1.2.1 p.1.2.2 p.2.1 p.2.2.1 p.2.2.2) (loopsAll (by kernel_rfl) ((lookOk_cons (L_ok_13_0 N) lookOk_nil)))
noncomputable def X_14 (_ : Nat) : Ctx := ⟨tyT, lookF [], eqT, fun _ => false⟩
noncomputable def c_14 : Code := bodyOf Go.Proofs.Tryz.f14
theorem x_14 (N : Nat) : CtxOk Go.Proofs.Tryz.prog laidL (X_14 N) := ⟨tyOk, eqOk, fun _ _ => fnsOk_nil.get, by kernel_rfl⟩
noncomputable def nd_14_0 : Code := loopAt 0 0 c_14
noncomputable def cb_14_0 : Code := unloop nd_14_0
theorem ne_14_0 : nd_14_0 = .loop cb_14_0 := by kernel_rfl
noncomputable def sh_14_0 : List ShA := [.one (.ptr 144 0), .one (.d (.int .i64)), .agg [.d (.str), .d (.int .i64), .d (.sl [.int .i64, .int .i64, .str])]]
noncomputable def o_14_0 : OutK 0 (((TAs [.one (.d (.bool))]) ⊕ (TAs [.one (.ptr 144 0), .agg [.d (.str), .d (.int .i64), .d (.sl [.int .i64, .int .i64, .str])]]))) := (outTwo (outOne 0 .ret [2] [] [.one (.d (.bool))]) (outOne 0 (.exit 0) [1] [144] [.one (.ptr 144 0), .agg [.d (.str), .d (.int .i64), .d (.sl [.int .i64, .int .i64, .str])]]))
noncomputable def b_14_0 (_ : Nat) (ih : TAs sh_14_0 → Option (((TAs [.one (.d (.bool))]) ⊕ (TAs [.one (.ptr 144 0), .agg [.d (.str), .d (.int .i64), .d (.sl [.int .i64, .int .i64, .str])]])))) : TAs sh_14_0 → Option (((TAs [.one (.d (.bool))]) ⊕ (TAs [.one (.ptr 144 0), .agg [.d (.str), .d (.int .i64), .d (.sl [.int .i64, .int .i64, .str])]]))) := fun (_, y4, (y5, y6, y7)) =>
  (bif (decide (y4 < (List.length y7 : Int))) then (bif (decide (y4 < 60)) then (bif (decide (0 ≤ y4 ∧ y4 < (List.length y7 : Int))) then (bif (decide ((ByteArray.size (List.getD y7 (Int.toNat y4) (0, 0, ByteArray.empty)).2.2 : Int) > 200)) then (some (.inl true)) else (ih ((), (IntKind.i64.wrap (y4 + 1)), (y5, y6, y7)))) else none) else (some (.inr ((), (y5, y6, y7))))) else (some (.inr ((), (y5, y6, y7)))))
noncomputable def l_14_0 (N : Nat) : TAs sh_14_0 → Option (((TAs [.one (.d (.bool))]) ⊕ (TAs [.one (.ptr 144 0), .agg [.d (.str), .d (.int .i64), .d (.sl [.int .i64, .int .i64, .str])]]))) := iter (b_14_0 N) N
noncomputable def lp_14_0 (_ : Nat) : Nat → Option LSum := lookL []
noncomputable def L_14_0 (N : Nat) : LSum := loopSum [1, 3] [144] sh_14_0 o_14_0 (l_14_0 N)
theorem b_ok_14_0 (N : Nat) (ih : TAs sh_14_0 → Option (((TAs [.one (.d (.bool))]) ⊕ (TAs [.one (.ptr 144 0), .agg [.d (.str), .d (.int .i64), .d (.sl [.int .i64, .int .i64, .str])]])))) (p : TAs sh_14_0) : b_14_0 N ih p = exec (X_14 N) Go.Proofs.Tryz.f14.ntmps (lp_14_0 N) cb_14_0 0 (roundK [1, 3] [144] sh_14_0 o_14_0 ih) (stOf [1, 3] [144] sh_14_0 p) := by kernel_rfl
theorem L_ok_14_0 (N : Nat) : SegOk Go.Proofs.Tryz.prog laidL 0 Go.Proofs.Tryz.f14.ntmps nd_14_0 (L_14_0 N) :=
  ne_14_0 ▸ loop_ok (cur := 0) (lp := lp_14_0 N) (x_14 N) (fun n => iter (b_14_0 N) n) (fun _ => rfl) (fun n p => b_ok_14_0 N (iter (b_14_0 N) n) p) (loopsAll (by kernel_rfl) (lookOk_nil)) N
noncomputable def lp_14 (N : Nat) : Nat → Option LSum := lookL [(0, L_14_0 N)]
noncomputable def f_14 (N : Nat) (x1 : ByteArray) (x2 : Int) (x3 : List (Int × Int × ByteArray)) : Option (TAs [.one (.d (.bool))]) :=
  ((l_14_0 N ((), 0, (x1, x2, x3))).bind fun q => (match q with | .inl q8 => (some q8) | .inr q9 => (bif (decide ((List.length q9.2.2.2 : Int) > 60)) then (some true) else (some (decide ((ByteArray.size q9.2.1 : Int) > 200))))))
theorem ok_14 (N : Nat) (x1 : ByteArray) (x2 : Int) (x3 : List (Int × Int × ByteArray)) : f_14 N x1 x2 x3 = exec (X_14 N) Go.Proofs.Tryz.f14.ntmps (lp_14 N) c_14 0 (fnK (X_14 N) Go.Proofs.Tryz.f14.results.toList 0 [.one (.d (.bool))]) (fnSt 1 0 [.agg [.d (.str), .d (.int .i64), .d (.sl [.int .i64, .int .i64, .str])]] (x1, x2, x3)) := by kernel_rfl
noncomputable def S_14 (N : Nat) : Sum := fnSum 1 0 1 [.agg [.d (.str), .d (.int .i64), .d (.sl [.int .i64, .int .i64, .str])]] [.one (.d (.bool))] (fun p => f_14 N p.1 p.2.1 p.2.2)
theorem s_14 (N : Nat) : SumOk Go.Proofs.Tryz.prog laidL 14 (S_14 N) :=
  fn_ok (lp := lp_14 N) (x_14 N) Go.Proofs.Tryz.func14 (c := c_14) (by kernel_rfl) (by kernel_rfl) rfl (fun p => ok_14 N p.1 p.2.1 p.2.2) (loopsAll (by kernel_rfl) ((lookOk_cons (L_ok_14_0 N) lookOk_nil)))
noncomputable def X_22 (_ : Nat) : Ctx := ⟨tyT, lookF [(46, asS)], eqT, fun _ => false⟩
noncomputable def c_22 : Code := bodyOf Go.Proofs.Tryz.f22
theorem x_22 (N : Nat) : CtxOk Go.Proofs.Tryz.prog laidL (X_22 N) := ⟨tyOk, eqOk, fun _ _ => (fnsOk_cons asS_ok fnsOk_nil).get, by kernel_rfl⟩
noncomputable def lp_22 (_ : Nat) : Nat → Option LSum := lookL []
noncomputable def f_22 (_ : Nat) (x1 : Option Int) : Option (TAs [.one (.d (.int .i64))]) :=
  (bif (Option.isNone x1) then (some 0) else ((some (x1, (0 : Int)) : Option (Option Int × Int)).bind fun r2 => (bif (Option.isSome r2.1) then (some (asVal r2.2 r2.1)) else (some (-1)))))
theorem ok_22 (N : Nat) (x1 : Option Int) : f_22 N x1 = exec (X_22 N) Go.Proofs.Tryz.f22.ntmps (lp_22 N) c_22 0 (fnK (X_22 N) Go.Proofs.Tryz.f22.results.toList 0 [.one (.d (.int .i64))]) (fnSt 1 0 [.one (.d (.err 88))] x1) := by kernel_rfl
noncomputable def S_22 (N : Nat) : Sum := fnSum 1 0 1 [.one (.d (.err 88))] [.one (.d (.int .i64))] (fun p => f_22 N p)
theorem s_22 (N : Nat) : SumOk Go.Proofs.Tryz.prog laidL 22 (S_22 N) :=
  fn_ok (lp := lp_22 N) (x_22 N) Go.Proofs.Tryz.func22 (c := c_22) (by kernel_rfl) (by kernel_rfl) rfl (fun p => ok_22 N p) (loopsAll (by kernel_rfl) (lookOk_nil))
noncomputable def X_34 (_ : Nat) : Ctx := ⟨tyT, lookF [], eqT, fun _ => false⟩
noncomputable def c_34 : Code := bodyOf Go.Proofs.Tryz.f34
theorem x_34 (N : Nat) : CtxOk Go.Proofs.Tryz.prog laidL (X_34 N) := ⟨tyOk, eqOk, fun _ _ => fnsOk_nil.get, by kernel_rfl⟩
noncomputable def nd_34_0 : Code := loopAt 0 0 c_34
noncomputable def cb_34_0 : Code := unloop nd_34_0
theorem ne_34_0 : nd_34_0 = .loop cb_34_0 := by kernel_rfl
noncomputable def sh_34_0 : List ShA := [.one (.d (.int .u64)), .one (.d (.int .i64)), .one (.slt [.int .u8] 5 1), .one (.d (.int .i64))]
noncomputable def o_34_0 : OutK 0 (TAs [.one (.slt [.int .u8] 5 1)]) := (outOne 0 (.exit 0) [7] [] [.one (.slt [.int .u8] 5 1)])
noncomputable def b_34_0 (_ : Nat) (ih : TAs sh_34_0 → Option (TAs [.one (.slt [.int .u8] 5 1)])) : TAs sh_34_0 → Option (TAs [.one (.slt [.int .u8] 5 1)]) := fun (y4, y5, y6, y7) =>
  (bif (decide (y7 < y5)) then (bif (decide ((List.length y6 + List.length ([(IntKind.u8.wrap (Int.tmod y4 256))] : List Int)) * 1 ≤ 140737488355328)) then (ih ((IntKind.u64.wrap (Int.tdiv y4 256)), y5, (y6 ++ ([(IntKind.u8.wrap (Int.tmod y4 256))] : List Int)), (IntKind.i64.wrap (y7 + 1)))) else none) else (some (y6)))
noncomputable def l_34_0 (N : Nat) : TAs sh_34_0 → Option (TAs [.one (.slt [.int .u8] 5 1)]) := iter (b_34_0 N) N
noncomputable def lp_34_0 (_ : Nat) : Nat → Option LSum := lookL []
noncomputable def L_34_0 (N : Nat) : LSum := loopSum [1, 2, 7, 8] [] sh_34_0 o_34_0 (l_34_0 N)
theorem b_ok_34_0 (N : Nat) (ih : TAs sh_34_0 → Option (TAs [.one (.slt [.int .u8] 5 1)])) (p : TAs sh_34_0) : b_34_0 N ih p = exec (X_34 N) Go.Proofs.Tryz.f34.ntmps (lp_34_0 N) cb_34_0 0 (roundK [1, 2, 7, 8] [] sh_34_0 o_34_0 ih) (stOf [1, 2, 7, 8] [] sh_34_0 p) := by kernel_rfl
theorem L_ok_34_0 (N : Nat) : SegOk Go.Proofs.Tryz.prog laidL 0 Go.Proofs.Tryz.f34.ntmps nd_34_0 (L_34_0 N) :=
  ne_34_0 ▸ loop_ok (cur := 0) (lp := lp_34_0 N) (x_34 N) (fun n => iter (b_34_0 N) n) (fun _ => rfl) (fun n p => b_ok_34_0 N (iter (b_34_0 N) n) p) (loopsAll (by kernel_rfl) (lookOk_nil)) N
noncomputable def lp_34 (N : Nat) : Nat → Option LSum := lookL [(0, L_34_0 N)]
noncomputable def f_34 (N : Nat) (x1 : List Int) (x2 : Int) (x3 : Int) : Option (TAs [.one (.slt [.int .u8] 5 1)]) :=
  (bif (decide ((List.length ([] : List Int) + List.length x1) * 1 ≤ 140737488355328)) then ((l_34_0 N (x2, x3, (([] : List Int) ++ x1), 0)).bind fun q8 => (some q8)) else none)
theorem ok_34 (N : Nat) (x1 : List Int) (x2 : Int) (x3 : Int) : f_34 N x1 x2 x3 = exec (X_34 N) Go.Proofs.Tryz.f34.ntmps (lp_34 N) c_34 0 (fnK (X_34 N) Go.Proofs.Tryz.f34.results.toList 0 [.one (.slt [.int .u8] 5 1)]) (fnSt 3 0 [.one (.d (.sl [.int .u8])), .one (.d (.int .u64)), .one (.d (.int .i64))] (x1, x2, x3)) := by kernel_rfl
noncomputable def S_34 (N : Nat) : Sum := fnSum 3 0 1 [.one (.d (.sl [.int .u8])), .one (.d (.int .u64)), .one (.d (.int .i64))] [.one (.slt [.int .u8] 5 1)] (fun p => f_34 N p.1 p.2.1 p.2.2)
theorem s_34 (N : Nat) : SumOk Go.Proofs.Tryz.prog laidL 34 (S_34 N) :=
  fn_ok (lp := lp_34 N) (x_34 N) Go.Proofs.Tryz.func34 (c := c_34) (by kernel_rfl) (by kernel_rfl) rfl (fun p => ok_34 N p.1 p.2.1 p.2.2) (loopsAll (by kernel_rfl) ((lookOk_cons (L_ok_34_0 N) lookOk_nil)))
noncomputable def X_39 (_ : Nat) : Ctx := ⟨tyT, lookF [(75, rdS)], eqT, fun _ => false⟩
noncomputable def c_39 : Code := bodyOf Go.Proofs.Tryz.f39
theorem x_39 (N : Nat) : CtxOk Go.Proofs.Tryz.prog laidL (X_39 N) := ⟨tyOk, eqOk, fun _ _ => (fnsOk_cons rdS_ok fnsOk_nil).get, by kernel_rfl⟩
noncomputable def lp_39 (_ : Nat) : Nat → Option LSum := lookL []
noncomputable def f_39 (_ : Nat) (x1 : List Int) (x2 : Bool) : Option (TAs [.one (.d (.int .i64)), .agg [.d (.sl [.int .u8]), .d (.bool)]]) :=
  ((rdF 8 x1 x2).bind fun r3 => (some ((IntKind.i64.wrap r3.1), (r3.2.1, r3.2.2))))
theorem ok_39 (N : Nat) (x1 : List Int) (x2 : Bool) : f_39 N x1 x2 = exec (X_39 N) Go.Proofs.Tryz.f39.ntmps (lp_39 N) c_39 0 (fnK (X_39 N) Go.Proofs.Tryz.f39.results.toList 1 [.one (.d (.int .i64)), .agg [.d (.sl [.int .u8]), .d (.bool)]]) (fnSt 1 1 [.one (.ptr 0 0), .agg [.d (.sl [.int .u8]), .d (.bool)]] ((), (x1, x2))) := by kernel_rfl
noncomputable def S_39 (N : Nat) : Sum := fnSum 1 1 1 [.one (.ptr 0 0), .agg [.d (.sl [.int .u8]), .d (.bool)]] [.one (.d (.int .i64)), .agg [.d (.sl [.int .u8]), .d (.bool)]] (fun p => f_39 N p.2.1 p.2.2)
theorem s_39 (N : Nat) : SumOk Go.Proofs.Tryz.prog laidL 39 (S_39 N) :=
  fn_ok (lp := lp_39 N) (x_39 N) Go.Proofs.Tryz.func39 (c := c_39) (by kernel_rfl) (by kernel_rfl) rfl (fun p => ok_39 N p.2.1 p.2.2) (loopsAll (by kernel_rfl) (lookOk_nil))
noncomputable def X_40 (_ : Nat) : Ctx := ⟨tyT, lookF [(75, rdS)], eqT, fun _ => false⟩
noncomputable def c_40 : Code := bodyOf Go.Proofs.Tryz.f40
theorem x_40 (N : Nat) : CtxOk Go.Proofs.Tryz.prog laidL (X_40 N) := ⟨tyOk, eqOk, fun _ _ => (fnsOk_cons rdS_ok fnsOk_nil).get, by kernel_rfl⟩
noncomputable def lp_40 (_ : Nat) : Nat → Option LSum := lookL []
noncomputable def f_40 (_ : Nat) (x1 : List Int) (x2 : Bool) : Option (TAs [.one (.d (.int .u8)), .agg [.d (.sl [.int .u8]), .d (.bool)]]) :=
  ((rdF 1 x1 x2).bind fun r3 => (some ((IntKind.u8.wrap r3.1), (r3.2.1, r3.2.2))))
theorem ok_40 (N : Nat) (x1 : List Int) (x2 : Bool) : f_40 N x1 x2 = exec (X_40 N) Go.Proofs.Tryz.f40.ntmps (lp_40 N) c_40 0 (fnK (X_40 N) Go.Proofs.Tryz.f40.results.toList 1 [.one (.d (.int .u8)), .agg [.d (.sl [.int .u8]), .d (.bool)]]) (fnSt 1 1 [.one (.ptr 0 0), .agg [.d (.sl [.int .u8]), .d (.bool)]] ((), (x1, x2))) := by kernel_rfl
noncomputable def S_40 (N : Nat) : Sum := fnSum 1 1 1 [.one (.ptr 0 0), .agg [.d (.sl [.int .u8]), .d (.bool)]] [.one (.d (.int .u8)), .agg [.d (.sl [.int .u8]), .d (.bool)]] (fun p => f_40 N p.2.1 p.2.2)
theorem s_40 (N : Nat) : SumOk Go.Proofs.Tryz.prog laidL 40 (S_40 N) :=
  fn_ok (lp := lp_40 N) (x_40 N) Go.Proofs.Tryz.func40 (c := c_40) (by kernel_rfl) (by kernel_rfl) rfl (fun p => ok_40 N p.2.1 p.2.2) (loopsAll (by kernel_rfl) (lookOk_nil))
noncomputable def X_41 (_ : Nat) : Ctx := ⟨tyT, lookF [], eqT, fun _ => false⟩
noncomputable def c_41 : Code := bodyOf Go.Proofs.Tryz.f41
theorem x_41 (N : Nat) : CtxOk Go.Proofs.Tryz.prog laidL (X_41 N) := ⟨tyOk, eqOk, fun _ _ => fnsOk_nil.get, by kernel_rfl⟩
noncomputable def lp_41 (_ : Nat) : Nat → Option LSum := lookL []
noncomputable def f_41 (_ : Nat) (x1 : List Int) (x2 : Bool) : Option (TAs [.one (.d (.err 88)), .agg [.d (.sl [.int .u8]), .d (.bool)]]) :=
  (bif x2 then (some ((some 3), (x1, x2))) else (bif (decide ((List.length x1 : Int) > 0)) then (some ((some 3), (x1, x2))) else (some (none, (x1, x2)))))
theorem ok_41 (N : Nat) (x1 : List Int) (x2 : Bool) : f_41 N x1 x2 = exec (X_41 N) Go.Proofs.Tryz.f41.ntmps (lp_41 N) c_41 0 (fnK (X_41 N) Go.Proofs.Tryz.f41.results.toList 1 [.one (.d (.err 88)), .agg [.d (.sl [.int .u8]), .d (.bool)]]) (fnSt 1 1 [.one (.ptr 0 0), .agg [.d (.sl [.int .u8]), .d (.bool)]] ((), (x1, x2))) := by kernel_rfl
noncomputable def S_41 (N : Nat) : Sum := fnSum 1 1 1 [.one (.ptr 0 0), .agg [.d (.sl [.int .u8]), .d (.bool)]] [.one (.d (.err 88)), .agg [.d (.sl [.int .u8]), .d (.bool)]] (fun p => f_41 N p.2.1 p.2.2)
theorem s_41 (N : Nat) : SumOk Go.Proofs.Tryz.prog laidL 41 (S_41 N) :=
  fn_ok (lp := lp_41 N) (x_41 N) Go.Proofs.Tryz.func41 (c := c_41) (by kernel_rfl) (by kernel_rfl) rfl (fun p => ok_41 N p.2.1 p.2.2) (loopsAll (by kernel_rfl) (lookOk_nil))
noncomputable def X_44 (_ : Nat) : Ctx := ⟨tyT, lookF [], eqT, fun _ => false⟩
noncomputable def c_44 : Code := bodyOf Go.Proofs.Tryz.f44
theorem x_44 (N : Nat) : CtxOk Go.Proofs.Tryz.prog laidL (X_44 N) := ⟨tyOk, eqOk, fun _ _ => fnsOk_nil.get, by kernel_rfl⟩
noncomputable def nd_44_0 : Code := loopAt 0 0 c_44
noncomputable def cb_44_0 : Code := unloop nd_44_0
theorem ne_44_0 : nd_44_0 = .loop cb_44_0 := by kernel_rfl
noncomputable def sh_44_0 : List ShA := [.one (.d (.int .i64)), .one (.ptr 160 0), .one (.ptr 192 0), .one (.d (.int .u64)), .one (.d (.int .i64)), .agg [.d (.sl [.int .u8]), .d (.bool)], .agg [.slt [.int .u8] 5 1, .d (.bool)]]
noncomputable def o_44_0 : OutK 0 (TAs [.one (.d (.int .i64)), .one (.ptr 160 0), .one (.ptr 192 0), .one (.d (.int .u64)), .agg [.d (.sl [.int .u8]), .d (.bool)], .agg [.slt [.int .u8] 5 1, .d (.bool)]]) := (outOne 0 (.exit 0) [1, 2, 4, 6] [160, 192] [.one (.d (.int .i64)), .one (.ptr 160 0), .one (.ptr 192 0), .one (.d (.int .u64)), .agg [.d (.sl [.int .u8]), .d (.bool)], .agg [.slt [.int .u8] 5 1, .d (.bool)]])
noncomputable def b_44_0 (_ : Nat) (ih : TAs sh_44_0 → Option (TAs [.one (.d (.int .i64)), .one (.ptr 160 0), .one (.ptr 192 0), .one (.d (.int .u64)), .agg [.d (.sl [.int .u8]), .d (.bool)], .agg [.slt [.int .u8] 5 1, .d (.bool)]])) : TAs sh_44_0 → Option (TAs [.one (.d (.int .i64)), .one (.ptr 160 0), .one (.ptr 192 0), .one (.d (.int .u64)), .agg [.d (.sl [.int .u8]), .d (.bool)], .agg [.slt [.int .u8] 5 1, .d (.bool)]]) := fun (y4, _, _, y5, y6, (y7, y8), (y9, y10)) =>
  (bif (decide (y6 ≥ 0)) then (bif (decide (0 ≤ y6 ∧ y6 < (List.length y7 : Int))) then (ih (y4, (), (), (IntKind.u64.wrap ((IntKind.u64.wrap (256 * y5)) + (IntKind.u64.wrap (List.getD y7 (Int.toNat y6) 0)))), (IntKind.i64.wrap (y6 - 1)), (y7, y8), (y9, y10))) else none) else (some ((y4, (), (), y5, (y7, y8), (y9, y10)))))
noncomputable def l_44_0 (N : Nat) : TAs sh_44_0 → Option (TAs [.one (.d (.int .i64)), .one (.ptr 160 0), .one (.ptr 192 0), .one (.d (.int .u64)), .agg [.d (.sl [.int .u8]), .d (.bool)], .agg [.slt [.int .u8] 5 1, .d (.bool)]]) := iter (b_44_0 N) N
noncomputable def lp_44_0 (_ : Nat) : Nat → Option LSum := lookL []
noncomputable def L_44_0 (N : Nat) : LSum := loopSum [1, 2, 4, 6, 7] [160, 192] sh_44_0 o_44_0 (l_44_0 N)
theorem b_ok_44_0 (N : Nat) (ih : TAs sh_44_0 → Option (TAs [.one (.d (.int .i64)), .one (.ptr 160 0), .one (.ptr 192 0), .one (.d (.int .u64)), .agg [.d (.sl [.int .u8]), .d (.bool)], .agg [.slt [.int .u8] 5 1, .d (.bool)]])) (p : TAs sh_44_0) : b_44_0 N ih p = exec (X_44 N) Go.Proofs.Tryz.f44.ntmps (lp_44_0 N) cb_44_0 0 (roundK [1, 2, 4, 6, 7] [160, 192] sh_44_0 o_44_0 ih) (stOf [1, 2, 4, 6, 7] [160, 192] sh_44_0 p) := by kernel_rfl
theorem L_ok_44_0 (N : Nat) : SegOk Go.Proofs.Tryz.prog laidL 0 Go.Proofs.Tryz.f44.ntmps nd_44_0 (L_44_0 N) :=
  ne_44_0 ▸ loop_ok (cur := 0) (lp := lp_44_0 N) (x_44 N) (fun n => iter (b_44_0 N) n) (fun _ => rfl) (fun n p => b_ok_44_0 N (iter (b_44_0 N) n) p) (loopsAll (by kernel_rfl) (lookOk_nil)) N
noncomputable def lp_44 (N : Nat) : Nat → Option LSum := lookL [(0, L_44_0 N)]
noncomputable def f_44 (N : Nat) (x1 : List Int) (x2 : Bool) (x3 : Int) : Option (TAs [.agg [.d (.sl [.int .u8]), .d (.bool)], .one (.d (.int .u64))]) :=
  (bif x2 then (some ((([] : List Int), true), 0)) else (bif (decide ((List.length x1 : Int) < x3)) then (some ((([] : List Int), true), 0)) else ((l_44_0 N (x3, (), (), 0, (IntKind.i64.wrap (x3 - 1)), (x1, x2), (([] : List Int), false))).bind fun q11 => (bif (decide (0 ≤ (List.length q11.2.2.2.2.1.1 : Int) ∧ (List.length q11.2.2.2.2.1.1 : Int) ≤ (List.length q11.2.2.2.2.1.1 : Int))) then (bif (decide (0 ≤ q11.1 ∧ q11.1 ≤ (List.length q11.2.2.2.2.1.1 : Int))) then (some (((List.drop (Int.toNat q11.1) (List.take (Int.toNat (List.length q11.2.2.2.2.1.1 : Int)) q11.2.2.2.2.1.1)), false), q11.2.2.2.1)) else none) else none))))
theorem ok_44 (N : Nat) (x1 : List Int) (x2 : Bool) (x3 : Int) : f_44 N x1 x2 x3 = exec (X_44 N) Go.Proofs.Tryz.f44.ntmps (lp_44 N) c_44 0 (fnK (X_44 N) Go.Proofs.Tryz.f44.results.toList 0 [.agg [.d (.sl [.int .u8]), .d (.bool)], .one (.d (.int .u64))]) (fnSt 2 0 [.agg [.d (.sl [.int .u8]), .d (.bool)], .one (.d (.int .i64))] ((x1, x2), x3)) := by kernel_rfl
noncomputable def S_44 (N : Nat) : Sum := fnSum 2 0 2 [.agg [.d (.sl [.int .u8]), .d (.bool)], .one (.d (.int .i64))] [.agg [.d (.sl [.int .u8]), .d (.bool)], .one (.d (.int .u64))] (fun p => f_44 N p.1.1 p.1.2 p.2)
theorem s_44 (N : Nat) : SumOk Go.Proofs.Tryz.prog laidL 44 (S_44 N) :=
  fn_ok (lp := lp_44 N) (x_44 N) Go.Proofs.Tryz.func44 (c := c_44) (by kernel_rfl) (by kernel_rfl) rfl (fun p => ok_44 N p.1.1 p.1.2 p.2) (loopsAll (by kernel_rfl) ((lookOk_cons (L_ok_44_0 N) lookOk_nil)))
noncomputable def X_45 (_ : Nat) : Ctx := ⟨tyT, lookF [], eqT, fun _ => false⟩
noncomputable def c_45 : Code := bodyOf Go.Proofs.Tryz.f45
theorem x_45 (N : Nat) : CtxOk Go.Proofs.Tryz.prog laidL (X_45 N) := ⟨tyOk, eqOk, fun _ _ => fnsOk_nil.get, by kernel_rfl⟩
noncomputable def lp_45 (_ : Nat) : Nat → Option LSum := lookL []
noncomputable def f_45 (_ : Nat) (x1 : List Int) (x2 : Bool) : Option (TAs [.one (.d (.bool))]) :=
  (bif (!x2) then (some ((List.length x1 : Int) == 0)) else (some false))
theorem ok_45 (N : Nat) (x1 : List Int) (x2 : Bool) : f_45 N x1 x2 = exec (X_45 N) Go.Proofs.Tryz.f45.ntmps (lp_45 N) c_45 0 (fnK (X_45 N) Go.Proofs.Tryz.f45.results.toList 0 [.one (.d (.bool))]) (fnSt 1 0 [.agg [.d (.sl [.int .u8]), .d (.bool)]] (x1, x2)) := by kernel_rfl
noncomputable def S_45 (N : Nat) : Sum := fnSum 1 0 1 [.agg [.d (.sl [.int .u8]), .d (.bool)]] [.one (.d (.bool))] (fun p => f_45 N p.1 p.2)
theorem s_45 (N : Nat) : SumOk Go.Proofs.Tryz.prog laidL 45 (S_45 N) :=
  fn_ok (lp := lp_45 N) (x_45 N) Go.Proofs.Tryz.func45 (c := c_45) (by kernel_rfl) (by kernel_rfl) rfl (fun p => ok_45 N p.1 p.2) (loopsAll (by kernel_rfl) (lookOk_nil))
noncomputable def X_47 (_ : Nat) : Ctx := ⟨tyT, lookF [], eqT, fun _ => false⟩
noncomputable def c_47 : Code := bodyOf Go.Proofs.Tryz.f47
theorem x_47 (N : Nat) : CtxOk Go.Proofs.Tryz.prog laidL (X_47 N) := ⟨tyOk, eqOk, fun _ _ => fnsOk_nil.get, by kernel_rfl⟩
noncomputable def lp_47 (_ : Nat) : Nat → Option LSum := lookL []
noncomputable def f_47 (_ : Nat) : Option (TAs [.agg [.d (.int .i64), .d (.int .i64), .d (.int .i64), .d (.int .i64), .d (.int .i64), .d (.int .i64), .d (.bool), .d (.str), .d (.int .i64), .slt [.int .i64, .int .i64, .str] 69 3]]) :=
  (some (0, 0, 0, 1, 0, 1, false, ⟨#[85, 84, 67]⟩, 0, ([] : List (Int × Int × ByteArray))))
theorem ok_47 (N : Nat) : f_47 N = exec (X_47 N) Go.Proofs.Tryz.f47.ntmps (lp_47 N) c_47 0 (fnK (X_47 N) Go.Proofs.Tryz.f47.results.toList 0 [.agg [.d (.int .i64), .d (.int .i64), .d (.int .i64), .d (.int .i64), .d (.int .i64), .d (.int .i64), .d (.bool), .d (.str), .d (.int .i64), .slt [.int .i64, .int .i64, .str] 69 3]]) (fnSt 0 0 [] ()) := by kernel_rfl
noncomputable def S_47 (N : Nat) : Sum := fnSum 0 0 1 [] [.agg [.d (.int .i64), .d (.int .i64), .d (.int .i64), .d (.int .i64), .d (.int .i64), .d (.int .i64), .d (.bool), .d (.str), .d (.int .i64), .slt [.int .i64, .int .i64, .str] 69 3]] (fun _ => f_47 N)
theorem s_47 (N : Nat) : SumOk Go.Proofs.Tryz.prog laidL 47 (S_47 N) :=
  fn_ok (lp := lp_47 N) (x_47 N) Go.Proofs.Tryz.func47 (c := c_47) (by kernel_rfl) (by kernel_rfl) rfl (fun _ => ok_47 N) (loopsAll (by kernel_rfl) (lookOk_nil))
noncomputable def X_49 (_ : Nat) : Ctx := ⟨tyT, lookF [], eqT, fun _ => false⟩
noncomputable def c_49 : Code := bodyOf Go.Proofs.Tryz.f49
theorem x_49 (N : Nat) : CtxOk Go.Proofs.Tryz.prog laidL (X_49 N) := ⟨tyOk, eqOk, fun _ _ => fnsOk_nil.get, by kernel_rfl⟩
noncomputable def lp_49 (_ : Nat) : Nat → Option LSum := lookL []
noncomputable def f_49 (_ : Nat) (x1 : Bool) : Option (TAs [.one (.d (.int .u8))]) :=
  (bif x1 then (some 1) else (some 0))
theorem ok_49 (N : Nat) (x1 : Bool) : f_49 N x1 = exec (X_49 N) Go.Proofs.Tryz.f49.ntmps (lp_49 N) c_49 0 (fnK (X_49 N) Go.Proofs.Tryz.f49.results.toList 0 [.one (.d (.int .u8))]) (fnSt 1 0 [.one (.d (.bool))] x1) := by kernel_rfl
noncomputable def S_49 (N : Nat) : Sum := fnSum 1 0 1 [.one (.d (.bool))] [.one (.d (.int .u8))] (fun p => f_49 N p)
theorem s_49 (N : Nat) : SumOk Go.Proofs.Tryz.prog laidL 49 (S_49 N) :=
  fn_ok (lp := lp_49 N) (x_49 N) Go.Proofs.Tryz.func49 (c := c_49) (by kernel_rfl) (by kernel_rfl) rfl (fun p => ok_49 N p) (loopsAll (by kernel_rfl) (lookOk_nil))
noncomputable def X_50 (_ : Nat) : Ctx := ⟨tyT, lookF [], eqT, fun _ => false⟩
noncomputable def c_50 : Code := bodyOf Go.Proofs.Tryz.f50
theorem x_50 (N : Nat) : CtxOk Go.Proofs.Tryz.prog laidL (X_50 N) := ⟨tyOk, eqOk, fun _ _ => fnsOk_nil.get, by kernel_rfl⟩
noncomputable def nd_50_0 : Code := loopAt 0 0 c_50
noncomputable def cb_50_0 : Code := unloop nd_50_0
theorem ne_50_0 : nd_50_0 = .loop cb_50_0 := by kernel_rfl
noncomputable def sh_50_0 : List ShA := [.one (.ptr 144 0), .one (.ptr 160 0), .one (.ptr 176 0), .one (.d (.int .i64)), .agg [.d (.str), .d (.int .i64), .d (.sl [.int .i64, .int .i64, .str])], .agg [.d (.str), .d (.int .i64), .slt [.int .i64, .int .i64, .str] 69 3], .agg [.d (.str), .d (.int .i64), .slt [.int .i64, .int .i64, .str] 69 3]]
noncomputable def o_50_0 : OutK 0 (TAs [.one (.ptr 160 0), .one (.ptr 176 0), .agg [.d (.str), .d (.int .i64), .slt [.int .i64, .int .i64, .str] 69 3], .agg [.d (.str), .d (.int .i64), .slt [.int .i64, .int .i64, .str] 69 3]]) := (outOne 0 (.exit 0) [2, 3] [160, 176] [.one (.ptr 160 0), .one (.ptr 176 0), .agg [.d (.str), .d (.int .i64), .slt [.int .i64, .int .i64, .str] 69 3], .agg [.d (.str), .d (.int .i64), .slt [.int .i64, .int .i64, .str] 69 3]])
noncomputable def b_50_0 (_ : Nat) (ih : TAs sh_50_0 → Option (TAs [.one (.ptr 160 0), .one (.ptr 176 0), .agg [.d (.str), .d (.int .i64), .slt [.int .i64, .int .i64, .str] 69 3], .agg [.d (.str), .d (.int .i64), .slt [.int .i64, .int .i64, .str] 69 3]])) : TAs sh_50_0 → Option (TAs [.one (.ptr 160 0), .one (.ptr 176 0), .agg [.d (.str), .d (.int .i64), .slt [.int .i64, .int .i64, .str] 69 3], .agg [.d (.str), .d (.int .i64), .slt [.int .i64, .int .i64, .str] 69 3]]) := fun (_, _, _, y4, (y5, y6, y7), (y8, y9, y10), (y11, y12, y13)) =>
  (bif (decide (y4 < (List.length y7 : Int))) then (bif (decide (0 ≤ y4 ∧ y4 < (List.length y7 : Int))) then (bif (decide ((List.length y13 + List.length ([((List.getD y7 (Int.toNat y4) (0, 0, ByteArray.empty)).1, (List.getD y7 (Int.toNat y4) (0, 0, ByteArray.empty)).2.1, (List.getD y7 (Int.toNat y4) (0, 0, ByteArray.empty)).2.2)] : List (Int × Int × ByteArray))) * 32 ≤ 140737488355328)) then (ih ((), (), (), (IntKind.i64.wrap (y4 + 1)), (y5, y6, y7), (y8, y9, y10), (y11, y12, (y13 ++ ([((List.getD y7 (Int.toNat y4) (0, 0, ByteArray.empty)).1, (List.getD y7 (Int.toNat y4) (0, 0, ByteArray.empty)).2.1, (List.getD y7 (Int.toNat y4) (0, 0, ByteArray.empty)).2.2)] : List (Int × Int × ByteArray)))))) else none) else none) else (some (((), (), (y8, y9, y10), (y11, y12, y13)))))
noncomputable def l_50_0 (N : Nat) : TAs sh_50_0 → Option (TAs [.one (.ptr 160 0), .one (.ptr 176 0), .agg [.d (.str), .d (.int .i64), .slt [.int .i64, .int .i64, .str] 69 3], .agg [.d (.str), .d (.int .i64), .slt [.int .i64, .int .i64, .str] 69 3]]) := iter (b_50_0 N) N
noncomputable def lp_50_0 (_ : Nat) : Nat → Option LSum := lookL []
noncomputable def L_50_0 (N : Nat) : LSum := loopSum [1, 2, 3, 4] [144, 160, 176] sh_50_0 o_50_0 (l_50_0 N)
theorem b_ok_50_0 (N : Nat) (ih : TAs sh_50_0 → Option (TAs [.one (.ptr 160 0), .one (.ptr 176 0), .agg [.d (.str), .d (.int .i64), .slt [.int .i64, .int .i64, .str] 69 3], .agg [.d (.str), .d (.int .i64), .slt [.int .i64, .int .i64, .str] 69 3]])) (p : TAs sh_50_0) : b_50_0 N ih p = exec (X_50 N) Go.Proofs.Tryz.f50.ntmps (lp_50_0 N) cb_50_0 0 (roundK [1, 2, 3, 4] [144, 160, 176] sh_50_0 o_50_0 ih) (stOf [1, 2, 3, 4] [144, 160, 176] sh_50_0 p) := by kernel_rfl
theorem L_ok_50_0 (N : Nat) : SegOk Go.Proofs.Tryz.prog laidL 0 Go.Proofs.Tryz.f50.ntmps nd_50_0 (L_50_0 N) :=
  ne_50_0 ▸ loop_ok (cur := 0) (lp := lp_50_0 N) (x_50 N) (fun n => iter (b_50_0 N) n) (fun _ => rfl) (fun n p => b_ok_50_0 N (iter (b_50_0 N) n) p) (loopsAll (by kernel_rfl) (lookOk_nil)) N
noncomputable def lp_50 (N : Nat) : Nat → Option LSum := lookL [(0, L_50_0 N)]
noncomputable def f_50 (N : Nat) (x1 : ByteArray) (x2 : Int) (x3 : List (Int × Int × ByteArray)) : Option (TAs [.agg [.d (.str), .d (.int .i64), .slt [.int .i64, .int .i64, .str] 69 3]]) :=
  ((l_50_0 N ((), (), (), 0, (x1, x2, x3), (ByteArray.empty, 0, ([] : List (Int × Int × ByteArray))), (x1, x2, ([] : List (Int × Int × ByteArray))))).bind fun q14 => (some (q14.2.2.2.1, q14.2.2.2.2.1, q14.2.2.2.2.2)))
theorem ok_50 (N : Nat) (x1 : ByteArray) (x2 : Int) (x3 : List (Int × Int × ByteArray)) : f_50 N x1 x2 x3 = exec (X_50 N) Go.Proofs.Tryz.f50.ntmps (lp_50 N) c_50 0 (fnK (X_50 N) Go.Proofs.Tryz.f50.results.toList 0 [.agg [.d (.str), .d (.int .i64), .slt [.int .i64, .int .i64, .str] 69 3]]) (fnSt 1 0 [.agg [.d (.str), .d (.int .i64), .d (.sl [.int .i64, .int .i64, .str])]] (x1, x2, x3)) := by kernel_rfl
noncomputable def S_50 (N : Nat) : Sum := fnSum 1 0 1 [.agg [.d (.str), .d (.int .i64), .d (.sl [.int .i64, .int .i64, .str])]] [.agg [.d (.str), .d (.int .i64), .slt [.int .i64, .int .i64, .str] 69 3]] (fun p => f_50 N p.1 p.2.1 p.2.2)
theorem s_50 (N : Nat) : SumOk Go.Proofs.Tryz.prog laidL 50 (S_50 N) :=
  fn_ok (lp := lp_50 N) (x_50 N) Go.Proofs.Tryz.func50 (c := c_50) (by kernel_rfl) (by kernel_rfl) rfl (fun p => ok_50 N p.1 p.2.1 p.2.2) (loopsAll (by kernel_rfl) ((lookOk_cons (L_ok_50_0 N) lookOk_nil)))
noncomputable def X_51 (_ : Nat) : Ctx := ⟨tyT, lookF [(75, rdS)], eqT, fun _ => false⟩
noncomputable def c_51 : Code := bodyOf Go.Proofs.Tryz.f51
theorem x_51 (N : Nat) : CtxOk Go.Proofs.Tryz.prog laidL (X_51 N) := ⟨tyOk, eqOk, fun _ _ => (fnsOk_cons rdS_ok fnsOk_nil).get, by kernel_rfl⟩
noncomputable def lp_51 (_ : Nat) : Nat → Option LSum := lookL []
noncomputable def f_51 (_ : Nat) (x1 : List Int) (x2 : Bool) : Option (TAs [.one (.d (.int .u16)), .agg [.d (.sl [.int .u8]), .d (.bool)]]) :=
  ((rdF 2 x1 x2).bind fun r3 => (some ((IntKind.u16.wrap r3.1), (r3.2.1, r3.2.2))))
theorem ok_51 (N : Nat) (x1 : List Int) (x2 : Bool) : f_51 N x1 x2 = exec (X_51 N) Go.Proofs.Tryz.f51.ntmps (lp_51 N) c_51 0 (fnK (X_51 N) Go.Proofs.Tryz.f51.results.toList 1 [.one (.d (.int .u16)), .agg [.d (.sl [.int .u8]), .d (.bool)]]) (fnSt 1 1 [.one (.ptr 0 0), .agg [.d (.sl [.int .u8]), .d (.bool)]] ((), (x1, x2))) := by kernel_rfl
noncomputable def S_51 (N : Nat) : Sum := fnSum 1 1 1 [.one (.ptr 0 0), .agg [.d (.sl [.int .u8]), .d (.bool)]] [.one (.d (.int .u16)), .agg [.d (.sl [.int .u8]), .d (.bool)]] (fun p => f_51 N p.2.1 p.2.2)
theorem s_51 (N : Nat) : SumOk Go.Proofs.Tryz.prog laidL 51 (S_51 N) :=
  fn_ok (lp := lp_51 N) (x_51 N) Go.Proofs.Tryz.func51 (c := c_51) (by kernel_rfl) (by kernel_rfl) rfl (fun p => ok_51 N p.2.1 p.2.2) (loopsAll (by kernel_rfl) (lookOk_nil))
noncomputable def X_52 (_ : Nat) : Ctx := ⟨tyT, lookF [], eqT, fun _ => false⟩
noncomputable def c_52 : Code := bodyOf Go.Proofs.Tryz.f52
theorem x_52 (N : Nat) : CtxOk Go.Proofs.Tryz.prog laidL (X_52 N) := ⟨tyOk, eqOk, fun _ _ => fnsOk_nil.get, by kernel_rfl⟩
noncomputable def lp_52 (_ : Nat) : Nat → Option LSum := lookL []
noncomputable def f_52 (_ : Nat) (x1 : List Int) (x2 : Bool) : Option (TAs [.one (.d (.int .i64)), .agg [.d (.sl [.int .u8]), .d (.bool)]]) :=
  (some ((List.length x1 : Int), (x1, x2)))
theorem ok_52 (N : Nat) (x1 : List Int) (x2 : Bool) : f_52 N x1 x2 = exec (X_52 N) Go.Proofs.Tryz.f52.ntmps (lp_52 N) c_52 0 (fnK (X_52 N) Go.Proofs.Tryz.f52.results.toList 1 [.one (.d (.int .i64)), .agg [.d (.sl [.int .u8]), .d (.bool)]]) (fnSt 1 1 [.one (.ptr 0 0), .agg [.d (.sl [.int .u8]), .d (.bool)]] ((), (x1, x2))) := by kernel_rfl
noncomputable def S_52 (N : Nat) : Sum := fnSum 1 1 1 [.one (.ptr 0 0), .agg [.d (.sl [.int .u8]), .d (.bool)]] [.one (.d (.int .i64)), .agg [.d (.sl [.int .u8]), .d (.bool)]] (fun p => f_52 N p.2.1 p.2.2)
theorem s_52 (N : Nat) : SumOk Go.Proofs.Tryz.prog laidL 52 (S_52 N) :=
  fn_ok (lp := lp_52 N) (x_52 N) Go.Proofs.Tryz.func52 (c := c_52) (by kernel_rfl) (by kernel_rfl) rfl (fun p => ok_52 N p.2.1 p.2.2) (loopsAll (by kernel_rfl) (lookOk_nil))
noncomputable def X_53 (_ : Nat) : Ctx := ⟨tyT, lookF [], eqT, fun _ => false⟩
noncomputable def c_53 : Code := bodyOf Go.Proofs.Tryz.f53
theorem x_53 (N : Nat) : CtxOk Go.Proofs.Tryz.prog laidL (X_53 N) := ⟨tyOk, eqOk, fun _ _ => fnsOk_nil.get, by kernel_rfl⟩
noncomputable def nd_53_0 : Code := loopAt 0 0 c_53
noncomputable def cb_53_0 : Code := unloop nd_53_0
theorem ne_53_0 : nd_53_0 = .loop cb_53_0 := by kernel_rfl
noncomputable def sh_53_0 : List ShA := [.one (.ptr 160 0), .one (.ptr 176 0), .one (.d (.int .i64)), .agg [.d (.str), .d (.int .i64), .d (.sl [.int .i64, .int .i64, .str])], .agg [.d (.str), .d (.int .i64), .d (.sl [.int .i64, .int .i64, .str])]]
noncomputable def o_53_0 : OutK 0 (((TAs [.one (.d (.bool))]) ⊕ (TAs []))) := (outTwo (outOne 0 .ret [4] [] [.one (.d (.bool))]) (outOne 0 (.exit 0) [] [] []))
noncomputable def b_53_0 (_ : Nat) (ih : TAs sh_53_0 → Option (((TAs [.one (.d (.bool))]) ⊕ (TAs [])))) : TAs sh_53_0 → Option (((TAs [.one (.d (.bool))]) ⊕ (TAs []))) := fun (_, _, y7, (y8, y9, y10), (y11, y12, y13)) =>
  (bif (decide (y7 < (List.length y10 : Int))) then (bif (decide (0 ≤ y7 ∧ y7 < (List.length y10 : Int))) then (bif (decide (0 ≤ y7 ∧ y7 < (List.length y13 : Int))) then (bif (!(((List.getD y10 (Int.toNat y7) (0, 0, ByteArray.empty)).1 == (List.getD y13 (Int.toNat y7) (0, 0, ByteArray.empty)).1) && (((List.getD y10 (Int.toNat y7) (0, 0, ByteArray.empty)).2.1 == (List.getD y13 (Int.toNat y7) (0, 0, ByteArray.empty)).2.1) && ((List.getD y10 (Int.toNat y7) (0, 0, ByteArray.empty)).2.2.toList == (List.getD y13 (Int.toNat y7) (0, 0, ByteArray.empty)).2.2.toList)))) then (some (.inl false)) else (ih ((), (), (IntKind.i64.wrap (y7 + 1)), (y8, y9, y10), (y11, y12, y13)))) else none) else none) else (some (.inr ())))
noncomputable def l_53_0 (N : Nat) : TAs sh_53_0 → Option (((TAs [.one (.d (.bool))]) ⊕ (TAs []))) := iter (b_53_0 N) N
noncomputable def lp_53_0 (_ : Nat) : Nat → Option LSum := lookL []
noncomputable def L_53_0 (N : Nat) : LSum := loopSum [2, 3, 5] [160, 176] sh_53_0 o_53_0 (l_53_0 N)
theorem b_ok_53_0 (N : Nat) (ih : TAs sh_53_0 → Option (((TAs [.one (.d (.bool))]) ⊕ (TAs [])))) (p : TAs sh_53_0) : b_53_0 N ih p = exec (X_53 N) Go.Proofs.Tryz.f53.ntmps (lp_53_0 N) cb_53_0 0 (roundK [2, 3, 5] [160, 176] sh_53_0 o_53_0 ih) (stOf [2, 3, 5] [160, 176] sh_53_0 p) := by kernel_rfl
theorem L_ok_53_0 (N : Nat) : SegOk Go.Proofs.Tryz.prog laidL 0 Go.Proofs.Tryz.f53.ntmps nd_53_0 (L_53_0 N) :=
  ne_53_0 ▸ loop_ok (cur := 0) (lp := lp_53_0 N) (x_53 N) (fun n => iter (b_53_0 N) n) (fun _ => rfl) (fun n p => b_ok_53_0 N (iter (b_53_0 N) n) p) (loopsAll (by kernel_rfl) (lookOk_nil)) N
noncomputable def lp_53 (N : Nat) : Nat → Option LSum := lookL [(0, L_53_0 N)]
noncomputable def f_53 (N : Nat) (x1 : ByteArray) (x2 : Int) (x3 : List (Int × Int × ByteArray)) (x4 : ByteArray) (x5 : Int) (x6 : List (Int × Int × ByteArray)) : Option (TAs [.one (.d (.bool))]) :=
  (bif (!((ByteArray.toList x1) == (ByteArray.toList x4))) then (some false) else (bif (x2 != x5) then (some false) else (bif ((List.length x3 : Int) != (List.length x6 : Int)) then (some false) else ((l_53_0 N ((), (), 0, (x1, x2, x3), (x4, x5, x6))).bind fun q => (match q with | .inl q14 => (some q14) | .inr _ => (some true))))))
theorem ok_53 (N : Nat) (x1 : ByteArray) (x2 : Int) (x3 : List (Int × Int × ByteArray)) (x4 : ByteArray) (x5 : Int) (x6 : List (Int × Int × ByteArray)) : f_53 N x1 x2 x3 x4 x5 x6 = exec (X_53 N) Go.Proofs.Tryz.f53.ntmps (lp_53 N) c_53 0 (fnK (X_53 N) Go.Proofs.Tryz.f53.results.toList 0 [.one (.d (.bool))]) (fnSt 2 0 [.agg [.d (.str), .d (.int .i64), .d (.sl [.int .i64, .int .i64, .str])], .agg [.d (.str), .d (.int .i64), .d (.sl [.int .i64, .int .i64, .str])]] ((x1, x2, x3), (x4, x5, x6))) := by kernel_rfl
noncomputable def S_53 (N : Nat) : Sum := fnSum 2 0 1 [.agg [.d (.str), .d (.int .i64), .d (.sl [.int .i64, .int .i64, .str])], .agg [.d (.str), .d (.int .i64), .d (.sl [.int .i64, .int .i64, .str])]] [.one (.d (.bool))] (fun p => f_53 N p.1.1 p.1.2.1 p.1.2.2 p.2.1 p.2.2.1 p.2.2.2)
theorem s_53 (N : Nat) : SumOk Go.Proofs.Tryz.prog laidL 53 (S_53 N) :=
  fn_ok (lp := lp_53 N) (x_53 N) Go.Proofs.Tryz.func53 (c := c_53) (by kernel_rfl) (by kernel_rfl) rfl (fun p => ok_53 N p.1.1 p.1.2.1 p.1.2.2 p.2.1 p.2.2.1 p.2.2.2) (loopsAll (by kernel_rfl) ((lookOk_cons (L_ok_53_0 N) lookOk_nil)))
noncomputable def X_54 (_ : Nat) : Ctx := ⟨tyT, lookF [], eqT, fun _ => false⟩
noncomputable def c_54 : Code := bodyOf Go.Proofs.Tryz.f54
theorem x_54 (N : Nat) : CtxOk Go.Proofs.Tryz.prog laidL (X_54 N) := ⟨tyOk, eqOk, fun _ _ => fnsOk_nil.get, by kernel_rfl⟩
noncomputable def lp_54 (_ : Nat) : Nat → Option LSum := lookL []
noncomputable def f_54 (_ : Nat) (x1 : Int) (x2 : Int) (x3 : Int) : Option (TAs [.one (.d (.err 88))]) :=
  (bif (decide (x2 < 0)) then (some (some 1)) else (bif (decide (x2 > 43200)) then (some (some 1)) else (bif (decide (x3 < 0)) then (some (some 1)) else (bif (decide (x3 > 43200)) then (some (some 1)) else (bif (x1 == 0) then (bif ((IntKind.i64.wrap (x2 + x3)) == 0) then (some none) else (some (some 1))) else (bif (x1 == 1) then (bif (decide ((IntKind.i64.wrap (x2 + x3)) > 0)) then (some none) else (some (some 1))) else (bif (x1 == 2) then (bif (decide ((IntKind.i64.wrap (x2 + x3)) ≥ 3600)) then (some none) else (some (some 1))) else (some (some 1)))))))))
theorem ok_54 (N : Nat) (x1 : Int) (x2 : Int) (x3 : Int) : f_54 N x1 x2 x3 = exec (X_54 N) Go.Proofs.Tryz.f54.ntmps (lp_54 N) c_54 0 (fnK (X_54 N) Go.Proofs.Tryz.f54.results.toList 0 [.one (.d (.err 88))]) (fnSt 1 0 [.agg [.d (.int .i64), .d (.int .i64), .d (.int .i64)]] (x1, x2, x3)) := by kernel_rfl
noncomputable def S_54 (N : Nat) : Sum := fnSum 1 0 1 [.agg [.d (.int .i64), .d (.int .i64), .d (.int .i64)]] [.one (.d (.err 88))] (fun p => f_54 N p.1 p.2.1 p.2.2)
theorem s_54 (N : Nat) : SumOk Go.Proofs.Tryz.prog laidL 54 (S_54 N) :=
  fn_ok (lp := lp_54 N) (x_54 N) Go.Proofs.Tryz.func54 (c := c_54) (by kernel_rfl) (by kernel_rfl) rfl (fun p => ok_54 N p.1 p.2.1 p.2.2) (loopsAll (by kernel_rfl) (lookOk_nil))
noncomputable def X_55 (_ : Nat) : Ctx := ⟨tyT, lookF [], eqT, fun _ => false⟩
noncomputable def c_55 : Code := bodyOf Go.Proofs.Tryz.f55
theorem x_55 (N : Nat) : CtxOk Go.Proofs.Tryz.prog laidL (X_55 N) := ⟨tyOk, eqOk, fun _ _ => fnsOk_nil.get, by kernel_rfl⟩
noncomputable def lp_55 (_ : Nat) : Nat → Option LSum := lookL []
noncomputable def f_55 (_ : Nat) (x1 : Int) : Option (TAs [.one (.d (.err 88))]) :=
  (bif (decide (x1 < 1)) then (some (some 1)) else (bif (decide (x1 > 68719476736)) then (some (some 1)) else (some none)))
theorem ok_55 (N : Nat) (x1 : Int) : f_55 N x1 = exec (X_55 N) Go.Proofs.Tryz.f55.ntmps (lp_55 N) c_55 0 (fnK (X_55 N) Go.Proofs.Tryz.f55.results.toList 0 [.one (.d (.err 88))]) (fnSt 1 0 [.one (.d (.int .i64))] x1) := by kernel_rfl
noncomputable def S_55 (N : Nat) : Sum := fnSum 1 0 1 [.one (.d (.int .i64))] [.one (.d (.err 88))] (fun p => f_55 N p)
theorem s_55 (N : Nat) : SumOk Go.Proofs.Tryz.prog laidL 55 (S_55 N) :=
  fn_ok (lp := lp_55 N) (x_55 N) Go.Proofs.Tryz.func55 (c := c_55) (by kernel_rfl) (by kernel_rfl) rfl (fun p => ok_55 N p) (loopsAll (by kernel_rfl) (lookOk_nil))
noncomputable def X_56 (_ : Nat) : Ctx := ⟨tyT, lookF [], eqT, fun _ => false⟩
noncomputable def c_56 : Code := bodyOf Go.Proofs.Tryz.f56
theorem x_56 (N : Nat) : CtxOk Go.Proofs.Tryz.prog laidL (X_56 N) := ⟨tyOk, eqOk, fun _ _ => fnsOk_nil.get, by kernel_rfl⟩
noncomputable def lp_56 (_ : Nat) : Nat → Option LSum := lookL []
noncomputable def f_56 (_ : Nat) (x1 : Int) (x2 : Int) : Option (TAs [.one (.d (.err 88))]) :=
  (bif (decide (x1 < 0)) then (some (some 1)) else (bif (decide (x1 > 1099511627776)) then (some (some 1)) else (bif (decide (x2 < 1)) then (some (some 1)) else (bif (decide (x2 > 1125899906842624)) then (some (some 1)) else (some none)))))
theorem ok_56 (N : Nat) (x1 : Int) (x2 : Int) : f_56 N x1 x2 = exec (X_56 N) Go.Proofs.Tryz.f56.ntmps (lp_56 N) c_56 0 (fnK (X_56 N) Go.Proofs.Tryz.f56.results.toList 0 [.one (.d (.err 88))]) (fnSt 1 0 [.agg [.d (.int .i64), .d (.int .i64)]] (x1, x2)) := by kernel_rfl
noncomputable def S_56 (N : Nat) : Sum := fnSum 1 0 1 [.agg [.d (.int .i64), .d (.int .i64)]] [.one (.d (.err 88))] (fun p => f_56 N p.1 p.2)
theorem s_56 (N : Nat) : SumOk Go.Proofs.Tryz.prog laidL 56 (S_56 N) :=
  fn_ok (lp := lp_56 N) (x_56 N) Go.Proofs.Tryz.func56 (c := c_56) (by kernel_rfl) (by kernel_rfl) rfl (fun p => ok_56 N p.1 p.2) (loopsAll (by kernel_rfl) (lookOk_nil))
noncomputable def X_57 (_ : Nat) : Ctx := ⟨tyT, lookF [], eqT, fun _ => false⟩
noncomputable def c_57 : Code := bodyOf Go.Proofs.Tryz.f57
theorem x_57 (N : Nat) : CtxOk Go.Proofs.Tryz.prog laidL (X_57 N) := ⟨tyOk, eqOk, fun _ _ => fnsOk_nil.get, by kernel_rfl⟩
noncomputable def lp_57 (_ : Nat) : Nat → Option LSum := lookL []
noncomputable def f_57 (_ : Nat) (x1 : Int) (x2 : Int) (x3 : Int) : Option (TAs [.one (.d (.bool))]) :=
  (bif (decide (x2 < 0)) then (some false) else (bif (decide (x2 > 43200)) then (some false) else (bif (decide (x3 < 0)) then (some false) else (bif (decide (x3 > 43200)) then (some false) else (bif (x1 == 0) then (bif ((IntKind.i64.wrap (x2 + x3)) == 0) then (some true) else (bif (x1 == 1) then (bif (decide ((IntKind.i64.wrap (x2 + x3)) ≥ 1)) then (some true) else (bif (x1 == 2) then (some (decide ((IntKind.i64.wrap (x2 + x3)) ≥ 3600))) else (some false))) else (bif (x1 == 2) then (some (decide ((IntKind.i64.wrap (x2 + x3)) ≥ 3600))) else (some false)))) else (bif (x1 == 1) then (bif (decide ((IntKind.i64.wrap (x2 + x3)) ≥ 1)) then (some true) else (bif (x1 == 2) then (some (decide ((IntKind.i64.wrap (x2 + x3)) ≥ 3600))) else (some false))) else (bif (x1 == 2) then (some (decide ((IntKind.i64.wrap (x2 + x3)) ≥ 3600))) else (some false))))))))
theorem ok_57 (N : Nat) (x1 : Int) (x2 : Int) (x3 : Int) : f_57 N x1 x2 x3 = exec (X_57 N) Go.Proofs.Tryz.f57.ntmps (lp_57 N) c_57 0 (fnK (X_57 N) Go.Proofs.Tryz.f57.results.toList 0 [.one (.d (.bool))]) (fnSt 1 0 [.agg [.d (.int .i64), .d (.int .i64), .d (.int .i64)]] (x1, x2, x3)) := by kernel_rfl
noncomputable def S_57 (N : Nat) : Sum := fnSum 1 0 1 [.agg [.d (.int .i64), .d (.int .i64), .d (.int .i64)]] [.one (.d (.bool))] (fun p => f_57 N p.1 p.2.1 p.2.2)
theorem s_57 (N : Nat) : SumOk Go.Proofs.Tryz.prog laidL 57 (S_57 N) :=
  fn_ok (lp := lp_57 N) (x_57 N) Go.Proofs.Tryz.func57 (c := c_57) (by kernel_rfl) (by kernel_rfl) rfl (fun p => ok_57 N p.1 p.2.1 p.2.2) (loopsAll (by kernel_rfl) (lookOk_nil))
noncomputable def X_58 (_ : Nat) : Ctx := ⟨tyT, lookF [], eqT, fun _ => false⟩
noncomputable def c_58 : Code := bodyOf Go.Proofs.Tryz.f58
theorem x_58 (N : Nat) : CtxOk Go.Proofs.Tryz.prog laidL (X_58 N) := ⟨tyOk, eqOk, fun _ _ => fnsOk_nil.get, by kernel_rfl⟩
noncomputable def lp_58 (_ : Nat) : Nat → Option LSum := lookL []
noncomputable def f_58 (_ : Nat) (x1 : Int) : Option (TAs [.one (.d (.bool))]) :=
  (bif (decide (x1 ≥ 1)) then (some (decide (x1 ≤ 68719476736))) else (some false))
theorem ok_58 (N : Nat) (x1 : Int) : f_58 N x1 = exec (X_58 N) Go.Proofs.Tryz.f58.ntmps (lp_58 N) c_58 0 (fnK (X_58 N) Go.Proofs.Tryz.f58.results.toList 0 [.one (.d (.bool))]) (fnSt 1 0 [.one (.d (.int .i64))] x1) := by kernel_rfl
noncomputable def S_58 (N : Nat) : Sum := fnSum 1 0 1 [.one (.d (.int .i64))] [.one (.d (.bool))] (fun p => f_58 N p)
theorem s_58 (N : Nat) : SumOk Go.Proofs.Tryz.prog laidL 58 (S_58 N) :=
  fn_ok (lp := lp_58 N) (x_58 N) Go.Proofs.Tryz.func58 (c := c_58) (by kernel_rfl) (by kernel_rfl) rfl (fun p => ok_58 N p) (loopsAll (by kernel_rfl) (lookOk_nil))
noncomputable def X_59 (_ : Nat) : Ctx := ⟨tyT, lookF [], eqT, fun _ => false⟩
noncomputable def c_59 : Code := bodyOf Go.Proofs.Tryz.f59
theorem x_59 (N : Nat) : CtxOk Go.Proofs.Tryz.prog laidL (X_59 N) := ⟨tyOk, eqOk, fun _ _ => fnsOk_nil.get, by kernel_rfl⟩
noncomputable def lp_59 (_ : Nat) : Nat → Option LSum := lookL []
noncomputable def f_59 (_ : Nat) (x1 : Int) (x2 : Int) : Option (TAs [.one (.d (.bool))]) :=
  (bif (decide (x1 ≥ 0)) then (bif (decide (x1 ≤ 1099511627776)) then (bif (decide (x2 ≥ 1)) then (some (decide (x2 ≤ 1125899906842624))) else (some false)) else (some false)) else (some false))
theorem ok_59 (N : Nat) (x1 : Int) (x2 : Int) : f_59 N x1 x2 = exec (X_59 N) Go.Proofs.Tryz.f59.ntmps (lp_59 N) c_59 0 (fnK (X_59 N) Go.Proofs.Tryz.f59.results.toList 0 [.one (.d (.bool))]) (fnSt 1 0 [.agg [.d (.int .i64), .d (.int .i64)]] (x1, x2)) := by kernel_rfl
noncomputable def S_59 (N : Nat) : Sum := fnSum 1 0 1 [.agg [.d (.int .i64), .d (.int .i64)]] [.one (.d (.bool))] (fun p => f_59 N p.1 p.2)
theorem s_59 (N : Nat) : SumOk Go.Proofs.Tryz.prog laidL 59 (S_59 N) :=
  fn_ok (lp := lp_59 N) (x_59 N) Go.Proofs.Tryz.func59 (c := c_59) (by kernel_rfl) (by kernel_rfl) rfl (fun p => ok_59 N p.1 p.2) (loopsAll (by kernel_rfl) (lookOk_nil))
noncomputable def X_60 (_ : Nat) : Ctx := ⟨tyT, lookF [], eqT, fun _ => false⟩
noncomputable def c_60 : Code := bodyOf Go.Proofs.Tryz.f60
theorem x_60 (N : Nat) : CtxOk Go.Proofs.Tryz.prog laidL (X_60 N) := ⟨tyOk, eqOk, fun _ _ => fnsOk_nil.get, by kernel_rfl⟩
noncomputable def nd_60_0 : Code := loopAt 0 0 c_60
noncomputable def cb_60_0 : Code := unloop nd_60_0
theorem ne_60_0 : nd_60_0 = .loop cb_60_0 := by kernel_rfl
noncomputable def sh_60_0 : List ShA := [.one (.d (.sl [.int .i64, .int .i64, .str])), .one (.d (.sl [.int .i64, .int .i64, .str])), .one (.d (.int .i64)), .one (.d (.int .i64))]
noncomputable def o_60_0 : OutK 0 (((TAs [.one (.d (.bool))]) ⊕ (TAs []))) := (outTwo (outOne 0 .ret [4] [] [.one (.d (.bool))]) (outOne 0 (.exit 0) [] [] []))
noncomputable def b_60_0 (_ : Nat) (ih : TAs sh_60_0 → Option (((TAs [.one (.d (.bool))]) ⊕ (TAs [])))) : TAs sh_60_0 → Option (((TAs [.one (.d (.bool))]) ⊕ (TAs []))) := fun (y3, y4, y5, y6) =>
  (bif (decide (y6 < y5)) then (bif (decide (0 ≤ y6 ∧ y6 < (List.length y3 : Int))) then (bif (decide (0 ≤ y6 ∧ y6 < (List.length y4 : Int))) then (bif (!(((List.getD y3 (Int.toNat y6) (0, 0, ByteArray.empty)).1 == (List.getD y4 (Int.toNat y6) (0, 0, ByteArray.empty)).1) && (((List.getD y3 (Int.toNat y6) (0, 0, ByteArray.empty)).2.1 == (List.getD y4 (Int.toNat y6) (0, 0, ByteArray.empty)).2.1) && ((List.getD y3 (Int.toNat y6) (0, 0, ByteArray.empty)).2.2.toList == (List.getD y4 (Int.toNat y6) (0, 0, ByteArray.empty)).2.2.toList)))) then (some (.inl false)) else (ih (y3, y4, y5, (IntKind.i64.wrap (y6 + 1))))) else none) else none) else (some (.inr ())))
noncomputable def l_60_0 (N : Nat) : TAs sh_60_0 → Option (((TAs [.one (.d (.bool))]) ⊕ (TAs []))) := iter (b_60_0 N) N
noncomputable def lp_60_0 (_ : Nat) : Nat → Option LSum := lookL []
noncomputable def L_60_0 (N : Nat) : LSum := loopSum [0, 1, 12, 13] [] sh_60_0 o_60_0 (l_60_0 N)
theorem b_ok_60_0 (N : Nat) (ih : TAs sh_60_0 → Option (((TAs [.one (.d (.bool))]) ⊕ (TAs [])))) (p : TAs sh_60_0) : b_60_0 N ih p = exec (X_60 N) Go.Proofs.Tryz.f60.ntmps (lp_60_0 N) cb_60_0 0 (roundK [0, 1, 12, 13] [] sh_60_0 o_60_0 ih) (stOf [0, 1, 12, 13] [] sh_60_0 p) := by kernel_rfl
theorem L_ok_60_0 (N : Nat) : SegOk Go.Proofs.Tryz.prog laidL 0 Go.Proofs.Tryz.f60.ntmps nd_60_0 (L_60_0 N) :=
  ne_60_0 ▸ loop_ok (cur := 0) (lp := lp_60_0 N) (x_60 N) (fun n => iter (b_60_0 N) n) (fun _ => rfl) (fun n p => b_ok_60_0 N (iter (b_60_0 N) n) p) (loopsAll (by kernel_rfl) (lookOk_nil)) N
noncomputable def lp_60 (N : Nat) : Nat → Option LSum := lookL [(0, L_60_0 N)]
noncomputable def f_60 (N : Nat) (x1 : List (Int × Int × ByteArray)) (x2 : List (Int × Int × ByteArray)) : Option (TAs [.one (.d (.bool))]) :=
  (bif ((List.length x1 : Int) != (List.length x2 : Int)) then (some false) else ((l_60_0 N (x1, x2, (List.length x1 : Int), 0)).bind fun q => (match q with | .inl q7 => (some q7) | .inr _ => (some true))))
theorem ok_60 (N : Nat) (x1 : List (Int × Int × ByteArray)) (x2 : List (Int × Int × ByteArray)) : f_60 N x1 x2 = exec (X_60 N) Go.Proofs.Tryz.f60.ntmps (lp_60 N) c_60 0 (fnK (X_60 N) Go.Proofs.Tryz.f60.results.toList 0 [.one (.d (.bool))]) (fnSt 2 0 [.one (.d (.sl [.int .i64, .int .i64, .str])), .one (.d (.sl [.int .i64, .int .i64, .str]))] (x1, x2)) := by kernel_rfl
noncomputable def S_60 (N : Nat) : Sum := fnSum 2 0 1 [.one (.d (.sl [.int .i64, .int .i64, .str])), .one (.d (.sl [.int .i64, .int .i64, .str]))] [.one (.d (.bool))] (fun p => f_60 N p.1 p.2)
theorem s_60 (N : Nat) : SumOk Go.Proofs.Tryz.prog laidL 60 (S_60 N) :=
  fn_ok (lp := lp_60 N) (x_60 N) Go.Proofs.Tryz.func60 (c := c_60) (by kernel_rfl) (by kernel_rfl) rfl (fun p => ok_60 N p.1 p.2) (loopsAll (by kernel_rfl) ((lookOk_cons (L_ok_60_0 N) lookOk_nil)))
noncomputable def X_62 (_ : Nat) : Ctx := ⟨tyT, lookF [(85, trimS)], eqT, fun _ => false⟩
noncomputable def c_62 : Code := bodyOf Go.Proofs.Tryz.f62
theorem x_62 (N : Nat) : CtxOk Go.Proofs.Tryz.prog laidL (X_62 N) := ⟨tyOk, eqOk, fun _ _ => (fnsOk_cons trimS_ok fnsOk_nil).get, by kernel_rfl⟩
noncomputable def lp_62 (_ : Nat) : Nat → Option LSum := lookL []
noncomputable def f_62 (_ : Nat) (x1 : ByteArray) : Option (TAs [.one (.d (.bool))]) :=
  (bif (!((ByteArray.toList x1) == (ByteArray.toList (⟨#[]⟩ : ByteArray)))) then (bif (decide ((ByteArray.size x1 : Int) ≤ 12)) then ((trimF x1 (⟨#[65, 66, 67, 68, 69, 70, 71, 72, 73, 74, 75, 76, 77, 78, 79, 80, 81, 82, 83, 84, 85, 86, 87, 88, 89, 90, 97, 98, 99, 100, 101, 102, 103, 104, 105, 106, 107, 108, 109, 110, 111, 112, 113, 114, 115, 116, 117, 118, 119, 120, 121, 122, 48, 49, 50, 51, 52, 53, 54, 55, 56, 57, 47, 95, 43, 45]⟩)).bind fun r2 => (some ((ByteArray.toList r2) == (ByteArray.toList (⟨#[]⟩ : ByteArray))))) else (some false)) else (some false))
theorem ok_62 (N : Nat) (x1 : ByteArray) : f_62 N x1 = exec (X_62 N) Go.Proofs.Tryz.f62.ntmps (lp_62 N) c_62 0 (fnK (X_62 N) Go.Proofs.Tryz.f62.results.toList 0 [.one (.d (.bool))]) (fnSt 1 0 [.one (.d (.str))] x1) := by kernel_rfl
noncomputable def S_62 (N : Nat) : Sum := fnSum 1 0 1 [.one (.d (.str))] [.one (.d (.bool))] (fun p => f_62 N p)
theorem s_62 (N : Nat) : SumOk Go.Proofs.Tryz.prog laidL 62 (S_62 N) :=
  fn_ok (lp := lp_62 N) (x_62 N) Go.Proofs.Tryz.func62 (c := c_62) (by kernel_rfl) (by kernel_rfl) rfl (fun p => ok_62 N p) (loopsAll (by kernel_rfl) (lookOk_nil))
noncomputable def X_63 (_ : Nat) : Ctx := ⟨tyT, lookF [], eqT, fun _ => false⟩
noncomputable def c_63 : Code := bodyOf Go.Proofs.Tryz.f63
theorem x_63 (N : Nat) : CtxOk Go.Proofs.Tryz.prog laidL (X_63 N) := ⟨tyOk, eqOk, fun _ _ => fnsOk_nil.get, by kernel_rfl⟩
noncomputable def lp_63 (_ : Nat) : Nat → Option LSum := lookL []
noncomputable def f_63 (_ : Nat) (x1 : Int) : Option (TAs [.one (.d (.bool))]) :=
  (bif (decide (x1 ≥ (-86399))) then (some (decide (x1 ≤ 86399))) else (some false))
theorem ok_63 (N : Nat) (x1 : Int) : f_63 N x1 = exec (X_63 N) Go.Proofs.Tryz.f63.ntmps (lp_63 N) c_63 0 (fnK (X_63 N) Go.Proofs.Tryz.f63.results.toList 0 [.one (.d (.bool))]) (fnSt 1 0 [.one (.d (.int .i64))] x1) := by kernel_rfl
noncomputable def S_63 (N : Nat) : Sum := fnSum 1 0 1 [.one (.d (.int .i64))] [.one (.d (.bool))] (fun p => f_63 N p)
theorem s_63 (N : Nat) : SumOk Go.Proofs.Tryz.prog laidL 63 (S_63 N) :=
  fn_ok (lp := lp_63 N) (x_63 N) Go.Proofs.Tryz.func63 (c := c_63) (by kernel_rfl) (by kernel_rfl) rfl (fun p => ok_63 N p) (loopsAll (by kernel_rfl) (lookOk_nil))
noncomputable def X_65 (_ : Nat) : Ctx := ⟨tyT, lookF [], eqT, fun _ => false⟩
noncomputable def c_65 : Code := bodyOf Go.Proofs.Tryz.f65
theorem x_65 (N : Nat) : CtxOk Go.Proofs.Tryz.prog laidL (X_65 N) := ⟨tyOk, eqOk, fun _ _ => fnsOk_nil.get, by kernel_rfl⟩
noncomputable def lp_65 (_ : Nat) : Nat → Option LSum := lookL []
noncomputable def f_65 (_ : Nat) (x1 : Int) : Option (TAs [.one (.d (.bool))]) :=
  (bif (decide (x1 ≥ 1)) then (some (decide (x1 ≤ 6))) else (some false))
theorem ok_65 (N : Nat) (x1 : Int) : f_65 N x1 = exec (X_65 N) Go.Proofs.Tryz.f65.ntmps (lp_65 N) c_65 0 (fnK (X_65 N) Go.Proofs.Tryz.f65.results.toList 0 [.one (.d (.bool))]) (fnSt 1 0 [.one (.d (.int .u8))] x1) := by kernel_rfl
noncomputable def S_65 (N : Nat) : Sum := fnSum 1 0 1 [.one (.d (.int .u8))] [.one (.d (.bool))] (fun p => f_65 N p)
theorem s_65 (N : Nat) : SumOk Go.Proofs.Tryz.prog laidL 65 (S_65 N) :=
  fn_ok (lp := lp_65 N) (x_65 N) Go.Proofs.Tryz.func65 (c := c_65) (by kernel_rfl) (by kernel_rfl) rfl (fun p => ok_65 N p) (loopsAll (by kernel_rfl) (lookOk_nil))
noncomputable def X_67 (_ : Nat) : Ctx := ⟨tyT, lookF [(87, growBs)], eqT, fun _ => false⟩
noncomputable def c_67 : Code := bodyOf Go.Proofs.Tryz.f67
theorem x_67 (N : Nat) : CtxOk Go.Proofs.Tryz.prog laidL (X_67 N) := ⟨tyOk, eqOk, fun _ _ => (fnsOk_cons growBs_ok fnsOk_nil).get, by kernel_rfl⟩
noncomputable def nd_67_0 : Code := loopAt 0 0 c_67
noncomputable def cb_67_0 : Code := unloop nd_67_0
theorem ne_67_0 : nd_67_0 = .loop cb_67_0 := by kernel_rfl
noncomputable def nd_67_2 : Code := loopAt 0 2 c_67
noncomputable def cb_67_2 : Code := unloop nd_67_2
theorem ne_67_2 : nd_67_2 = .loop cb_67_2 := by kernel_rfl
noncomputable def sh_67_0 : List ShA := [.one (.d (.sl [.sl [.int .u8]])), .one (.d (.int .i64)), .one (.d (.sl [.sl [.int .u8]])), .one (.d (.int .i64)), .one (.d (.int .i64))]
noncomputable def o_67_0 : OutK 0 (TAs [.one (.d (.sl [.sl [.int .u8]])), .one (.d (.int .i64))]) := (outOne 0 (.exit 0) [0, 3] [] [.one (.d (.sl [.sl [.int .u8]])), .one (.d (.int .i64))])
noncomputable def b_67_0 (_ : Nat) (ih : TAs sh_67_0 → Option (TAs [.one (.d (.sl [.sl [.int .u8]])), .one (.d (.int .i64))])) : TAs sh_67_0 → Option (TAs [.one (.d (.sl [.sl [.int .u8]])), .one (.d (.int .i64))]) := fun (y2, y3, y4, y5, y6) =>
  (bif (decide (y6 < y5)) then (bif (decide (0 ≤ y6 ∧ y6 < (List.length y4 : Int))) then (bif (decide ((IntKind.i64.wrap (y3 + (List.length (List.getD y4 (Int.toNat y6) []) : Int))) < 0)) then none else (ih (y2, (IntKind.i64.wrap (y3 + (List.length (List.getD y4 (Int.toNat y6) []) : Int))), y4, y5, (IntKind.i64.wrap (y6 + 1))))) else none) else (some ((y2, y3))))
noncomputable def l_67_0 (N : Nat) : TAs sh_67_0 → Option (TAs [.one (.d (.sl [.sl [.int .u8]])), .one (.d (.int .i64))]) := iter (b_67_0 N) N
noncomputable def lp_67_0 (_ : Nat) : Nat → Option LSum := lookL []
noncomputable def L_67_0 (N : Nat) : LSum := loopSum [0, 3, 9, 10, 11] [] sh_67_0 o_67_0 (l_67_0 N)
theorem b_ok_67_0 (N : Nat) (ih : TAs sh_67_0 → Option (TAs [.one (.d (.sl [.sl [.int .u8]])), .one (.d (.int .i64))])) (p : TAs sh_67_0) : b_67_0 N ih p = exec (X_67 N) Go.Proofs.Tryz.f67.ntmps (lp_67_0 N) cb_67_0 0 (roundK [0, 3, 9, 10, 11] [] sh_67_0 o_67_0 ih) (stOf [0, 3, 9, 10, 11] [] sh_67_0 p) := by kernel_rfl
theorem L_ok_67_0 (N : Nat) : SegOk Go.Proofs.Tryz.prog laidL 0 Go.Proofs.Tryz.f67.ntmps nd_67_0 (L_67_0 N) :=
  ne_67_0 ▸ loop_ok (cur := 0) (lp := lp_67_0 N) (x_67 N) (fun n => iter (b_67_0 N) n) (fun _ => rfl) (fun n p => b_ok_67_0 N (iter (b_67_0 N) n) p) (loopsAll (by kernel_rfl) (lookOk_nil)) N
noncomputable def sh_67_2 : List ShA := [.one (.slt [.int .u8] 5 1), .one (.d (.sl [.sl [.int .u8]])), .one (.d (.int .i64)), .one (.d (.int .i64))]
noncomputable def o_67_2 : OutK 0 (TAs [.one (.slt [.int .u8] 5 1)]) := (outOne 0 (.exit 2) [6] [] [.one (.slt [.int .u8] 5 1)])
noncomputable def b_67_2 (_ : Nat) (ih : TAs sh_67_2 → Option (TAs [.one (.slt [.int .u8] 5 1)])) : TAs sh_67_2 → Option (TAs [.one (.slt [.int .u8] 5 1)]) := fun (y9, y10, y11, y12) =>
  (bif (decide (y12 < y11)) then (bif (decide (0 ≤ y12 ∧ y12 < (List.length y10 : Int))) then (bif (decide ((List.length y9 + List.length (List.getD y10 (Int.toNat y12) [])) * 1 ≤ 140737488355328)) then (ih ((y9 ++ (List.getD y10 (Int.toNat y12) [])), y10, y11, (IntKind.i64.wrap (y12 + 1)))) else none) else none) else (some (y9)))
noncomputable def l_67_2 (N : Nat) : TAs sh_67_2 → Option (TAs [.one (.slt [.int .u8] 5 1)]) := iter (b_67_2 N) N
noncomputable def lp_67_2 (_ : Nat) : Nat → Option LSum := lookL []
noncomputable def L_67_2 (N : Nat) : LSum := loopSum [6, 25, 26, 27] [] sh_67_2 o_67_2 (l_67_2 N)
theorem b_ok_67_2 (N : Nat) (ih : TAs sh_67_2 → Option (TAs [.one (.slt [.int .u8] 5 1)])) (p : TAs sh_67_2) : b_67_2 N ih p = exec (X_67 N) Go.Proofs.Tryz.f67.ntmps (lp_67_2 N) cb_67_2 2 (roundK [6, 25, 26, 27] [] sh_67_2 o_67_2 ih) (stOf [6, 25, 26, 27] [] sh_67_2 p) := by kernel_rfl
theorem L_ok_67_2 (N : Nat) : SegOk Go.Proofs.Tryz.prog laidL 0 Go.Proofs.Tryz.f67.ntmps nd_67_2 (L_67_2 N) :=
  ne_67_2 ▸ loop_ok (cur := 2) (lp := lp_67_2 N) (x_67 N) (fun n => iter (b_67_2 N) n) (fun _ => rfl) (fun n p => b_ok_67_2 N (iter (b_67_2 N) n) p) (loopsAll (by kernel_rfl) (lookOk_nil)) N
noncomputable def lp_67 (N : Nat) : Nat → Option LSum := lookL [(0, L_67_0 N), (2, L_67_2 N)]
noncomputable def f_67 (N : Nat) (x1 : List ((List Int))) : Option (TAs [.one (.slt [.int .u8] 5 1)]) :=
  ((l_67_0 N (x1, 0, x1, (List.length x1 : Int), 0)).bind fun q7 => ((growF 1 q7.2).bind fun _ => ((l_67_2 N (([] : List Int), q7.1, (List.length q7.1 : Int), 0)).bind fun q13 => (some q13))))
theorem ok_67 (N : Nat) (x1 : List ((List Int))) : f_67 N x1 = exec (X_67 N) Go.Proofs.Tryz.f67.ntmps (lp_67 N) c_67 0 (fnK (X_67 N) Go.Proofs.Tryz.f67.results.toList 0 [.one (.slt [.int .u8] 5 1)]) (fnSt 1 0 [.one (.d (.sl [.sl [.int .u8]]))] x1) := by kernel_rfl
noncomputable def S_67 (N : Nat) : Sum := fnSum 1 0 1 [.one (.d (.sl [.sl [.int .u8]]))] [.one (.slt [.int .u8] 5 1)] (fun p => f_67 N p)
theorem s_67 (N : Nat) : SumOk Go.Proofs.Tryz.prog laidL 67 (S_67 N) :=
  fn_ok (lp := lp_67 N) (x_67 N) Go.Proofs.Tryz.func67 (c := c_67) (by kernel_rfl) (by kernel_rfl) rfl (fun p => ok_67 N p) (loopsAll (by kernel_rfl) ((lookOk_cons (L_ok_67_0 N) (lookOk_cons (L_ok_67_2 N) lookOk_nil))))
noncomputable def X_68 (_ : Nat) : Ctx := ⟨tyT, lookF [], eqT, fun _ => false⟩
noncomputable def c_68 : Code := bodyOf Go.Proofs.Tryz.f68
theorem x_68 (N : Nat) : CtxOk Go.Proofs.Tryz.prog laidL (X_68 N) := ⟨tyOk, eqOk, fun _ _ => fnsOk_nil.get, by kernel_rfl⟩
noncomputable def nd_68_0 : Code := loopAt 0 0 c_68
noncomputable def cb_68_0 : Code := unloop nd_68_0
theorem ne_68_0 : nd_68_0 = .loop cb_68_0 := by kernel_rfl
noncomputable def sh_68_0 : List ShA := [.one (.d (.str)), .one (.d (.int .i64))]
noncomputable def o_68_0 : OutK 0 (((TAs [.one (.d (.bool))]) ⊕ (TAs [.one (.d (.str))]))) := (outTwo (outOne 0 .ret [2] [] [.one (.d (.bool))]) (outOne 0 (.exit 0) [0] [] [.one (.d (.str))]))
noncomputable def b_68_0 (_ : Nat) (ih : TAs sh_68_0 → Option (((TAs [.one (.d (.bool))]) ⊕ (TAs [.one (.d (.str))])))) : TAs sh_68_0 → Option (((TAs [.one (.d (.bool))]) ⊕ (TAs [.one (.d (.str))]))) := fun (y2, y3) =>
  (bif (decide (y3 < (ByteArray.size y2 : Int))) then (bif (decide (0 ≤ y3 ∧ y3 < (ByteArray.size y2 : Int))) then (bif (decide ((byteAt y2 (Int.toNat y3)) ≥ 97)) then (bif (decide ((byteAt y2 (Int.toNat y3)) ≤ 122)) then (ih (y2, (IntKind.i64.wrap (y3 + 1)))) else (bif (decide ((byteAt y2 (Int.toNat y3)) ≥ 65)) then (bif (decide ((byteAt y2 (Int.toNat y3)) ≤ 90)) then (ih (y2, (IntKind.i64.wrap (y3 + 1)))) else (bif (decide ((byteAt y2 (Int.toNat y3)) ≥ 48)) then (bif (decide ((byteAt y2 (Int.toNat y3)) ≤ 57)) then (ih (y2, (IntKind.i64.wrap (y3 + 1)))) else (bif ((byteAt y2 (Int.toNat y3)) == 47) then (ih (y2, (IntKind.i64.wrap (y3 + 1)))) else (bif ((byteAt y2 (Int.toNat y3)) == 95) then (ih (y2, (IntKind.i64.wrap (y3 + 1)))) else (bif ((byteAt y2 (Int.toNat y3)) == 43) then (ih (y2, (IntKind.i64.wrap (y3 + 1)))) else (bif (!((byteAt y2 (Int.toNat y3)) == 45)) then (some (.inl false)) else (ih (y2, (IntKind.i64.wrap (y3 + 1))))))))) else (bif ((byteAt y2 (Int.toNat y3)) == 47) then (ih (y2, (IntKind.i64.wrap (y3 + 1)))) else (bif ((byteAt y2 (Int.toNat y3)) == 95) then (ih (y2, (IntKind.i64.wrap (y3 + 1)))) else (bif ((byteAt y2 (Int.toNat y3)) == 43) then (ih (y2, (IntKind.i64.wrap (y3 + 1)))) else (bif (!((byteAt y2 (Int.toNat y3)) == 45)) then (some (.inl false)) else (ih (y2, (IntKind.i64.wrap (y3 + 1)))))))))) else (bif (decide ((byteAt y2 (Int.toNat y3)) ≥ 48)) then (bif (decide ((byteAt y2 (Int.toNat y3)) ≤ 57)) then (ih (y2, (IntKind.i64.wrap (y3 + 1)))) else (bif ((byteAt y2 (Int.toNat y3)) == 47) then (ih (y2, (IntKind.i64.wrap (y3 + 1)))) else (bif ((byteAt y2 (Int.toNat y3)) == 95) then (ih (y2, (IntKind.i64.wrap (y3 + 1)))) else (bif ((byteAt y2 (Int.toNat y3)) == 43) then (ih (y2, (IntKind.i64.wrap (y3 + 1)))) else (bif (!((byteAt y2 (Int.toNat y3)) == 45)) then (some (.inl false)) else (ih (y2, (IntKind.i64.wrap (y3 + 1))))))))) else (bif ((byteAt y2 (Int.toNat y3)) == 47) then (ih (y2, (IntKind.i64.wrap (y3 + 1)))) else (bif ((byteAt y2 (Int.toNat y3)) == 95) then (ih (y2, (IntKind.i64.wrap (y3 + 1)))) else (bif ((byteAt y2 (Int.toNat y3)) == 43) then (ih (y2, (IntKind.i64.wrap (y3 + 1)))) else (bif (!((byteAt y2 (Int.toNat y3)) == 45)) then (some (.inl false)) else (ih (y2, (IntKind.i64.wrap (y3 + 1))))))))))) else (bif (decide ((byteAt y2 (Int.toNat y3)) ≥ 65)) then (bif (decide ((byteAt y2 (Int.toNat y3)) ≤ 90)) then (ih (y2, (IntKind.i64.wrap (y3 + 1)))) else (bif (decide ((byteAt y2 (Int.toNat y3)) ≥ 48)) then (bif (decide ((byteAt y2 (Int.toNat y3)) ≤ 57)) then (ih (y2, (IntKind.i64.wrap (y3 + 1)))) else (bif ((byteAt y2 (Int.toNat y3)) == 47) then (ih (y2, (IntKind.i64.wrap (y3 + 1)))) else (bif ((byteAt y2 (Int.toNat y3)) == 95) then (ih (y2, (IntKind.i64.wrap (y3 + 1)))) else (bif ((byteAt y2 (Int.toNat y3)) == 43) then (ih (y2, (IntKind.i64.wrap (y3 + 1)))) else (bif (!((byteAt y2 (Int.toNat y3)) == 45)) then (some (.inl false)) else (ih (y2, (IntKind.i64.wrap (y3 + 1))))))))) else (bif ((byteAt y2 (Int.toNat y3)) == 47) then (ih (y2, (IntKind.i64.wrap (y3 + 1)))) else (bif ((byteAt y2 (Int.toNat y3)) == 95) then (ih (y2, (IntKind.i64.wrap (y3 + 1)))) else (bif ((byteAt y2 (Int.toNat y3)) == 43) then (ih (y2, (IntKind.i64.wrap (y3 + 1)))) else (bif (!((byteAt y2 (Int.toNat y3)) == 45)) then (some (.inl false)) else (ih (y2, (IntKind.i64.wrap (y3 + 1)))))))))) else (bif (decide ((byteAt y2 (Int.toNat y3)) ≥ 48)) then (bif (decide ((byteAt y2 (Int.toNat y3)) ≤ 57)) then (ih (y2, (IntKind.i64.wrap (y3 + 1)))) else (bif ((byteAt y2 (Int.toNat y3)) == 47) then (ih (y2, (IntKind.i64.wrap (y3 + 1)))) else (bif ((byteAt y2 (Int.toNat y3)) == 95) then (ih (y2, (IntKind.i64.wrap (y3 + 1)))) else (bif ((byteAt y2 (Int.toNat y3)) == 43) then (ih (y2, (IntKind.i64.wrap (y3 + 1)))) else (bif (!((byteAt y2 (Int.toNat y3)) == 45)) then (some (.inl false)) else (ih (y2, (IntKind.i64.wrap (y3 + 1))))))))) else (bif ((byteAt y2 (Int.toNat y3)) == 47) then (ih (y2, (IntKind.i64.wrap (y3 + 1)))) else (bif ((byteAt y2 (Int.toNat y3)) == 95) then (ih (y2, (IntKind.i64.wrap (y3 + 1)))) else (bif ((byteAt y2 (Int.toNat y3)) == 43) then (ih (y2, (IntKind.i64.wrap (y3 + 1)))) else (bif (!((byteAt y2 (Int.toNat y3)) == 45)) then (some (.inl false)) else (ih (y2, (IntKind.i64.wrap (y3 + 1))))))))))) else none) else (some (.inr y2)))
noncomputable def l_68_0 (N : Nat) : TAs sh_68_0 → Option (((TAs [.one (.d (.bool))]) ⊕ (TAs [.one (.d (.str))]))) := iter (b_68_0 N) N
noncomputable def lp_68_0 (_ : Nat) : Nat → Option LSum := lookL []
noncomputable def L_68_0 (N : Nat) : LSum := loopSum [0, 3] [] sh_68_0 o_68_0 (l_68_0 N)
theorem b_ok_68_0 (N : Nat) (ih : TAs sh_68_0 → Option (((TAs [.one (.d (.bool))]) ⊕ (TAs [.one (.d (.str))])))) (p : TAs sh_68_0) : b_68_0 N ih p = exec (X_68 N) Go.Proofs.Tryz.f68.ntmps (lp_68_0 N) cb_68_0 0 (roundK [0, 3] [] sh_68_0 o_68_0 ih) (stOf [0, 3] [] sh_68_0 p) := by kernel_rfl
theorem L_ok_68_0 (N : Nat) : SegOk Go.Proofs.Tryz.prog laidL 0 Go.Proofs.Tryz.f68.ntmps nd_68_0 (L_68_0 N) :=
  ne_68_0 ▸ loop_ok (cur := 0) (lp := lp_68_0 N) (x_68 N) (fun n => iter (b_68_0 N) n) (fun _ => rfl) (fun n p => b_ok_68_0 N (iter (b_68_0 N) n) p) (loopsAll (by kernel_rfl) (lookOk_nil)) N
noncomputable def lp_68 (N : Nat) : Nat → Option LSum := lookL [(0, L_68_0 N)]
noncomputable def f_68 (N : Nat) (x1 : ByteArray) : Option (TAs [.one (.d (.bool))]) :=
  ((l_68_0 N (x1, 0)).bind fun q => (match q with | .inl q4 => (some q4) | .inr q5 => (bif (decide ((ByteArray.size q5 : Int) ≥ 1)) then (some (decide ((ByteArray.size q5 : Int) ≤ 12))) else (some false))))
theorem ok_68 (N : Nat) (x1 : ByteArray) : f_68 N x1 = exec (X_68 N) Go.Proofs.Tryz.f68.ntmps (lp_68 N) c_68 0 (fnK (X_68 N) Go.Proofs.Tryz.f68.results.toList 0 [.one (.d (.bool))]) (fnSt 1 0 [.one (.d (.str))] x1) := by kernel_rfl
noncomputable def S_68 (N : Nat) : Sum := fnSum 1 0 1 [.one (.d (.str))] [.one (.d (.bool))] (fun p => f_68 N p)
theorem s_68 (N : Nat) : SumOk Go.Proofs.Tryz.prog laidL 68 (S_68 N) :=
  fn_ok (lp := lp_68 N) (x_68 N) Go.Proofs.Tryz.func68 (c := c_68) (by kernel_rfl) (by kernel_rfl) rfl (fun p => ok_68 N p) (loopsAll (by kernel_rfl) ((lookOk_cons (L_ok_68_0 N) lookOk_nil)))
noncomputable def X_69 (_ : Nat) : Ctx := ⟨tyT, lookF [], eqT, fun _ => false⟩
noncomputable def c_69 : Code := bodyOf Go.Proofs.Tryz.f69
theorem x_69 (N : Nat) : CtxOk Go.Proofs.Tryz.prog laidL (X_69 N) := ⟨tyOk, eqOk, fun _ _ => fnsOk_nil.get, by kernel_rfl⟩
noncomputable def lp_69 (_ : Nat) : Nat → Option LSum := lookL []
noncomputable def f_69 (_ : Nat) (x1 : Int) : Option (TAs [.one (.d (.bool))]) :=
  (bif (decide (x1 > (-86400))) then (some (decide (x1 < 86400))) else (some false))
theorem ok_69 (N : Nat) (x1 : Int) : f_69 N x1 = exec (X_69 N) Go.Proofs.Tryz.f69.ntmps (lp_69 N) c_69 0 (fnK (X_69 N) Go.Proofs.Tryz.f69.results.toList 0 [.one (.d (.bool))]) (fnSt 1 0 [.one (.d (.int .i64))] x1) := by kernel_rfl
noncomputable def S_69 (N : Nat) : Sum := fnSum 1 0 1 [.one (.d (.int .i64))] [.one (.d (.bool))] (fun p => f_69 N p)
theorem s_69 (N : Nat) : SumOk Go.Proofs.Tryz.prog laidL 69 (S_69 N) :=
  fn_ok (lp := lp_69 N) (x_69 N) Go.Proofs.Tryz.func69 (c := c_69) (by kernel_rfl) (by kernel_rfl) rfl (fun p => ok_69 N p) (loopsAll (by kernel_rfl) (lookOk_nil))
noncomputable def Xc_73 : Ctx := ⟨tyT, lookF [], eqT, fun _ => false⟩
theorem xc_73 : CtxOk Go.Proofs.Tryz.prog laidL Xc_73 := ⟨tyOk, eqOk, fun _ _ => fnsOk_nil.get, by kernel_rfl⟩
noncomputable def cl_73 : Sum := fnSum 1 0 1 [.one (.d (.sl [.int .u8]))] [.one (.slt [.int .u8] 5 1)] (cloneF [.int .u8] 1)
theorem cl_73_ok : SumOk Go.Proofs.Tryz.prog laidL 73 cl_73 :=
  clone_ok (t := 25) (bt := 4) (e := 5) xc_73 Go.Proofs.Tryz.func73 (by kernel_rfl) rfl rfl rfl (by kernel_rfl) (fun b xs h => by
    cases b with
    | false => kernel_rfl
    | true => obtain rfl := h rfl; kernel_rfl)
noncomputable def X_74 (_ : Nat) : Ctx := ⟨tyT, lookF [], eqT, fun _ => false⟩
noncomputable def c_74 : Code := bodyOf Go.Proofs.Tryz.f74
theorem x_74 (N : Nat) : CtxOk Go.Proofs.Tryz.prog laidL (X_74 N) := ⟨tyOk, eqOk, fun _ _ => fnsOk_nil.get, by kernel_rfl⟩
noncomputable def lp_74 (_ : Nat) : Nat → Option LSum := lookL []
noncomputable def f_74 (_ : Nat) (x1 : Int) (x2 : List Int) (x3 : Bool) : Option (TAs [.one (.d (.sl [.int .u8])), .agg [.d (.sl [.int .u8]), .d (.bool)]]) :=
  (bif x3 then (some (([] : List Int), (([] : List Int), true))) else (bif (decide (x1 > (List.length x2 : Int))) then (some (([] : List Int), (([] : List Int), true))) else (bif (decide (0 ≤ x1 ∧ x1 ≤ (List.length x2 : Int))) then (bif (decide (0 ≤ (0 : Int) ∧ (0 : Int) ≤ x1)) then (bif (decide (0 ≤ (List.length x2 : Int) ∧ (List.length x2 : Int) ≤ (List.length x2 : Int))) then (bif (decide (0 ≤ x1 ∧ x1 ≤ (List.length x2 : Int))) then (some ((List.drop (Int.toNat (0 : Int)) (List.take (Int.toNat x1) x2)), ((List.drop (Int.toNat x1) (List.take (Int.toNat (List.length x2 : Int)) x2)), x3))) else none) else none) else none) else none)))
theorem ok_74 (N : Nat) (x1 : Int) (x2 : List Int) (x3 : Bool) : f_74 N x1 x2 x3 = exec (X_74 N) Go.Proofs.Tryz.f74.ntmps (lp_74 N) c_74 0 (fnK (X_74 N) Go.Proofs.Tryz.f74.results.toList 1 [.one (.d (.sl [.int .u8])), .agg [.d (.sl [.int .u8]), .d (.bool)]]) (fnSt 2 1 [.one (.ptr 0 0), .one (.d (.int .i64)), .agg [.d (.sl [.int .u8]), .d (.bool)]] ((), x1, (x2, x3))) := by kernel_rfl
noncomputable def S_74 (N : Nat) : Sum := fnSum 2 1 1 [.one (.ptr 0 0), .one (.d (.int .i64)), .agg [.d (.sl [.int .u8]), .d (.bool)]] [.one (.d (.sl [.int .u8])), .agg [.d (.sl [.int .u8]), .d (.bool)]] (fun p => f_74 N p.2.1 p.2.2.1 p.2.2.2)
theorem s_74 (N : Nat) : SumOk Go.Proofs.Tryz.prog laidL 74 (S_74 N) :=
  fn_ok (lp := lp_74 N) (x_74 N) Go.Proofs.Tryz.func74 (c := c_74) (by kernel_rfl) (by kernel_rfl) rfl (fun p => ok_74 N p.2.1 p.2.2.1 p.2.2.2) (loopsAll (by kernel_rfl) (lookOk_nil))
noncomputable def X_76 (_ : Nat) : Ctx := ⟨tyT, lookF [], eqT, fun _ => false⟩
noncomputable def c_76 : Code := bodyOf Go.Proofs.Tryz.f76
theorem x_76 (N : Nat) : CtxOk Go.Proofs.Tryz.prog laidL (X_76 N) := ⟨tyOk, eqOk, fun _ _ => fnsOk_nil.get, by kernel_rfl⟩
noncomputable def lp_76 (_ : Nat) : Nat → Option LSum := lookL []
noncomputable def f_76 (_ : Nat) (x1 : List Int) : Option (TAs [.one (.d (.int .u8)), .one (.d (.int .i64)), .one (.d (.int .i64))]) :=
  (bif (decide ((List.length x1 : Int) < 5)) then (some (0, 0, 3)) else (bif (decide (0 ≤ (0 : Int) ∧ (0 : Int) < (List.length x1 : Int))) then (bif ((List.getD x1 (Int.toNat 0) 0) != 116) then (some (0, 0, 3)) else (bif (decide (0 ≤ (1 : Int) ∧ (1 : Int) < (List.length x1 : Int))) then (bif ((List.getD x1 (Int.toNat 1) 0) != 109) then (some (0, 0, 3)) else (bif (decide (0 ≤ (2 : Int) ∧ (2 : Int) < (List.length x1 : Int))) then (bif (decide ((List.getD x1 (Int.toNat 2) 0) < 1)) then (some (0, 0, 3)) else (bif (decide (0 ≤ (2 : Int) ∧ (2 : Int) < (List.length x1 : Int))) then (bif (decide ((List.getD x1 (Int.toNat 2) 0) > 6)) then (some (0, 0, 3)) else (bif (decide (0 ≤ (3 : Int) ∧ (3 : Int) < (List.length x1 : Int))) then (bif (decide (0 ≤ (4 : Int) ∧ (4 : Int) < (List.length x1 : Int))) then (bif (decide ((IntKind.i64.wrap ((IntKind.i64.wrap (List.getD x1 (Int.toNat 3) 0)) + (IntKind.i64.wrap (256 * (IntKind.i64.wrap (List.getD x1 (Int.toNat 4) 0)))))) > 1024)) then (some (0, 0, 3)) else (bif (decide (0 ≤ (2 : Int) ∧ (2 : Int) < (List.length x1 : Int))) then (bif (decide (0 ≤ (3 : Int) ∧ (3 : Int) < (List.length x1 : Int))) then (bif (decide (0 ≤ (4 : Int) ∧ (4 : Int) < (List.length x1 : Int))) then (some ((List.getD x1 (Int.toNat 2) 0), (IntKind.i64.wrap ((IntKind.i64.wrap (9 + (IntKind.i64.wrap (List.getD x1 (Int.toNat 3) 0)))) + (IntKind.i64.wrap (256 * (IntKind.i64.wrap (List.getD x1 (Int.toNat 4) 0)))))), 0)) else none) else none) else none)) else none) else none)) else none)) else none)) else none)) else none))
theorem ok_76 (N : Nat) (x1 : List Int) : f_76 N x1 = exec (X_76 N) Go.Proofs.Tryz.f76.ntmps (lp_76 N) c_76 0 (fnK (X_76 N) Go.Proofs.Tryz.f76.results.toList 0 [.one (.d (.int .u8)), .one (.d (.int .i64)), .one (.d (.int .i64))]) (fnSt 1 0 [.one (.d (.sl [.int .u8]))] x1) := by kernel_rfl
noncomputable def S_76 (N : Nat) : Sum := fnSum 1 0 3 [.one (.d (.sl [.int .u8]))] [.one (.d (.int .u8)), .one (.d (.int .i64)), .one (.d (.int .i64))] (fun p => f_76 N p)
theorem s_76 (N : Nat) : SumOk Go.Proofs.Tryz.prog laidL 76 (S_76 N) :=
  fn_ok (lp := lp_76 N) (x_76 N) Go.Proofs.Tryz.func76 (c := c_76) (by kernel_rfl) (by kernel_rfl) rfl (fun p => ok_76 N p) (loopsAll (by kernel_rfl) (lookOk_nil))
noncomputable def X_88 (_ : Nat) : Ctx := ⟨tyT, lookF [], eqT, fun _ => false⟩
noncomputable def c_88 : Code := bodyOf Go.Proofs.Tryz.f88
theorem x_88 (N : Nat) : CtxOk Go.Proofs.Tryz.prog laidL (X_88 N) := ⟨tyOk, eqOk, fun _ _ => fnsOk_nil.get, by kernel_rfl⟩
noncomputable def nd_88_0 : Code := loopAt 0 0 c_88
noncomputable def cb_88_0 : Code := unloop nd_88_0
theorem ne_88_0 : nd_88_0 = .loop cb_88_0 := by kernel_rfl
noncomputable def nd_88_2 : Code := loopAt 0 2 cb_88_0
noncomputable def cb_88_2 : Code := unloop nd_88_2
theorem ne_88_2 : nd_88_2 = .loop cb_88_2 := by kernel_rfl
noncomputable def sh_88_2 : List ShA := [.one (.d (.sl [.int .u8])), .one (.d (.int .u32)), .one (.d (.int .i64)), .one (.d (.int .u32)), .one (.d (.int .i64))]
noncomputable def o_88_2 : OutK 0 (TAs [.one (.d (.sl [.int .u8])), .one (.d (.int .u32)), .one (.d (.int .i64))]) := (outOne 0 (.exit 2) [0, 3, 4] [] [.one (.d (.sl [.int .u8])), .one (.d (.int .u32)), .one (.d (.int .i64))])
noncomputable def b_88_2 (_ : Nat) (ih : TAs sh_88_2 → Option (TAs [.one (.d (.sl [.int .u8])), .one (.d (.int .u32)), .one (.d (.int .i64))])) : TAs sh_88_2 → Option (TAs [.one (.d (.sl [.int .u8])), .one (.d (.int .u32)), .one (.d (.int .i64))]) := fun (y5, y6, y7, y8, y9) =>
  (bif (decide (y9 < 8)) then (bif ((Int.tmod (IntKind.u32.wrap (y6 + y8)) 2) == 1) then (ih (y5, (ibits .xor .u32 (IntKind.u32.wrap (Int.tdiv y6 2)) 3988292384), y7, (IntKind.u32.wrap (Int.tdiv y8 2)), (IntKind.i64.wrap (y9 + 1)))) else (ih (y5, (IntKind.u32.wrap (Int.tdiv y6 2)), y7, (IntKind.u32.wrap (Int.tdiv y8 2)), (IntKind.i64.wrap (y9 + 1))))) else (some ((y5, y6, y7))))
noncomputable def l_88_2 (N : Nat) : TAs sh_88_2 → Option (TAs [.one (.d (.sl [.int .u8])), .one (.d (.int .u32)), .one (.d (.int .i64))]) := iter (b_88_2 N) N
noncomputable def lp_88_2 (_ : Nat) : Nat → Option LSum := lookL []
noncomputable def L_88_2 (N : Nat) : LSum := loopSum [0, 3, 4, 5, 6] [] sh_88_2 o_88_2 (l_88_2 N)
theorem b_ok_88_2 (N : Nat) (ih : TAs sh_88_2 → Option (TAs [.one (.d (.sl [.int .u8])), .one (.d (.int .u32)), .one (.d (.int .i64))])) (p : TAs sh_88_2) : b_88_2 N ih p = exec (X_88 N) Go.Proofs.Tryz.f88.ntmps (lp_88_2 N) cb_88_2 2 (roundK [0, 3, 4, 5, 6] [] sh_88_2 o_88_2 ih) (stOf [0, 3, 4, 5, 6] [] sh_88_2 p) := by kernel_rfl
theorem L_ok_88_2 (N : Nat) : SegOk Go.Proofs.Tryz.prog laidL 0 Go.Proofs.Tryz.f88.ntmps nd_88_2 (L_88_2 N) :=
  ne_88_2 ▸ loop_ok (cur := 2) (lp := lp_88_2 N) (x_88 N) (fun n => iter (b_88_2 N) n) (fun _ => rfl) (fun n p => b_ok_88_2 N (iter (b_88_2 N) n) p) (loopsAll (by kernel_rfl) (lookOk_nil)) N
noncomputable def sh_88_0 : List ShA := [.one (.d (.sl [.int .u8])), .one (.d (.int .u32)), .one (.d (.int .i64))]
noncomputable def o_88_0 : OutK 0 (TAs [.one (.d (.int .u32))]) := (outOne 0 (.exit 0) [3] [] [.one (.d (.int .u32))])
noncomputable def b_88_0 (N : Nat) (ih : TAs sh_88_0 → Option (TAs [.one (.d (.int .u32))])) : TAs sh_88_0 → Option (TAs [.one (.d (.int .u32))]) := fun (y2, y3, y4) =>
  (bif (decide (y4 < (List.length y2 : Int))) then (bif (decide (0 ≤ y4 ∧ y4 < (List.length y2 : Int))) then ((l_88_2 N (y2, y3, y4, (IntKind.u32.wrap (List.getD y2 (Int.toNat y4) 0)), 0)).bind fun q10 => (ih (q10.1, q10.2.1, (IntKind.i64.wrap (q10.2.2 + 1))))) else none) else (some (y3)))
noncomputable def l_88_0 (N : Nat) : TAs sh_88_0 → Option (TAs [.one (.d (.int .u32))]) := iter (b_88_0 N) N
noncomputable def lp_88_0 (N : Nat) : Nat → Option LSum := lookL [(2, L_88_2 N)]
noncomputable def L_88_0 (N : Nat) : LSum := loopSum [0, 3, 4] [] sh_88_0 o_88_0 (l_88_0 N)
theorem b_ok_88_0 (N : Nat) (ih : TAs sh_88_0 → Option (TAs [.one (.d (.int .u32))])) (p : TAs sh_88_0) : b_88_0 N ih p = exec (X_88 N) Go.Proofs.Tryz.f88.ntmps (lp_88_0 N) cb_88_0 0 (roundK [0, 3, 4] [] sh_88_0 o_88_0 ih) (stOf [0, 3, 4] [] sh_88_0 p) := by kernel_rfl
theorem L_ok_88_0 (N : Nat) : SegOk Go.Proofs.Tryz.prog laidL 0 Go.Proofs.Tryz.f88.ntmps nd_88_0 (L_88_0 N) :=
  ne_88_0 ▸ loop_ok (cur := 0) (lp := lp_88_0 N) (x_88 N) (fun n => iter (b_88_0 N) n) (fun _ => rfl) (fun n p => b_ok_88_0 N (iter (b_88_0 N) n) p) (loopsAll (by kernel_rfl) ((lookOk_cons (L_ok_88_2 N) lookOk_nil))) N
noncomputable def lp_88 (N : Nat) : Nat → Option LSum := lookL [(0, L_88_0 N)]
noncomputable def f_88 (N : Nat) (x1 : List Int) : Option (TAs [.one (.d (.int .u32))]) :=
  ((l_88_0 N (x1, 4294967295, 0)).bind fun q11 => (some (IntKind.u32.wrap (4294967295 - q11))))
theorem ok_88 (N : Nat) (x1 : List Int) : f_88 N x1 = exec (X_88 N) Go.Proofs.Tryz.f88.ntmps (lp_88 N) c_88 0 (fnK (X_88 N) Go.Proofs.Tryz.f88.results.toList 0 [.one (.d (.int .u32))]) (fnSt 1 0 [.one (.d (.sl [.int .u8]))] x1) := by kernel_rfl
noncomputable def S_88 (N : Nat) : Sum := fnSum 1 0 1 [.one (.d (.sl [.int .u8]))] [.one (.d (.int .u32))] (fun p => f_88 N p)
theorem s_88 (N : Nat) : SumOk Go.Proofs.Tryz.prog laidL 88 (S_88 N) :=
  fn_ok (lp := lp_88 N) (x_88 N) Go.Proofs.Tryz.func88 (c := c_88) (by kernel_rfl) (by kernel_rfl) rfl (fun p => ok_88 N p) (loopsAll (by kernel_rfl) ((lookOk_cons (L_ok_88_0 N) lookOk_nil)))
noncomputable def X_89 (_ : Nat) : Ctx := ⟨tyT, lookF [], eqT, fun _ => false⟩
noncomputable def c_89 : Code := bodyOf Go.Proofs.Tryz.f89
theorem x_89 (N : Nat) : CtxOk Go.Proofs.Tryz.prog laidL (X_89 N) := ⟨tyOk, eqOk, fun _ _ => fnsOk_nil.get, by kernel_rfl⟩
noncomputable def nd_89_0 : Code := loopAt 0 0 c_89
noncomputable def cb_89_0 : Code := unloop nd_89_0
theorem ne_89_0 : nd_89_0 = .loop cb_89_0 := by kernel_rfl
noncomputable def sh_89_0 : List ShA := [.one (.d (.sl [.int .u8])), .one (.d (.sl [.int .u8])), .one (.d (.int .i64)), .one (.d (.int .i64))]
noncomputable def o_89_0 : OutK 0 (((TAs [.one (.d (.bool))]) ⊕ (TAs []))) := (outTwo (outOne 0 .ret [4] [] [.one (.d (.bool))]) (outOne 0 (.exit 0) [] [] []))
noncomputable def b_89_0 (_ : Nat) (ih : TAs sh_89_0 → Option (((TAs [.one (.d (.bool))]) ⊕ (TAs [])))) : TAs sh_89_0 → Option (((TAs [.one (.d (.bool))]) ⊕ (TAs []))) := fun (y3, y4, y5, y6) =>
  (bif (decide (y6 < y5)) then (bif (decide (0 ≤ y6 ∧ y6 < (List.length y3 : Int))) then (bif (decide (0 ≤ y6 ∧ y6 < (List.length y4 : Int))) then (bif ((List.getD y3 (Int.toNat y6) 0) != (List.getD y4 (Int.toNat y6) 0)) then (some (.inl false)) else (ih (y3, y4, y5, (IntKind.i64.wrap (y6 + 1))))) else none) else none) else (some (.inr ())))
noncomputable def l_89_0 (N : Nat) : TAs sh_89_0 → Option (((TAs [.one (.d (.bool))]) ⊕ (TAs []))) := iter (b_89_0 N) N
noncomputable def lp_89_0 (_ : Nat) : Nat → Option LSum := lookL []
noncomputable def L_89_0 (N : Nat) : LSum := loopSum [0, 1, 12, 13] [] sh_89_0 o_89_0 (l_89_0 N)
theorem b_ok_89_0 (N : Nat) (ih : TAs sh_89_0 → Option (((TAs [.one (.d (.bool))]) ⊕ (TAs [])))) (p : TAs sh_89_0) : b_89_0 N ih p = exec (X_89 N) Go.Proofs.Tryz.f89.ntmps (lp_89_0 N) cb_89_0 0 (roundK [0, 1, 12, 13] [] sh_89_0 o_89_0 ih) (stOf [0, 1, 12, 13] [] sh_89_0 p) := by kernel_rfl
theorem L_ok_89_0 (N : Nat) : SegOk Go.Proofs.Tryz.prog laidL 0 Go.Proofs.Tryz.f89.ntmps nd_89_0 (L_89_0 N) :=
  ne_89_0 ▸ loop_ok (cur := 0) (lp := lp_89_0 N) (x_89 N) (fun n => iter (b_89_0 N) n) (fun _ => rfl) (fun n p => b_ok_89_0 N (iter (b_89_0 N) n) p) (loopsAll (by kernel_rfl) (lookOk_nil)) N
noncomputable def lp_89 (N : Nat) : Nat → Option LSum := lookL [(0, L_89_0 N)]
noncomputable def f_89 (N : Nat) (x1 : List Int) (x2 : List Int) : Option (TAs [.one (.d (.bool))]) :=
  (bif ((List.length x1 : Int) != (List.length x2 : Int)) then (some false) else ((l_89_0 N (x1, x2, (List.length x1 : Int), 0)).bind fun q => (match q with | .inl q7 => (some q7) | .inr _ => (some true))))
theorem ok_89 (N : Nat) (x1 : List Int) (x2 : List Int) : f_89 N x1 x2 = exec (X_89 N) Go.Proofs.Tryz.f89.ntmps (lp_89 N) c_89 0 (fnK (X_89 N) Go.Proofs.Tryz.f89.results.toList 0 [.one (.d (.bool))]) (fnSt 2 0 [.one (.d (.sl [.int .u8])), .one (.d (.sl [.int .u8]))] (x1, x2)) := by kernel_rfl
noncomputable def S_89 (N : Nat) : Sum := fnSum 2 0 1 [.one (.d (.sl [.int .u8])), .one (.d (.sl [.int .u8]))] [.one (.d (.bool))] (fun p => f_89 N p.1 p.2)
theorem s_89 (N : Nat) : SumOk Go.Proofs.Tryz.prog laidL 89 (S_89 N) :=
  fn_ok (lp := lp_89 N) (x_89 N) Go.Proofs.Tryz.func89 (c := c_89) (by kernel_rfl) (by kernel_rfl) rfl (fun p => ok_89 N p.1 p.2) (loopsAll (by kernel_rfl) ((lookOk_cons (L_ok_89_0 N) lookOk_nil)))
noncomputable def X_94 (_ : Nat) : Ctx := ⟨tyT, lookF [], eqT, fun _ => false⟩
noncomputable def c_94 : Code := bodyOf Go.Proofs.Tryz.f94
theorem x_94 (N : Nat) : CtxOk Go.Proofs.Tryz.prog laidL (X_94 N) := ⟨tyOk, eqOk, fun _ _ => fnsOk_nil.get, by kernel_rfl⟩
noncomputable def lp_94 (_ : Nat) : Nat → Option LSum := lookL []
noncomputable def f_94 (_ : Nat) (x1 : Int) : Option (TAs [.one (.d (.bool))]) :=
  (some (x1 != x1))
theorem ok_94 (N : Nat) (x1 : Int) : f_94 N x1 = exec (X_94 N) Go.Proofs.Tryz.f94.ntmps (lp_94 N) c_94 0 (fnK (X_94 N) Go.Proofs.Tryz.f94.results.toList 0 [.one (.d (.bool))]) (fnSt 1 0 [.one (.d (.int .i64))] x1) := by kernel_rfl
noncomputable def S_94 (N : Nat) : Sum := fnSum 1 0 1 [.one (.d (.int .i64))] [.one (.d (.bool))] (fun p => f_94 N p)
theorem s_94 (N : Nat) : SumOk Go.Proofs.Tryz.prog laidL 94 (S_94 N) :=
  fn_ok (lp := lp_94 N) (x_94 N) Go.Proofs.Tryz.func94 (c := c_94) (by kernel_rfl) (by kernel_rfl) rfl (fun p => ok_94 N p) (loopsAll (by kernel_rfl) (lookOk_nil))
noncomputable def X_104 (_ : Nat) : Ctx := ⟨tyT, lookF [], eqT, fun _ => false⟩
noncomputable def c_104 : Code := bodyOf Go.Proofs.Tryz.f104
theorem x_104 (N : Nat) : CtxOk Go.Proofs.Tryz.prog laidL (X_104 N) := ⟨tyOk, eqOk, fun _ _ => fnsOk_nil.get, by kernel_rfl⟩
noncomputable def nd_104_0 : Code := loopAt 0 0 c_104
noncomputable def cb_104_0 : Code := unloop nd_104_0
theorem ne_104_0 : nd_104_0 = .loop cb_104_0 := by kernel_rfl
noncomputable def sh_104_0 : List ShA := [.one (.d (.int .u32)), .one (.d (.int .i64))]
noncomputable def o_104_0 : OutK 0 (TAs [.one (.d (.int .u32))]) := (outOne 0 (.exit 0) [0] [] [.one (.d (.int .u32))])
noncomputable def b_104_0 (_ : Nat) (ih : TAs sh_104_0 → Option (TAs [.one (.d (.int .u32))])) : TAs sh_104_0 → Option (TAs [.one (.d (.int .u32))]) := fun (y3, y4) =>
  (bif (decide (y4 < 8)) then (bif ((ibits .and .u32 y3 1) == 1) then (ih ((ibits .xor .u32 (y3 / 2 ^ (min (Int.toNat 1) IntKind.u32.bits)) 3988292384), (IntKind.i64.wrap (y4 + 1)))) else (ih ((y3 / 2 ^ (min (Int.toNat 1) IntKind.u32.bits)), (IntKind.i64.wrap (y4 + 1))))) else (some (y3)))
noncomputable def l_104_0 (N : Nat) : TAs sh_104_0 → Option (TAs [.one (.d (.int .u32))]) := iter (b_104_0 N) N
noncomputable def lp_104_0 (_ : Nat) : Nat → Option LSum := lookL []
noncomputable def L_104_0 (N : Nat) : LSum := loopSum [0, 9] [] sh_104_0 o_104_0 (l_104_0 N)
theorem b_ok_104_0 (N : Nat) (ih : TAs sh_104_0 → Option (TAs [.one (.d (.int .u32))])) (p : TAs sh_104_0) : b_104_0 N ih p = exec (X_104 N) Go.Proofs.Tryz.f104.ntmps (lp_104_0 N) cb_104_0 0 (roundK [0, 9] [] sh_104_0 o_104_0 ih) (stOf [0, 9] [] sh_104_0 p) := by kernel_rfl
theorem L_ok_104_0 (N : Nat) : SegOk Go.Proofs.Tryz.prog laidL 0 Go.Proofs.Tryz.f104.ntmps nd_104_0 (L_104_0 N) :=
  ne_104_0 ▸ loop_ok (cur := 0) (lp := lp_104_0 N) (x_104 N) (fun n => iter (b_104_0 N) n) (fun _ => rfl) (fun n p => b_ok_104_0 N (iter (b_104_0 N) n) p) (loopsAll (by kernel_rfl) (lookOk_nil)) N
noncomputable def lp_104 (N : Nat) : Nat → Option LSum := lookL [(0, L_104_0 N)]
noncomputable def f_104 (N : Nat) (x1 : Int) (x2 : Int) : Option (TAs [.one (.d (.int .u32))]) :=
  ((l_104_0 N ((ibits .xor .u32 x1 (IntKind.u32.wrap x2)), 0)).bind fun q5 => (some q5))
theorem ok_104 (N : Nat) (x1 : Int) (x2 : Int) : f_104 N x1 x2 = exec (X_104 N) Go.Proofs.Tryz.f104.ntmps (lp_104 N) c_104 0 (fnK (X_104 N) Go.Proofs.Tryz.f104.results.toList 0 [.one (.d (.int .u32))]) (fnSt 2 0 [.one (.d (.int .u32)), .one (.d (.int .u8))] (x1, x2)) := by kernel_rfl
noncomputable def S_104 (N : Nat) : Sum := fnSum 2 0 1 [.one (.d (.int .u32)), .one (.d (.int .u8))] [.one (.d (.int .u32))] (fun p => f_104 N p.1 p.2)
theorem s_104 (N : Nat) : SumOk Go.Proofs.Tryz.prog laidL 104 (S_104 N) :=
  fn_ok (lp := lp_104 N) (x_104 N) Go.Proofs.Tryz.func104 (c := c_104) (by kernel_rfl) (by kernel_rfl) rfl (fun p => ok_104 N p.1 p.2) (loopsAll (by kernel_rfl) ((lookOk_cons (L_ok_104_0 N) lookOk_nil)))
noncomputable def X_17 (N : Nat) : Ctx := ⟨tyT, lookF [(50, (S_50 N))], eqT, fun _ => false⟩
noncomputable def c_17 : Code := bodyOf Go.Proofs.Tryz.f17
theorem x_17 (N : Nat) : CtxOk Go.Proofs.Tryz.prog laidL (X_17 N) := ⟨tyOk, eqOk, fun _ _ => (fnsOk_cons (s_50 N) fnsOk_nil).get, by kernel_rfl⟩
noncomputable def lp_17 (_ : Nat) : Nat → Option LSum := lookL []
noncomputable def f_17 (N : Nat) (x1 : Int) (x2 : Int) (x3 : Int) (x4 : Int) (x5 : Int) (x6 : Int) (x7 : Bool) (x8 : ByteArray) (x9 : Int) (x10 : List (Int × Int × ByteArray)) : Option (TAs [.agg [.d (.int .i64), .d (.int .i64), .d (.int .i64), .d (.int .i64), .d (.int .i64), .d (.int .i64), .d (.bool), .d (.str), .d (.int .i64), .slt [.int .i64, .int .i64, .str] 69 3]]) :=
  ((f_50 N x8 x9 x10).bind fun r11 => (some (x1, x2, x3, x4, x5, x6, x7, r11.1, r11.2.1, r11.2.2)))
theorem ok_17 (N : Nat) (x1 : Int) (x2 : Int) (x3 : Int) (x4 : Int) (x5 : Int) (x6 : Int) (x7 : Bool) (x8 : ByteArray) (x9 : Int) (x10 : List (Int × Int × ByteArray)) : f_17 N x1 x2 x3 x4 x5 x6 x7 x8 x9 x10 = exec (X_17 N) Go.Proofs.Tryz.f17.ntmps (lp_17 N) c_17 0 (fnK (X_17 N) Go.Proofs.Tryz.f17.results.toList 0 [.agg [.d (.int .i64), .d (.int .i64), .d (.int .i64), .d (.int .i64), .d (.int .i64), .d (.int .i64), .d (.bool), .d (.str), .d (.int .i64), .slt [.int .i64, .int .i64, .str] 69 3]]) (fnSt 1 0 [.agg [.d (.int .i64), .d (.int .i64), .d (.int .i64), .d (.int .i64), .d (.int .i64), .d (.int .i64), .d (.bool), .d (.str), .d (.int .i64), .d (.sl [.int .i64, .int .i64, .str])]] (x1, x2, x3, x4, x5, x6, x7, x8, x9, x10)) := by kernel_rfl
noncomputable def S_17 (N : Nat) : Sum := fnSum 1 0 1 [.agg [.d (.int .i64), .d (.int .i64), .d (.int .i64), .d (.int .i64), .d (.int .i64), .d (.int .i64), .d (.bool), .d (.str), .d (.int .i64), .d (.sl [.int .i64, .int .i64, .str])]] [.agg [.d (.int .i64), .d (.int .i64), .d (.int .i64), .d (.int .i64), .d (.int .i64), .d (.int .i64), .d (.bool), .d (.str), .d (.int .i64), .slt [.int .i64, .int .i64, .str] 69 3]] (fun p => f_17 N p.1 p.2.1 p.2.2.1 p.2.2.2.1 p.2.2.2.2.1 p.2.2.2.2.2.1 p.2.2.2.2.2.2.1 p.2.2.2.2.2.2.2.1 p.2.2.2.2.2.2.2.2.1 p.2.2.2.2.2.2.2.2.2)
theorem s_17 (N : Nat) : SumOk Go.Proofs.Tryz.prog laidL 17 (S_17 N) :=
  fn_ok (lp := lp_17 N) (x_17 N) Go.Proofs.Tryz.func17 (c := c_17) (by kernel_rfl) (by kernel_rfl) rfl (fun p => ok_17 N p.1 p.2.1 p.2.2.1 p.2.2.2.1 p.2.2.2.2.1 p.2.2.2.2.2.1 p.2.2.2.2.2.2.1 p.2.2.2.2.2.2.2.1 p.2.2.2.2.2.2.2.2.1 p.2.2.2.2.2.2.2.2.2) (loopsAll (by kernel_rfl) (lookOk_nil))
noncomputable def X_21 (N : Nat) : Ctx := ⟨tyT, lookF [(53, (S_53 N))], eqT, fun _ => false⟩
noncomputable def c_21 : Code := bodyOf Go.Proofs.Tryz.f21
theorem x_21 (N : Nat) : CtxOk Go.Proofs.Tryz.prog laidL (X_21 N) := ⟨tyOk, eqOk, fun _ _ => (fnsOk_cons (s_53 N) fnsOk_nil).get, by kernel_rfl⟩
noncomputable def lp_21 (_ : Nat) : Nat → Option LSum := lookL []
noncomputable def f_21 (N : Nat) (x1 : Int) (x2 : Int) (x3 : Int) (x4 : Int) (x5 : Int) (x6 : Int) (x7 : Bool) (x8 : ByteArray) (x9 : Int) (x10 : List (Int × Int × ByteArray)) (x11 : Int) (x12 : Int) (x13 : Int) (x14 : Int) (x15 : Int) (x16 : Int) (x17 : Bool) (x18 : ByteArray) (x19 : Int) (x20 : List (Int × Int × ByteArray)) : Option (TAs [.one (.d (.bool))]) :=
  (bif ((x1 == x11) && ((x2 == x12) && (x3 == x13))) then (bif (x4 == x14) then (bif ((x5 == x15) && (x6 == x16)) then (bif (x7 == x17) then ((f_53 N x8 x9 x10 x18 x19 x20).bind fun r21 => (some r21)) else (some false)) else (some false)) else (some false)) else (some false))
theorem ok_21 (N : Nat) (x1 : Int) (x2 : Int) (x3 : Int) (x4 : Int) (x5 : Int) (x6 : Int) (x7 : Bool) (x8 : ByteArray) (x9 : Int) (x10 : List (Int × Int × ByteArray)) (x11 : Int) (x12 : Int) (x13 : Int) (x14 : Int) (x15 : Int) (x16 : Int) (x17 : Bool) (x18 : ByteArray) (x19 : Int) (x20 : List (Int × Int × ByteArray)) : f_21 N x1 x2 x3 x4 x5 x6 x7 x8 x9 x10 x11 x12 x13 x14 x15 x16 x17 x18 x19 x20 = exec (X_21 N) Go.Proofs.Tryz.f21.ntmps (lp_21 N) c_21 0 (fnK (X_21 N) Go.Proofs.Tryz.f21.results.toList 0 [.one (.d (.bool))]) (fnSt 2 0 [.agg [.d (.int .i64), .d (.int .i64), .d (.int .i64), .d (.int .i64), .d (.int .i64), .d (.int .i64), .d (.bool), .d (.str), .d (.int .i64), .d (.sl [.int .i64, .int .i64, .str])], .agg [.d (.int .i64), .d (.int .i64), .d (.int .i64), .d (.int .i64), .d (.int .i64), .d (.int .i64), .d (.bool), .d (.str), .d (.int .i64), .d (.sl [.int .i64, .int .i64, .str])]] ((x1, x2, x3, x4, x5, x6, x7, x8, x9, x10), (x11, x12, x13, x14, x15, x16, x17, x18, x19, x20))) := by kernel_rfl
noncomputable def S_21 (N : Nat) : Sum := fnSum 2 0 1 [.agg [.d (.int .i64), .d (.int .i64), .d (.int .i64), .d (.int .i64), .d (.int .i64), .d (.int .i64), .d (.bool), .d (.str), .d (.int .i64), .d (.sl [.int .i64, .int .i64, .str])], .agg [.d (.int .i64), .d (.int .i64), .d (.int .i64), .d (.int .i64), .d (.int .i64), .d (.int .i64), .d (.bool), .d (.str), .d (.int .i64), .d (.sl [.int .i64, .int .i64, .str])]] [.one (.d (.bool))] (fun p => f_21 N p.1.1 p.1.2.1 p.1.2.2.1 p.1.2.2.2.1 p.1.2.2.2.2.1 p.1.2.2.2.2.2.1 p.1.2.2.2.2.2.2.1 p.1.2.2.2.2.2.2.2.1 p.1.2.2.2.2.2.2.2.2.1 p.1.2.2.2.2.2.2.2.2.2 p.2.1 p.2.2.1 p.2.2.2.1 p.2.2.2.2.1 p.2.2.2.2.2.1 p.2.2.2.2.2.2.1 p.2.2.2.2.2.2.2.1 p.2.2.2.2.2.2.2.2.1 p.2.2.2.2.2.2.2.2.2.1 p.2.2.2.2.2.2.2.2.2.2)
theorem s_21 (N : Nat) : SumOk Go.Proofs.Tryz.prog laidL 21 (S_21 N) :=
  fn_ok (lp := lp_21 N) (x_21 N) Go.Proofs.Tryz.func21 (c := c_21) (by kernel_rfl) (by kernel_rfl) rfl (fun p => ok_21 N p.1.1 p.1.2.1 p.1.2.2.1 p.1.2.2.2.1 p.1.2.2.2.2.1 p.1.2.2.2.2.2.1 p.1.2.2.2.2.2.2.1 p.1.2.2.2.2.2.2.2.1 p.1.2.2.2.2.2.2.2.2.1 p.1.2.2.2.2.2.2.2.2.2 p.2.1 p.2.2.1 p.2.2.2.1 p.2.2.2.2.1 p.2.2.2.2.2.1 p.2.2.2.2.2.2.1 p.2.2.2.2.2.2.2.1 p.2.2.2.2.2.2.2.2.1 p.2.2.2.2.2.2.2.2.2.1 p.2.2.2.2.2.2.2.2.2.2) (loopsAll (by kernel_rfl) (lookOk_nil))
noncomputable def X_25 (N : Nat) : Ctx := ⟨tyT, lookF [(60, (S_60 N))], eqT, fun _ => false⟩
noncomputable def c_25 : Code := bodyOf Go.Proofs.Tryz.f25
theorem x_25 (N : Nat) : CtxOk Go.Proofs.Tryz.prog laidL (X_25 N) := ⟨tyOk, eqOk, fun _ _ => (fnsOk_cons (s_60 N) fnsOk_nil).get, by kernel_rfl⟩
noncomputable def lp_25 (_ : Nat) : Nat → Option LSum := lookL []
noncomputable def f_25 (N : Nat) (x1 : Int) (x2 : Int) (x3 : Int) (x4 : Int) (x5 : Int) (x6 : Int) (x7 : Bool) (x8 : ByteArray) (x9 : Int) (x10 : List (Int × Int × ByteArray)) (x11 : Int) (x12 : Int) (x13 : Int) (x14 : Int) (x15 : Int) (x16 : Int) (x17 : Bool) (x18 : ByteArray) (x19 : Int) (x20 : List (Int × Int × ByteArray)) : Option (TAs [.one (.d (.bool))]) :=
  (bif ((x1 == x11) && ((x2 == x12) && (x3 == x13))) then (bif (x4 == x14) then (bif ((x5 == x15) && (x6 == x16)) then (bif (x7 == x17) then (bif ((ByteArray.toList x8) == (ByteArray.toList x18)) then (bif (x9 == x19) then ((f_60 N x10 x20).bind fun r21 => (some r21)) else (some false)) else (some false)) else (some false)) else (some false)) else (some false)) else (some false))
theorem ok_25 (N : Nat) (x1 : Int) (x2 : Int) (x3 : Int) (x4 : Int) (x5 : Int) (x6 : Int) (x7 : Bool) (x8 : ByteArray) (x9 : Int) (x10 : List (Int × Int × ByteArray)) (x11 : Int) (x12 : Int) (x13 : Int) (x14 : Int) (x15 : Int) (x16 : Int) (x17 : Bool) (x18 : ByteArray) (x19 : Int) (x20 : List (Int × Int × ByteArray)) : f_25 N x1 x2 x3 x4 x5 x6 x7 x8 x9 x10 x11 x12 x13 x14 x15 x16 x17 x18 x19 x20 = exec (X_25 N) Go.Proofs.Tryz.f25.ntmps (lp_25 N) c_25 0 (fnK (X_25 N) Go.Proofs.Tryz.f25.results.toList 0 [.one (.d (.bool))]) (fnSt 2 0 [.agg [.d (.int .i64), .d (.int .i64), .d (.int .i64), .d (.int .i64), .d (.int .i64), .d (.int .i64), .d (.bool), .d (.str), .d (.int .i64), .d (.sl [.int .i64, .int .i64, .str])], .agg [.d (.int .i64), .d (.int .i64), .d (.int .i64), .d (.int .i64), .d (.int .i64), .d (.int .i64), .d (.bool), .d (.str), .d (.int .i64), .d (.sl [.int .i64, .int .i64, .str])]] ((x1, x2, x3, x4, x5, x6, x7, x8, x9, x10), (x11, x12, x13, x14, x15, x16, x17, x18, x19, x20))) := by kernel_rfl
noncomputable def S_25 (N : Nat) : Sum := fnSum 2 0 1 [.agg [.d (.int .i64), .d (.int .i64), .d (.int .i64), .d (.int .i64), .d (.int .i64), .d (.int .i64), .d (.bool), .d (.str), .d (.int .i64), .d (.sl [.int .i64, .int .i64, .str])], .agg [.d (.int .i64), .d (.int .i64), .d (.int .i64), .d (.int .i64), .d (.int .i64), .d (.int .i64), .d (.bool), .d (.str), .d (.int .i64), .d (.sl [.int .i64, .int .i64, .str])]] [.one (.d (.bool))] (fun p => f_25 N p.1.1 p.1.2.1 p.1.2.2.1 p.1.2.2.2.1 p.1.2.2.2.2.1 p.1.2.2.2.2.2.1 p.1.2.2.2.2.2.2.1 p.1.2.2.2.2.2.2.2.1 p.1.2.2.2.2.2.2.2.2.1 p.1.2.2.2.2.2.2.2.2.2 p.2.1 p.2.2.1 p.2.2.2.1 p.2.2.2.2.1 p.2.2.2.2.2.1 p.2.2.2.2.2.2.1 p.2.2.2.2.2.2.2.1 p.2.2.2.2.2.2.2.2.1 p.2.2.2.2.2.2.2.2.2.1 p.2.2.2.2.2.2.2.2.2.2)
theorem s_25 (N : Nat) : SumOk Go.Proofs.Tryz.prog laidL 25 (S_25 N) :=
  fn_ok (lp := lp_25 N) (x_25 N) Go.Proofs.Tryz.func25 (c := c_25) (by kernel_rfl) (by kernel_rfl) rfl (fun p => ok_25 N p.1.1 p.1.2.1 p.1.2.2.1 p.1.2.2.2.1 p.1.2.2.2.2.1 p.1.2.2.2.2.2.1 p.1.2.2.2.2.2.2.1 p.1.2.2.2.2.2.2.2.1 p.1.2.2.2.2.2.2.2.2.1 p.1.2.2.2.2.2.2.2.2.2 p.2.1 p.2.2.1 p.2.2.2.1 p.2.2.2.2.1 p.2.2.2.2.2.1 p.2.2.2.2.2.2.1 p.2.2.2.2.2.2.2.1 p.2.2.2.2.2.2.2.2.1 p.2.2.2.2.2.2.2.2.2.1 p.2.2.2.2.2.2.2.2.2.2) (loopsAll (by kernel_rfl) (lookOk_nil))
noncomputable def X_28 (N : Nat) : Ctx := ⟨tyT, lookF [(62, (S_62 N)), (63, (S_63 N))], eqT, fun _ => false⟩
noncomputable def c_28 : Code := bodyOf Go.Proofs.Tryz.f28
theorem x_28 (N : Nat) : CtxOk Go.Proofs.Tryz.prog laidL (X_28 N) := ⟨tyOk, eqOk, fun _ _ => (fnsOk_cons (s_62 N) (fnsOk_cons (s_63 N) fnsOk_nil)).get, by kernel_rfl⟩
noncomputable def nd_28_0 : Code := loopAt 0 0 c_28
noncomputable def cb_28_0 : Code := unloop nd_28_0
theorem ne_28_0 : nd_28_0 = .loop cb_28_0 := by kernel_rfl
noncomputable def sh_28_0 : List ShA := [.one (.ptr 144 0), .one (.d (.sl [.int .i64, .int .i64, .str])), .one (.d (.int .i64)), .one (.d (.int .i64)), .agg [.d (.str), .d (.int .i64), .d (.sl [.int .i64, .int .i64, .str])]]
noncomputable def o_28_0 : OutK 0 (((TAs [.one (.d (.err 88))]) ⊕ (TAs []))) := (outTwo (outOne 0 .ret [2] [] [.one (.d (.err 88))]) (outOne 0 (.exit 0) [] [] []))
noncomputable def b_28_0 (N : Nat) (ih : TAs sh_28_0 → Option (((TAs [.one (.d (.err 88))]) ⊕ (TAs [])))) : TAs sh_28_0 → Option (((TAs [.one (.d (.err 88))]) ⊕ (TAs []))) := fun (_, y6, y7, y8, (y9, y10, y11)) =>
  (bif (decide (y8 < y7)) then (bif (decide (0 ≤ y8 ∧ y8 < (List.length y6 : Int))) then ((f_62 N ((List.getD y6 (Int.toNat y8) (0, 0, ByteArray.empty)).2.2)).bind fun r12 => (bif (!r12) then (some (.inl (some 1))) else ((f_63 N ((List.getD y6 (Int.toNat y8) (0, 0, ByteArray.empty)).2.1)).bind fun r13 => (bif (!r13) then (some (.inl (some 1))) else (bif (decide ((List.getD y6 (Int.toNat y8) (0, 0, ByteArray.empty)).1 < (-1099511627776))) then (some (.inl (some 1))) else (bif (decide ((List.getD y6 (Int.toNat y8) (0, 0, ByteArray.empty)).1 > 1099511627776)) then (some (.inl (some 1))) else (bif (decide (y8 > 0)) then (bif (decide (0 ≤ (IntKind.i64.wrap (y8 - 1)) ∧ (IntKind.i64.wrap (y8 - 1)) < (List.length y11 : Int))) then (bif (decide ((List.getD y11 (Int.toNat (IntKind.i64.wrap (y8 - 1))) (0, 0, ByteArray.empty)).1 ≥ (List.getD y6 (Int.toNat y8) (0, 0, ByteArray.empty)).1)) then (some (.inl (some 1))) else (ih ((), y6, y7, (IntKind.i64.wrap (y8 + 1)), (y9, y10, y11)))) else none) else (ih ((), y6, y7, (IntKind.i64.wrap (y8 + 1)), (y9, y10, y11)))))))))) else none) else (some (.inr ())))
noncomputable def l_28_0 (N : Nat) : TAs sh_28_0 → Option (((TAs [.one (.d (.err 88))]) ⊕ (TAs []))) := iter (b_28_0 N) N
noncomputable def lp_28_0 (_ : Nat) : Nat → Option LSum := lookL []
noncomputable def L_28_0 (N : Nat) : LSum := loopSum [1, 23, 24, 25] [144] sh_28_0 o_28_0 (l_28_0 N)
theorem b_ok_28_0 (N : Nat) (ih : TAs sh_28_0 → Option (((TAs [.one (.d (.err 88))]) ⊕ (TAs [])))) (p : TAs sh_28_0) : b_28_0 N ih p = exec (X_28 N) Go.Proofs.Tryz.f28.ntmps (lp_28_0 N) cb_28_0 0 (roundK [1, 23, 24, 25] [144] sh_28_0 o_28_0 ih) (stOf [1, 23, 24, 25] [144] sh_28_0 p) := by kernel_rfl
theorem L_ok_28_0 (N : Nat) : SegOk Go.Proofs.Tryz.prog laidL 0 Go.Proofs.Tryz.f28.ntmps nd_28_0 (L_28_0 N) :=
  ne_28_0 ▸ loop_ok (cur := 0) (lp := lp_28_0 N) (x_28 N) (fun n => iter (b_28_0 N) n) (fun _ => rfl) (fun n p => b_ok_28_0 N (iter (b_28_0 N) n) p) (loopsAll (by kernel_rfl) (lookOk_nil)) N
noncomputable def lp_28 (N : Nat) : Nat → Option LSum := lookL [(0, L_28_0 N)]
noncomputable def f_28 (N : Nat) (x1 : ByteArray) (x2 : Int) (x3 : List (Int × Int × ByteArray)) : Option (TAs [.one (.d (.err 88))]) :=
  ((f_62 N x1).bind fun r4 => (bif (!r4) then (some (some 1)) else ((f_63 N x2).bind fun r5 => (bif (!r5) then (some (some 1)) else (bif (decide ((List.length x3 : Int) > 32)) then (some (some 1)) else ((l_28_0 N ((), x3, (List.length x3 : Int), 0, (x1, x2, x3))).bind fun q => (match q with | .inl q14 => (some q14) | .inr _ => (some none))))))))
theorem ok_28 (N : Nat) (x1 : ByteArray) (x2 : Int) (x3 : List (Int × Int × ByteArray)) : f_28 N x1 x2 x3 = exec (X_28 N) Go.Proofs.Tryz.f28.ntmps (lp_28 N) c_28 0 (fnK (X_28 N) Go.Proofs.Tryz.f28.results.toList 0 [.one (.d (.err 88))]) (fnSt 1 0 [.agg [.d (.str), .d (.int .i64), .d (.sl [.int .i64, .int .i64, .str])]] (x1, x2, x3)) := by kernel_rfl
noncomputable def S_28 (N : Nat) : Sum := fnSum 1 0 1 [.agg [.d (.str), .d (.int .i64), .d (.sl [.int .i64, .int .i64, .str])]] [.one (.d (.err 88))] (fun p => f_28 N p.1 p.2.1 p.2.2)
theorem s_28 (N : Nat) : SumOk Go.Proofs.Tryz.prog laidL 28 (S_28 N) :=
  fn_ok (lp := lp_28 N) (x_28 N) Go.Proofs.Tryz.func28 (c := c_28) (by kernel_rfl) (by kernel_rfl) rfl (fun p => ok_28 N p.1 p.2.1 p.2.2) (loopsAll (by kernel_rfl) ((lookOk_cons (L_ok_28_0 N) lookOk_nil)))
noncomputable def X_32 (N : Nat) : Ctx := ⟨tyT, lookF [(68, (S_68 N)), (69, (S_69 N))], eqT, fun _ => false⟩
noncomputable def c_32 : Code := bodyOf Go.Proofs.Tryz.f32
theorem x_32 (N : Nat) : CtxOk Go.Proofs.Tryz.prog laidL (X_32 N) := ⟨tyOk, eqOk, fun _ _ => (fnsOk_cons (s_68 N) (fnsOk_cons (s_69 N) fnsOk_nil)).get, by kernel_rfl⟩
noncomputable def nd_32_0 : Code := loopAt 0 0 c_32
noncomputable def cb_32_0 : Code := unloop nd_32_0
theorem ne_32_0 : nd_32_0 = .loop cb_32_0 := by kernel_rfl
noncomputable def sh_32_0 : List ShA := [.one (.ptr 144 0), .one (.d (.int .i64)), .agg [.d (.str), .d (.int .i64), .d (.sl [.int .i64, .int .i64, .str])]]
noncomputable def o_32_0 : OutK 0 (((TAs [.one (.d (.bool))]) ⊕ (TAs [.one (.ptr 144 0), .agg [.d (.str), .d (.int .i64), .d (.sl [.int .i64, .int .i64, .str])]]))) := (outTwo (outOne 0 .ret [2] [] [.one (.d (.bool))]) (outOne 0 (.exit 0) [1] [144] [.one (.ptr 144 0), .agg [.d (.str), .d (.int .i64), .d (.sl [.int .i64, .int .i64, .str])]]))
noncomputable def b_32_0 (N : Nat) (ih : TAs sh_32_0 → Option (((TAs [.one (.d (.bool))]) ⊕ (TAs [.one (.ptr 144 0), .agg [.d (.str), .d (.int .i64), .d (.sl [.int .i64, .int .i64, .str])]])))) : TAs sh_32_0 → Option (((TAs [.one (.d (.bool))]) ⊕ (TAs [.one (.ptr 144 0), .agg [.d (.str), .d (.int .i64), .d (.sl [.int .i64, .int .i64, .str])]]))) := fun (_, y4, (y5, y6, y7)) =>
  (bif (decide (y4 < (List.length y7 : Int))) then (bif (decide (0 ≤ y4 ∧ y4 < (List.length y7 : Int))) then ((f_68 N ((List.getD y7 (Int.toNat y4) (0, 0, ByteArray.empty)).2.2)).bind fun r8 => (bif (!r8) then (some (.inl false)) else ((f_69 N ((List.getD y7 (Int.toNat y4) (0, 0, ByteArray.empty)).2.1)).bind fun r9 => (bif (!r9) then (some (.inl false)) else (bif (decide ((List.getD y7 (Int.toNat y4) (0, 0, ByteArray.empty)).1 < (-1099511627776))) then (some (.inl false)) else (bif (decide ((List.getD y7 (Int.toNat y4) (0, 0, ByteArray.empty)).1 > 1099511627776)) then (some (.inl false)) else (bif (decide (y4 > 0)) then (bif (decide (0 ≤ (IntKind.i64.wrap (y4 - 1)) ∧ (IntKind.i64.wrap (y4 - 1)) < (List.length y7 : Int))) then (bif (decide ((List.getD y7 (Int.toNat y4) (0, 0, ByteArray.empty)).1 ≤ (List.getD y7 (Int.toNat (IntKind.i64.wrap (y4 - 1))) (0, 0, ByteArray.empty)).1)) then (some (.inl false)) else (ih ((), (IntKind.i64.wrap (y4 + 1)), (y5, y6, y7)))) else none) else (ih ((), (IntKind.i64.wrap (y4 + 1)), (y5, y6, y7)))))))))) else none) else (some (.inr ((), (y5, y6, y7)))))
noncomputable def l_32_0 (N : Nat) : TAs sh_32_0 → Option (((TAs [.one (.d (.bool))]) ⊕ (TAs [.one (.ptr 144 0), .agg [.d (.str), .d (.int .i64), .d (.sl [.int .i64, .int .i64, .str])]]))) := iter (b_32_0 N) N
noncomputable def lp_32_0 (_ : Nat) : Nat → Option LSum := lookL []
noncomputable def L_32_0 (N : Nat) : LSum := loopSum [1, 3] [144] sh_32_0 o_32_0 (l_32_0 N)
theorem b_ok_32_0 (N : Nat) (ih : TAs sh_32_0 → Option (((TAs [.one (.d (.bool))]) ⊕ (TAs [.one (.ptr 144 0), .agg [.d (.str), .d (.int .i64), .d (.sl [.int .i64, .int .i64, .str])]])))) (p : TAs sh_32_0) : b_32_0 N ih p = exec (X_32 N) Go.Proofs.Tryz.f32.ntmps (lp_32_0 N) cb_32_0 0 (roundK [1, 3] [144] sh_32_0 o_32_0 ih) (stOf [1, 3] [144] sh_32_0 p) := by kernel_rfl
theorem L_ok_32_0 (N : Nat) : SegOk Go.Proofs.Tryz.prog laidL 0 Go.Proofs.Tryz.f32.ntmps nd_32_0 (L_32_0 N) :=
  ne_32_0 ▸ loop_ok (cur := 0) (lp := lp_32_0 N) (x_32 N) (fun n => iter (b_32_0 N) n) (fun _ => rfl) (fun n p => b_ok_32_0 N (iter (b_32_0 N) n) p) (loopsAll (by kernel_rfl) (lookOk_nil)) N
noncomputable def lp_32 (N : Nat) : Nat → Option LSum := lookL [(0, L_32_0 N)]
noncomputable def f_32 (N : Nat) (x1 : ByteArray) (x2 : Int) (x3 : List (Int × Int × ByteArray)) : Option (TAs [.one (.d (.bool))]) :=
  ((l_32_0 N ((), 0, (x1, x2, x3))).bind fun q => (match q with | .inl q10 => (some q10) | .inr q11 => ((f_68 N q11.2.1).bind fun r12 => (bif r12 then ((f_69 N q11.2.2.1).bind fun r13 => (bif r13 then (some (decide ((List.length q11.2.2.2 : Int) ≤ 32))) else (some false))) else (some false)))))
theorem ok_32 (N : Nat) (x1 : ByteArray) (x2 : Int) (x3 : List (Int × Int × ByteArray)) : f_32 N x1 x2 x3 = exec (X_32 N) Go.Proofs.Tryz.f32.ntmps (lp_32 N) c_32 0 (fnK (X_32 N) Go.Proofs.Tryz.f32.results.toList 0 [.one (.d (.bool))]) (fnSt 1 0 [.agg [.d (.str), .d (.int .i64), .d (.sl [.int .i64, .int .i64, .str])]] (x1, x2, x3)) := by kernel_rfl
noncomputable def S_32 (N : Nat) : Sum := fnSum 1 0 1 [.agg [.d (.str), .d (.int .i64), .d (.sl [.int .i64, .int .i64, .str])]] [.one (.d (.bool))] (fun p => f_32 N p.1 p.2.1 p.2.2)
theorem s_32 (N : Nat) : SumOk Go.Proofs.Tryz.prog laidL 32 (S_32 N) :=
  fn_ok (lp := lp_32 N) (x_32 N) Go.Proofs.Tryz.func32 (c := c_32) (by kernel_rfl) (by kernel_rfl) rfl (fun p => ok_32 N p.1 p.2.1 p.2.2) (loopsAll (by kernel_rfl) ((lookOk_cons (L_ok_32_0 N) lookOk_nil)))
noncomputable def X_33 (N : Nat) : Ctx := ⟨tyT, lookF [(34, (S_34 N))], eqT, fun _ => false⟩
noncomputable def c_33 : Code := bodyOf Go.Proofs.Tryz.f33
theorem x_33 (N : Nat) : CtxOk Go.Proofs.Tryz.prog laidL (X_33 N) := ⟨tyOk, eqOk, fun _ _ => (fnsOk_cons (s_34 N) fnsOk_nil).get, by kernel_rfl⟩
noncomputable def lp_33 (_ : Nat) : Nat → Option LSum := lookL []
noncomputable def f_33 (N : Nat) (x1 : List Int) (x2 : ByteArray) : Option (TAs [.one (.slt [.int .u8] 5 1), .one (.d (.int .i64))]) :=
  (bif (decide ((ByteArray.size x2 : Int) > 255)) then (some (([] : List Int), 5)) else ((f_34 N x1 (IntKind.u64.wrap (ByteArray.size x2 : Int)) 1).bind fun r3 => (bif (decide (ByteArray.size x2 ≤ 140737488355328)) then (bif (decide ((List.length r3 + List.length (bytesL x2)) * 1 ≤ 140737488355328)) then (some ((r3 ++ (bytesL x2)), 0)) else none) else none)))
theorem ok_33 (N : Nat) (x1 : List Int) (x2 : ByteArray) : f_33 N x1 x2 = exec (X_33 N) Go.Proofs.Tryz.f33.ntmps (lp_33 N) c_33 0 (fnK (X_33 N) Go.Proofs.Tryz.f33.results.toList 0 [.one (.slt [.int .u8] 5 1), .one (.d (.int .i64))]) (fnSt 2 0 [.one (.d (.sl [.int .u8])), .one (.d (.str))] (x1, x2)) := by kernel_rfl
noncomputable def S_33 (N : Nat) : Sum := fnSum 2 0 2 [.one (.d (.sl [.int .u8])), .one (.d (.str))] [.one (.slt [.int .u8] 5 1), .one (.d (.int .i64))] (fun p => f_33 N p.1 p.2)
theorem s_33 (N : Nat) : SumOk Go.Proofs.Tryz.prog laidL 33 (S_33 N) :=
  fn_ok (lp := lp_33 N) (x_33 N) Go.Proofs.Tryz.func33 (c := c_33) (by kernel_rfl) (by kernel_rfl) rfl (fun p => ok_33 N p.1 p.2) (loopsAll (by kernel_rfl) (lookOk_nil))
noncomputable def X_37 (_ : Nat) : Ctx := ⟨tyT, lookF [(73, cl_73)], eqT, fun _ => false⟩
noncomputable def c_37 : Code := bodyOf Go.Proofs.Tryz.f37
theorem x_37 (N : Nat) : CtxOk Go.Proofs.Tryz.prog laidL (X_37 N) := ⟨tyOk, eqOk, fun _ _ => (fnsOk_cons cl_73_ok fnsOk_nil).get, by kernel_rfl⟩
noncomputable def lp_37 (_ : Nat) : Nat → Option LSum := lookL []
noncomputable def f_37 (_ : Nat) (x1 : List Int) : Option (TAs [.one (.ptr 0 0), .agg [.slt [.int .u8] 5 1, .d (.bool)]]) :=
  ((cloneF [.int .u8] 1 x1).bind fun r2 => (some ((), (r2, false))))
theorem ok_37 (N : Nat) (x1 : List Int) : f_37 N x1 = exec (X_37 N) Go.Proofs.Tryz.f37.ntmps (lp_37 N) c_37 0 (fnK (X_37 N) Go.Proofs.Tryz.f37.results.toList 0 [.one (.ptr 0 0), .agg [.slt [.int .u8] 5 1, .d (.bool)]]) (fnSt 1 0 [.one (.d (.sl [.int .u8]))] x1) := by kernel_rfl
noncomputable def S_37 (N : Nat) : Sum := fnSum 1 0 1 [.one (.d (.sl [.int .u8]))] [.one (.ptr 0 0), .agg [.slt [.int .u8] 5 1, .d (.bool)]] (fun p => f_37 N p)
theorem s_37 (N : Nat) : SumOk Go.Proofs.Tryz.prog laidL 37 (S_37 N) :=
  fn_ok (lp := lp_37 N) (x_37 N) Go.Proofs.Tryz.func37 (c := c_37) (by kernel_rfl) (by kernel_rfl) rfl (fun p => ok_37 N p) (loopsAll (by kernel_rfl) (lookOk_nil))
noncomputable def X_38 (N : Nat) : Ctx := ⟨tyT, lookF [(40, (S_40 N)), (74, (S_74 N))], eqT, fun _ => false⟩
noncomputable def c_38 : Code := bodyOf Go.Proofs.Tryz.f38
theorem x_38 (N : Nat) : CtxOk Go.Proofs.Tryz.prog laidL (X_38 N) := ⟨tyOk, eqOk, fun _ _ => (fnsOk_cons (s_40 N) (fnsOk_cons (s_74 N) fnsOk_nil)).get, by kernel_rfl⟩
noncomputable def lp_38 (_ : Nat) : Nat → Option LSum := lookL []
noncomputable def f_38 (N : Nat) (x1 : List Int) (x2 : Bool) : Option (TAs [.one (.d (.str)), .agg [.d (.sl [.int .u8]), .d (.bool)]]) :=
  ((f_40 N x1 x2).bind fun r3 => ((f_74 N (IntKind.i64.wrap r3.1) r3.2.1 r3.2.2).bind fun r4 => (some ((bytesS r4.1), (r4.2.1, r4.2.2)))))
theorem ok_38 (N : Nat) (x1 : List Int) (x2 : Bool) : f_38 N x1 x2 = exec (X_38 N) Go.Proofs.Tryz.f38.ntmps (lp_38 N) c_38 0 (fnK (X_38 N) Go.Proofs.Tryz.f38.results.toList 1 [.one (.d (.str)), .agg [.d (.sl [.int .u8]), .d (.bool)]]) (fnSt 1 1 [.one (.ptr 0 0), .agg [.d (.sl [.int .u8]), .d (.bool)]] ((), (x1, x2))) := by kernel_rfl
noncomputable def S_38 (N : Nat) : Sum := fnSum 1 1 1 [.one (.ptr 0 0), .agg [.d (.sl [.int .u8]), .d (.bool)]] [.one (.d (.str)), .agg [.d (.sl [.int .u8]), .d (.bool)]] (fun p => f_38 N p.2.1 p.2.2)
theorem s_38 (N : Nat) : SumOk Go.Proofs.Tryz.prog laidL 38 (S_38 N) :=
  fn_ok (lp := lp_38 N) (x_38 N) Go.Proofs.Tryz.func38 (c := c_38) (by kernel_rfl) (by kernel_rfl) rfl (fun p => ok_38 N p.2.1 p.2.2) (loopsAll (by kernel_rfl) (lookOk_nil))
noncomputable def X_43 (N : Nat) : Ctx := ⟨tyT, lookF [(44, (S_44 N))], eqT, fun _ => false⟩
noncomputable def c_43 : Code := bodyOf Go.Proofs.Tryz.f43
theorem x_43 (N : Nat) : CtxOk Go.Proofs.Tryz.prog laidL (X_43 N) := ⟨tyOk, eqOk, fun _ _ => (fnsOk_cons (s_44 N) fnsOk_nil).get, by kernel_rfl⟩
noncomputable def lp_43 (_ : Nat) : Nat → Option LSum := lookL []
noncomputable def f_43 (N : Nat) (x1 : List Int) (x2 : Bool) : Option (TAs [.agg [.d (.sl [.int .u8]), .d (.bool)], .one (.d (.str))]) :=
  ((f_44 N x1 x2 1).bind fun r3 => (bif r3.1.2 then (some ((([] : List Int), true), ⟨#[]⟩)) else (bif (decide ((IntKind.u64.wrap (List.length r3.1.1 : Int)) < r3.2)) then (some ((([] : List Int), true), ⟨#[]⟩)) else (bif (decide (0 ≤ (List.length r3.1.1 : Int) ∧ (List.length r3.1.1 : Int) ≤ (List.length r3.1.1 : Int))) then (bif (decide (0 ≤ r3.2 ∧ r3.2 ≤ (List.length r3.1.1 : Int))) then (bif (decide (0 ≤ r3.2 ∧ r3.2 ≤ (List.length r3.1.1 : Int))) then (bif (decide (0 ≤ (0 : Int) ∧ (0 : Int) ≤ r3.2)) then (some (((List.drop (Int.toNat r3.2) (List.take (Int.toNat (List.length r3.1.1 : Int)) r3.1.1)), false), (bytesS (List.drop (Int.toNat (0 : Int)) (List.take (Int.toNat r3.2) r3.1.1))))) else none) else none) else none) else none))))
theorem ok_43 (N : Nat) (x1 : List Int) (x2 : Bool) : f_43 N x1 x2 = exec (X_43 N) Go.Proofs.Tryz.f43.ntmps (lp_43 N) c_43 0 (fnK (X_43 N) Go.Proofs.Tryz.f43.results.toList 0 [.agg [.d (.sl [.int .u8]), .d (.bool)], .one (.d (.str))]) (fnSt 1 0 [.agg [.d (.sl [.int .u8]), .d (.bool)]] (x1, x2)) := by kernel_rfl
noncomputable def S_43 (N : Nat) : Sum := fnSum 1 0 2 [.agg [.d (.sl [.int .u8]), .d (.bool)]] [.agg [.d (.sl [.int .u8]), .d (.bool)], .one (.d (.str))] (fun p => f_43 N p.1 p.2)
theorem s_43 (N : Nat) : SumOk Go.Proofs.Tryz.prog laidL 43 (S_43 N) :=
  fn_ok (lp := lp_43 N) (x_43 N) Go.Proofs.Tryz.func43 (c := c_43) (by kernel_rfl) (by kernel_rfl) rfl (fun p => ok_43 N p.1 p.2) (loopsAll (by kernel_rfl) (lookOk_nil))
noncomputable def X_64 (_ : Nat) : Ctx := ⟨tyT, lookF [(73, cl_73)], eqT, fun _ => false⟩
noncomputable def c_64 : Code := bodyOf Go.Proofs.Tryz.f64
theorem x_64 (N : Nat) : CtxOk Go.Proofs.Tryz.prog laidL (X_64 N) := ⟨tyOk, eqOk, fun _ _ => (fnsOk_cons cl_73_ok fnsOk_nil).get, by kernel_rfl⟩
noncomputable def nd_64_0 : Code := loopAt 0 0 c_64
noncomputable def cb_64_0 : Code := unloop nd_64_0
theorem ne_64_0 : nd_64_0 = .loop cb_64_0 := by kernel_rfl
noncomputable def sh_64_0 : List ShA := [.one (.d (.int .u64)), .one (.slt [.int .u8] 5 1), .one (.d (.int .i64)), .one (.d (.int .i64))]
noncomputable def o_64_0 : OutK 0 (TAs [.one (.slt [.int .u8] 5 1)]) := (outOne 0 (.exit 0) [7] [] [.one (.slt [.int .u8] 5 1)])
noncomputable def b_64_0 (_ : Nat) (ih : TAs sh_64_0 → Option (TAs [.one (.slt [.int .u8] 5 1)])) : TAs sh_64_0 → Option (TAs [.one (.slt [.int .u8] 5 1)]) := fun (y5, y6, y7, y8) =>
  (bif (decide (y8 < y7)) then (bif (decide ((IntKind.i64.wrap (8 * y8)) < 0)) then none else (bif (decide ((List.length y6 + List.length ([(IntKind.u8.wrap (y5 / 2 ^ (min (Int.toNat (IntKind.i64.wrap (8 * y8))) IntKind.u64.bits)))] : List Int)) * 1 ≤ 140737488355328)) then (ih (y5, (y6 ++ ([(IntKind.u8.wrap (y5 / 2 ^ (min (Int.toNat (IntKind.i64.wrap (8 * y8))) IntKind.u64.bits)))] : List Int)), y7, (IntKind.i64.wrap (y8 + 1)))) else none)) else (some (y6)))
noncomputable def l_64_0 (N : Nat) : TAs sh_64_0 → Option (TAs [.one (.slt [.int .u8] 5 1)]) := iter (b_64_0 N) N
noncomputable def lp_64_0 (_ : Nat) : Nat → Option LSum := lookL []
noncomputable def L_64_0 (N : Nat) : LSum := loopSum [1, 7, 11, 12] [] sh_64_0 o_64_0 (l_64_0 N)
theorem b_ok_64_0 (N : Nat) (ih : TAs sh_64_0 → Option (TAs [.one (.slt [.int .u8] 5 1)])) (p : TAs sh_64_0) : b_64_0 N ih p = exec (X_64 N) Go.Proofs.Tryz.f64.ntmps (lp_64_0 N) cb_64_0 0 (roundK [1, 7, 11, 12] [] sh_64_0 o_64_0 ih) (stOf [1, 7, 11, 12] [] sh_64_0 p) := by kernel_rfl
theorem L_ok_64_0 (N : Nat) : SegOk Go.Proofs.Tryz.prog laidL 0 Go.Proofs.Tryz.f64.ntmps nd_64_0 (L_64_0 N) :=
  ne_64_0 ▸ loop_ok (cur := 0) (lp := lp_64_0 N) (x_64 N) (fun n => iter (b_64_0 N) n) (fun _ => rfl) (fun n p => b_ok_64_0 N (iter (b_64_0 N) n) p) (loopsAll (by kernel_rfl) (lookOk_nil)) N
noncomputable def lp_64 (N : Nat) : Nat → Option LSum := lookL [(0, L_64_0 N)]
noncomputable def f_64 (N : Nat) (x1 : List Int) (x2 : Int) (x3 : Int) : Option (TAs [.one (.slt [.int .u8] 5 1)]) :=
  ((cloneF [.int .u8] 1 x1).bind fun r4 => ((l_64_0 N (x2, r4, x3, 0)).bind fun q9 => (some q9)))
theorem ok_64 (N : Nat) (x1 : List Int) (x2 : Int) (x3 : Int) : f_64 N x1 x2 x3 = exec (X_64 N) Go.Proofs.Tryz.f64.ntmps (lp_64 N) c_64 0 (fnK (X_64 N) Go.Proofs.Tryz.f64.results.toList 0 [.one (.slt [.int .u8] 5 1)]) (fnSt 3 0 [.one (.d (.sl [.int .u8])), .one (.d (.int .u64)), .one (.d (.int .i64))] (x1, x2, x3)) := by kernel_rfl
noncomputable def S_64 (N : Nat) : Sum := fnSum 3 0 1 [.one (.d (.sl [.int .u8])), .one (.d (.int .u64)), .one (.d (.int .i64))] [.one (.slt [.int .u8] 5 1)] (fun p => f_64 N p.1 p.2.1 p.2.2)
theorem s_64 (N : Nat) : SumOk Go.Proofs.Tryz.prog laidL 64 (S_64 N) :=
  fn_ok (lp := lp_64 N) (x_64 N) Go.Proofs.Tryz.func64 (c := c_64) (by kernel_rfl) (by kernel_rfl) rfl (fun p => ok_64 N p.1 p.2.1 p.2.2) (loopsAll (by kernel_rfl) ((lookOk_cons (L_ok_64_0 N) lookOk_nil)))
noncomputable def X_70 (N : Nat) : Ctx := ⟨tyT, lookF [(88, (S_88 N))], eqT, fun _ => false⟩
noncomputable def c_70 : Code := bodyOf Go.Proofs.Tryz.f70
theorem x_70 (N : Nat) : CtxOk Go.Proofs.Tryz.prog laidL (X_70 N) := ⟨tyOk, eqOk, fun _ _ => (fnsOk_cons (s_88 N) fnsOk_nil).get, by kernel_rfl⟩
noncomputable def nd_70_0 : Code := loopAt 0 0 c_70
noncomputable def cb_70_0 : Code := unloop nd_70_0
theorem ne_70_0 : nd_70_0 = .loop cb_70_0 := by kernel_rfl
noncomputable def sh_70_0 : List ShA := [.one (.d (.int .u32)), .one (.slt [.int .u8] 5 1), .one (.d (.int .i64))]
noncomputable def o_70_0 : OutK 0 (TAs [.one (.slt [.int .u8] 5 1)]) := (outOne 0 (.exit 0) [4] [] [.one (.slt [.int .u8] 5 1)])
noncomputable def b_70_0 (_ : Nat) (ih : TAs sh_70_0 → Option (TAs [.one (.slt [.int .u8] 5 1)])) : TAs sh_70_0 → Option (TAs [.one (.slt [.int .u8] 5 1)]) := fun (y3, y4, y5) =>
  (bif (decide (y5 < 4)) then (bif (decide ((List.length y4 + List.length ([(IntKind.u8.wrap (Int.tmod y3 256))] : List Int)) * 1 ≤ 140737488355328)) then (ih ((IntKind.u32.wrap (Int.tdiv y3 256)), (y4 ++ ([(IntKind.u8.wrap (Int.tmod y3 256))] : List Int)), (IntKind.i64.wrap (y5 + 1)))) else none) else (some (y4)))
noncomputable def l_70_0 (N : Nat) : TAs sh_70_0 → Option (TAs [.one (.slt [.int .u8] 5 1)]) := iter (b_70_0 N) N
noncomputable def lp_70_0 (_ : Nat) : Nat → Option LSum := lookL []
noncomputable def L_70_0 (N : Nat) : LSum := loopSum [3, 4, 5] [] sh_70_0 o_70_0 (l_70_0 N)
theorem b_ok_70_0 (N : Nat) (ih : TAs sh_70_0 → Option (TAs [.one (.slt [.int .u8] 5 1)])) (p : TAs sh_70_0) : b_70_0 N ih p = exec (X_70 N) Go.Proofs.Tryz.f70.ntmps (lp_70_0 N) cb_70_0 0 (roundK [3, 4, 5] [] sh_70_0 o_70_0 ih) (stOf [3, 4, 5] [] sh_70_0 p) := by kernel_rfl
theorem L_ok_70_0 (N : Nat) : SegOk Go.Proofs.Tryz.prog laidL 0 Go.Proofs.Tryz.f70.ntmps nd_70_0 (L_70_0 N) :=
  ne_70_0 ▸ loop_ok (cur := 0) (lp := lp_70_0 N) (x_70 N) (fun n => iter (b_70_0 N) n) (fun _ => rfl) (fun n p => b_ok_70_0 N (iter (b_70_0 N) n) p) (loopsAll (by kernel_rfl) (lookOk_nil)) N
noncomputable def lp_70 (N : Nat) : Nat → Option LSum := lookL [(0, L_70_0 N)]
noncomputable def f_70 (N : Nat) (x1 : List Int) : Option (TAs [.one (.slt [.int .u8] 5 1)]) :=
  ((f_88 N x1).bind fun r2 => (bif (decide ((List.length ([] : List Int) + List.length x1) * 1 ≤ 140737488355328)) then ((l_70_0 N (r2, (([] : List Int) ++ x1), 0)).bind fun q6 => (some q6)) else none))
theorem ok_70 (N : Nat) (x1 : List Int) : f_70 N x1 = exec (X_70 N) Go.Proofs.Tryz.f70.ntmps (lp_70 N) c_70 0 (fnK (X_70 N) Go.Proofs.Tryz.f70.results.toList 0 [.one (.slt [.int .u8] 5 1)]) (fnSt 1 0 [.one (.d (.sl [.int .u8]))] x1) := by kernel_rfl
noncomputable def S_70 (N : Nat) : Sum := fnSum 1 0 1 [.one (.d (.sl [.int .u8]))] [.one (.slt [.int .u8] 5 1)] (fun p => f_70 N p)
theorem s_70 (N : Nat) : SumOk Go.Proofs.Tryz.prog laidL 70 (S_70 N) :=
  fn_ok (lp := lp_70 N) (x_70 N) Go.Proofs.Tryz.func70 (c := c_70) (by kernel_rfl) (by kernel_rfl) rfl (fun p => ok_70 N p) (loopsAll (by kernel_rfl) ((lookOk_cons (L_ok_70_0 N) lookOk_nil)))
noncomputable def X_71 (N : Nat) : Ctx := ⟨tyT, lookF [(65, (S_65 N)), (37, (S_37 N)), (51, (S_51 N))], eqT, fun _ => false⟩
noncomputable def c_71 : Code := bodyOf Go.Proofs.Tryz.f71
theorem x_71 (N : Nat) : CtxOk Go.Proofs.Tryz.prog laidL (X_71 N) := ⟨tyOk, eqOk, fun _ _ => (fnsOk_cons (s_65 N) (fnsOk_cons (s_37 N) (fnsOk_cons (s_51 N) fnsOk_nil))).get, by kernel_rfl⟩
noncomputable def lp_71 (_ : Nat) : Nat → Option LSum := lookL []
noncomputable def f_71 (N : Nat) (x1 : List Int) : Option (TAs [.one (.d (.int .u8)), .one (.d (.int .i64)), .one (.d (.err 88))]) :=
  (bif (decide ((List.length x1 : Int) < 5)) then (some (0, 0, (some 3))) else (bif (decide (0 ≤ (2 : Int) ∧ (2 : Int) ≤ (List.length x1 : Int))) then (bif (decide (0 ≤ (0 : Int) ∧ (0 : Int) ≤ (2 : Int))) then (bif (!((ByteArray.toList (bytesS (List.drop (Int.toNat (0 : Int)) (List.take (Int.toNat (2 : Int)) x1)))) == (ByteArray.toList (⟨#[116, 109]⟩ : ByteArray)))) then (some (0, 0, (some 3))) else (bif (decide (0 ≤ (2 : Int) ∧ (2 : Int) < (List.length x1 : Int))) then ((f_65 N (List.getD x1 (Int.toNat 2) 0)).bind fun r2 => (bif (!r2) then (some (0, 0, (some 3))) else (bif (decide (0 ≤ (5 : Int) ∧ (5 : Int) ≤ (List.length x1 : Int))) then (bif (decide (0 ≤ (3 : Int) ∧ (3 : Int) ≤ (5 : Int))) then ((f_37 N (List.drop (Int.toNat (3 : Int)) (List.take (Int.toNat (5 : Int)) x1))).bind fun r3 => ((f_51 N r3.2.1 r3.2.2).bind fun r4 => (bif (decide ((IntKind.i64.wrap r4.1) > 1024)) then (some (0, 0, (some 3))) else (bif (decide (0 ≤ (2 : Int) ∧ (2 : Int) < (List.length x1 : Int))) then (some ((List.getD x1 (Int.toNat 2) 0), (IntKind.i64.wrap ((IntKind.i64.wrap (5 + (IntKind.i64.wrap r4.1))) + 4)), none)) else none)))) else none) else none))) else none)) else none) else none))
theorem ok_71 (N : Nat) (x1 : List Int) : f_71 N x1 = exec (X_71 N) Go.Proofs.Tryz.f71.ntmps (lp_71 N) c_71 0 (fnK (X_71 N) Go.Proofs.Tryz.f71.results.toList 0 [.one (.d (.int .u8)), .one (.d (.int .i64)), .one (.d (.err 88))]) (fnSt 1 0 [.one (.d (.sl [.int .u8]))] x1) := by kernel_rfl
noncomputable def S_71 (N : Nat) : Sum := fnSum 1 0 3 [.one (.d (.sl [.int .u8]))] [.one (.d (.int .u8)), .one (.d (.int .i64)), .one (.d (.err 88))] (fun p => f_71 N p)
theorem s_71 (N : Nat) : SumOk Go.Proofs.Tryz.prog laidL 71 (S_71 N) :=
  fn_ok (lp := lp_71 N) (x_71 N) Go.Proofs.Tryz.func71 (c := c_71) (by kernel_rfl) (by kernel_rfl) rfl (fun p => ok_71 N p) (loopsAll (by kernel_rfl) (lookOk_nil))
noncomputable def X_77 (N : Nat) : Ctx := ⟨tyT, lookF [(70, (S_70 N))], eqT, fun _ => false⟩
noncomputable def c_77 : Code := bodyOf Go.Proofs.Tryz.f77
theorem x_77 (N : Nat) : CtxOk Go.Proofs.Tryz.prog laidL (X_77 N) := ⟨tyOk, eqOk, fun _ _ => (fnsOk_cons (s_70 N) fnsOk_nil).get, by kernel_rfl⟩
noncomputable def lp_77 (_ : Nat) : Nat → Option LSum := lookL []
noncomputable def f_77 (N : Nat) (x1 : List Int) : Option (TAs [.one (.d (.sl [.int .u8])), .one (.d (.int .i64))]) :=
  (bif (decide ((IntKind.i64.wrap ((List.length x1 : Int) - 4)) < 0)) then (some (([] : List Int), 4)) else (bif (decide (0 ≤ (IntKind.i64.wrap ((List.length x1 : Int) - 4)) ∧ (IntKind.i64.wrap ((List.length x1 : Int) - 4)) ≤ (List.length x1 : Int))) then (bif (decide (0 ≤ (0 : Int) ∧ (0 : Int) ≤ (IntKind.i64.wrap ((List.length x1 : Int) - 4)))) then ((f_70 N (List.drop (Int.toNat (0 : Int)) (List.take (Int.toNat (IntKind.i64.wrap ((List.length x1 : Int) - 4))) x1))).bind fun r2 => (bif (!((ByteArray.toList (bytesS r2)) == (ByteArray.toList (bytesS x1)))) then (some (([] : List Int), 4)) else (bif (decide (0 ≤ (IntKind.i64.wrap ((List.length x1 : Int) - 4)) ∧ (IntKind.i64.wrap ((List.length x1 : Int) - 4)) ≤ (List.length x1 : Int))) then (bif (decide (0 ≤ (0 : Int) ∧ (0 : Int) ≤ (IntKind.i64.wrap ((List.length x1 : Int) - 4)))) then (some ((List.drop (Int.toNat (0 : Int)) (List.take (Int.toNat (IntKind.i64.wrap ((List.length x1 : Int) - 4))) x1)), 0)) else none) else none))) else none) else none))
theorem ok_77 (N : Nat) (x1 : List Int) : f_77 N x1 = exec (X_77 N) Go.Proofs.Tryz.f77.ntmps (lp_77 N) c_77 0 (fnK (X_77 N) Go.Proofs.Tryz.f77.results.toList 0 [.one (.d (.sl [.int .u8])), .one (.d (.int .i64))]) (fnSt 1 0 [.one (.d (.sl [.int .u8]))] x1) := by kernel_rfl
noncomputable def S_77 (N : Nat) : Sum := fnSum 1 0 2 [.one (.d (.sl [.int .u8]))] [.one (.d (.sl [.int .u8])), .one (.d (.int .i64))] (fun p => f_77 N p)
theorem s_77 (N : Nat) : SumOk Go.Proofs.Tryz.prog laidL 77 (S_77 N) :=
  fn_ok (lp := lp_77 N) (x_77 N) Go.Proofs.Tryz.func77 (c := c_77) (by kernel_rfl) (by kernel_rfl) rfl (fun p => ok_77 N p) (loopsAll (by kernel_rfl) (lookOk_nil))
noncomputable def X_84 (N : Nat) : Ctx := ⟨tyT, lookF [(94, (S_94 N))], eqT, fun _ => false⟩
noncomputable def c_84 : Code := bodyOf Go.Proofs.Tryz.f84
theorem x_84 (N : Nat) : CtxOk Go.Proofs.Tryz.prog laidL (X_84 N) := ⟨tyOk, eqOk, fun _ _ => (fnsOk_cons (s_94 N) fnsOk_nil).get, by kernel_rfl⟩
noncomputable def lp_84 (_ : Nat) : Nat → Option LSum := lookL []
noncomputable def f_84 (N : Nat) (x1 : Int) (x2 : Int) : Option (TAs [.one (.d (.int .i64))]) :=
  ((f_94 N x1).bind fun r3 => ((f_94 N x2).bind fun r4 => (bif r3 then (bif r4 then (some 0) else (some (-1))) else (bif r4 then (some 1) else (bif (decide (x1 < x2)) then (some (-1)) else (bif (decide (x1 > x2)) then (some 1) else (some 0)))))))
theorem ok_84 (N : Nat) (x1 : Int) (x2 : Int) : f_84 N x1 x2 = exec (X_84 N) Go.Proofs.Tryz.f84.ntmps (lp_84 N) c_84 0 (fnK (X_84 N) Go.Proofs.Tryz.f84.results.toList 0 [.one (.d (.int .i64))]) (fnSt 2 0 [.one (.d (.int .i64)), .one (.d (.int .i64))] (x1, x2)) := by kernel_rfl
noncomputable def S_84 (N : Nat) : Sum := fnSum 2 0 1 [.one (.d (.int .i64)), .one (.d (.int .i64))] [.one (.d (.int .i64))] (fun p => f_84 N p.1 p.2)
theorem s_84 (N : Nat) : SumOk Go.Proofs.Tryz.prog laidL 84 (S_84 N) :=
  fn_ok (lp := lp_84 N) (x_84 N) Go.Proofs.Tryz.func84 (c := c_84) (by kernel_rfl) (by kernel_rfl) rfl (fun p => ok_84 N p.1 p.2) (loopsAll (by kernel_rfl) (lookOk_nil))
noncomputable def X_99 (N : Nat) : Ctx := ⟨tyT, lookF [(104, (S_104 N))], eqT, fun _ => false⟩
noncomputable def c_99 : Code := bodyOf Go.Proofs.Tryz.f99
theorem x_99 (N : Nat) : CtxOk Go.Proofs.Tryz.prog laidL (X_99 N) := ⟨tyOk, eqOk, fun _ _ => (fnsOk_cons (s_104 N) fnsOk_nil).get, by kernel_rfl⟩
noncomputable def nd_99_0 : Code := loopAt 0 0 c_99
noncomputable def cb_99_0 : Code := unloop nd_99_0
theorem ne_99_0 : nd_99_0 = .loop cb_99_0 := by kernel_rfl
noncomputable def sh_99_0 : List ShA := [.one (.d (.int .u32)), .one (.d (.sl [.int .u8])), .one (.d (.int .i64)), .one (.d (.int .i64))]
noncomputable def o_99_0 : OutK 0 (TAs [.one (.d (.int .u32))]) := (outOne 0 (.exit 0) [5] [] [.one (.d (.int .u32))])
noncomputable def b_99_0 (N : Nat) (ih : TAs sh_99_0 → Option (TAs [.one (.d (.int .u32))])) : TAs sh_99_0 → Option (TAs [.one (.d (.int .u32))]) := fun (y3, y4, y5, y6) =>
  (bif (decide (y6 < y5)) then (bif (decide (0 ≤ y6 ∧ y6 < (List.length y4 : Int))) then ((f_104 N y3 (List.getD y4 (Int.toNat y6) 0)).bind fun r7 => (ih (r7, y4, y5, (IntKind.i64.wrap (y6 + 1))))) else none) else (some (y3)))
noncomputable def l_99_0 (N : Nat) : TAs sh_99_0 → Option (TAs [.one (.d (.int .u32))]) := iter (b_99_0 N) N
noncomputable def lp_99_0 (_ : Nat) : Nat → Option LSum := lookL []
noncomputable def L_99_0 (N : Nat) : LSum := loopSum [5, 10, 11, 12] [] sh_99_0 o_99_0 (l_99_0 N)
theorem b_ok_99_0 (N : Nat) (ih : TAs sh_99_0 → Option (TAs [.one (.d (.int .u32))])) (p : TAs sh_99_0) : b_99_0 N ih p = exec (X_99 N) Go.Proofs.Tryz.f99.ntmps (lp_99_0 N) cb_99_0 0 (roundK [5, 10, 11, 12] [] sh_99_0 o_99_0 ih) (stOf [5, 10, 11, 12] [] sh_99_0 p) := by kernel_rfl
theorem L_ok_99_0 (N : Nat) : SegOk Go.Proofs.Tryz.prog laidL 0 Go.Proofs.Tryz.f99.ntmps nd_99_0 (L_99_0 N) :=
  ne_99_0 ▸ loop_ok (cur := 0) (lp := lp_99_0 N) (x_99 N) (fun n => iter (b_99_0 N) n) (fun _ => rfl) (fun n p => b_ok_99_0 N (iter (b_99_0 N) n) p) (loopsAll (by kernel_rfl) (lookOk_nil)) N
noncomputable def lp_99 (N : Nat) : Nat → Option LSum := lookL [(0, L_99_0 N)]
noncomputable def f_99 (N : Nat) (x1 : Int) (x2 : List Int) : Option (TAs [.one (.d (.int .u32))]) :=
  ((l_99_0 N ((ibits .xor .u32 (if IntKind.u32.signed then -1 else IntKind.u32.max) x1), x2, (List.length x2 : Int), 0)).bind fun q8 => (some (ibits .xor .u32 (if IntKind.u32.signed then -1 else IntKind.u32.max) q8)))
theorem ok_99 (N : Nat) (x1 : Int) (x2 : List Int) : f_99 N x1 x2 = exec (X_99 N) Go.Proofs.Tryz.f99.ntmps (lp_99 N) c_99 0 (fnK (X_99 N) Go.Proofs.Tryz.f99.results.toList 0 [.one (.d (.int .u32))]) (fnSt 2 0 [.one (.d (.int .u32)), .one (.d (.sl [.int .u8]))] (x1, x2)) := by kernel_rfl
noncomputable def S_99 (N : Nat) : Sum := fnSum 2 0 1 [.one (.d (.int .u32)), .one (.d (.sl [.int .u8]))] [.one (.d (.int .u32))] (fun p => f_99 N p.1 p.2)
theorem s_99 (N : Nat) : SumOk Go.Proofs.Tryz.prog laidL 99 (S_99 N) :=
  fn_ok (lp := lp_99 N) (x_99 N) Go.Proofs.Tryz.func99 (c := c_99) (by kernel_rfl) (by kernel_rfl) rfl (fun p => ok_99 N p.1 p.2) (loopsAll (by kernel_rfl) ((lookOk_cons (L_ok_99_0 N) lookOk_nil)))
noncomputable def X_23 (N : Nat) : Ctx := ⟨tyT, lookF [(54, (S_54 N)), (55, (S_55 N)), (56, (S_56 N)), (28, (S_28 N))], eqT, fun _ => false⟩
noncomputable def c_23 : Code := bodyOf Go.Proofs.Tryz.f23
theorem x_23 (N : Nat) : CtxOk Go.Proofs.Tryz.prog laidL (X_23 N) := ⟨tyOk, eqOk, fun _ _ => (fnsOk_cons (s_54 N) (fnsOk_cons (s_55 N) (fnsOk_cons (s_56 N) (fnsOk_cons (s_28 N) fnsOk_nil)))).get, by kernel_rfl⟩
noncomputable def nd_23_0 : Code := loopAt 0 0 c_23
noncomputable def cb_23_0 : Code := unloop nd_23_0
theorem ne_23_0 : nd_23_0 = .loop cb_23_0 := by kernel_rfl
noncomputable def sh_23_0 : List ShA := [.agg [.d (.err 88), .d (.err 88), .d (.err 88), .d (.err 88)], .one (.d (.int .i64))]
noncomputable def o_23_0 : OutK 0 (((TAs [.one (.d (.err 88))]) ⊕ (TAs []))) := (outTwo (outOne 0 .ret [2] [] [.one (.d (.err 88))]) (outOne 0 (.exit 0) [] [] []))
noncomputable def b_23_0 (_ : Nat) (ih : TAs sh_23_0 → Option (((TAs [.one (.d (.err 88))]) ⊕ (TAs [])))) : TAs sh_23_0 → Option (((TAs [.one (.d (.err 88))]) ⊕ (TAs []))) := fun ((y15, y16, y17, y18), y19) =>
  (bif (decide (y19 < 4)) then (bif (decide (y19 = (0 : Int))) then (bif (!(Option.isNone y15)) then (some (.inl (some 1))) else (ih ((y15, y16, y17, y18), (IntKind.i64.wrap (y19 + 1))))) else (bif (decide (y19 = (1 : Int))) then (bif (!(Option.isNone y16)) then (some (.inl (some 1))) else (ih ((y15, y16, y17, y18), (IntKind.i64.wrap (y19 + 1))))) else (bif (decide (y19 = (2 : Int))) then (bif (!(Option.isNone y17)) then (some (.inl (some 1))) else (ih ((y15, y16, y17, y18), (IntKind.i64.wrap (y19 + 1))))) else (bif (decide (y19 = (3 : Int))) then (bif (!(Option.isNone y18)) then (some (.inl (some 1))) else (ih ((y15, y16, y17, y18), (IntKind.i64.wrap (y19 + 1))))) else none)))) else (some (.inr ())))
noncomputable def l_23_0 (N : Nat) : TAs sh_23_0 → Option (((TAs [.one (.d (.err 88))]) ⊕ (TAs []))) := iter (b_23_0 N) N
noncomputable def lp_23_0 (_ : Nat) : Nat → Option LSum := lookL []
noncomputable def L_23_0 (N : Nat) : LSum := loopSum [17, 18] [] sh_23_0 o_23_0 (l_23_0 N)
theorem b_ok_23_0 (N : Nat) (ih : TAs sh_23_0 → Option (((TAs [.one (.d (.err 88))]) ⊕ (TAs [])))) (p : TAs sh_23_0) : b_23_0 N ih p = exec (X_23 N) Go.Proofs.Tryz.f23.ntmps (lp_23_0 N) cb_23_0 0 (roundK [17, 18] [] sh_23_0 o_23_0 ih) (stOf [17, 18] [] sh_23_0 p) := by kernel_rfl
theorem L_ok_23_0 (N : Nat) : SegOk Go.Proofs.Tryz.prog laidL 0 Go.Proofs.Tryz.f23.ntmps nd_23_0 (L_23_0 N) :=
  ne_23_0 ▸ loop_ok (cur := 0) (lp := lp_23_0 N) (x_23 N) (fun n => iter (b_23_0 N) n) (fun _ => rfl) (fun n p => b_ok_23_0 N (iter (b_23_0 N) n) p) (loopsAll (by kernel_rfl) (lookOk_nil)) N
noncomputable def lp_23 (N : Nat) : Nat → Option LSum := lookL [(0, L_23_0 N)]
noncomputable def f_23 (N : Nat) (x1 : Int) (x2 : Int) (x3 : Int) (x4 : Int) (x5 : Int) (x6 : Int) (_x7 : Bool) (x8 : ByteArray) (x9 : Int) (x10 : List (Int × Int × ByteArray)) : Option (TAs [.one (.d (.err 88))]) :=
  ((f_54 N x1 x2 x3).bind fun r11 => ((f_55 N x4).bind fun r12 => ((f_56 N x5 x6).bind fun r13 => ((f_28 N x8 x9 x10).bind fun r14 => ((l_23_0 N ((r11, r12, r13, r14), 0)).bind fun q => (match q with | .inl q20 => (some q20) | .inr _ => (some none)))))))
theorem ok_23 (N : Nat) (x1 : Int) (x2 : Int) (x3 : Int) (x4 : Int) (x5 : Int) (x6 : Int) (x7 : Bool) (x8 : ByteArray) (x9 : Int) (x10 : List (Int × Int × ByteArray)) : f_23 N x1 x2 x3 x4 x5 x6 x7 x8 x9 x10 = exec (X_23 N) Go.Proofs.Tryz.f23.ntmps (lp_23 N) c_23 0 (fnK (X_23 N) Go.Proofs.Tryz.f23.results.toList 0 [.one (.d (.err 88))]) (fnSt 1 0 [.agg [.d (.int .i64), .d (.int .i64), .d (.int .i64), .d (.int .i64), .d (.int .i64), .d (.int .i64), .d (.bool), .d (.str), .d (.int .i64), .d (.sl [.int .i64, .int .i64, .str])]] (x1, x2, x3, x4, x5, x6, x7, x8, x9, x10)) := by kernel_rfl
noncomputable def S_23 (N : Nat) : Sum := fnSum 1 0 1 [.agg [.d (.int .i64), .d (.int .i64), .d (.int .i64), .d (.int .i64), .d (.int .i64), .d (.int .i64), .d (.bool), .d (.str), .d (.int .i64), .d (.sl [.int .i64, .int .i64, .str])]] [.one (.d (.err 88))] (fun p => f_23 N p.1 p.2.1 p.2.2.1 p.2.2.2.1 p.2.2.2.2.1 p.2.2.2.2.2.1 p.2.2.2.2.2.2.1 p.2.2.2.2.2.2.2.1 p.2.2.2.2.2.2.2.2.1 p.2.2.2.2.2.2.2.2.2)
theorem s_23 (N : Nat) : SumOk Go.Proofs.Tryz.prog laidL 23 (S_23 N) :=
  fn_ok (lp := lp_23 N) (x_23 N) Go.Proofs.Tryz.func23 (c := c_23) (by kernel_rfl) (by kernel_rfl) rfl (fun p => ok_23 N p.1 p.2.1 p.2.2.1 p.2.2.2.1 p.2.2.2.2.1 p.2.2.2.2.2.1 p.2.2.2.2.2.2.1 p.2.2.2.2.2.2.2.1 p.2.2.2.2.2.2.2.2.1 p.2.2.2.2.2.2.2.2.2) (loopsAll (by kernel_rfl) ((lookOk_cons (L_ok_23_0 N) lookOk_nil)))
noncomputable def X_24 (N : Nat) : Ctx := ⟨tyT, lookF [(57, (S_57 N)), (58, (S_58 N)), (59, (S_59 N)), (32, (S_32 N))], eqT, fun _ => false⟩
noncomputable def c_24 : Code := bodyOf Go.Proofs.Tryz.f24
theorem x_24 (N : Nat) : CtxOk Go.Proofs.Tryz.prog laidL (X_24 N) := ⟨tyOk, eqOk, fun _ _ => (fnsOk_cons (s_57 N) (fnsOk_cons (s_58 N) (fnsOk_cons (s_59 N) (fnsOk_cons (s_32 N) fnsOk_nil)))).get, by kernel_rfl⟩
noncomputable def lp_24 (_ : Nat) : Nat → Option LSum := lookL []
noncomputable def f_24 (N : Nat) (x1 : Int) (x2 : Int) (x3 : Int) (x4 : Int) (x5 : Int) (x6 : Int) (_x7 : Bool) (x8 : ByteArray) (x9 : Int) (x10 : List (Int × Int × ByteArray)) : Option (TAs [.one (.d (.bool))]) :=
  ((f_57 N x1 x2 x3).bind fun r11 => (bif r11 then ((f_58 N x4).bind fun r12 => (bif r12 then ((f_59 N x5 x6).bind fun r13 => (bif r13 then ((f_32 N x8 x9 x10).bind fun r14 => (some r14)) else (some false))) else (some false))) else (some false)))
theorem ok_24 (N : Nat) (x1 : Int) (x2 : Int) (x3 : Int) (x4 : Int) (x5 : Int) (x6 : Int) (x7 : Bool) (x8 : ByteArray) (x9 : Int) (x10 : List (Int × Int × ByteArray)) : f_24 N x1 x2 x3 x4 x5 x6 x7 x8 x9 x10 = exec (X_24 N) Go.Proofs.Tryz.f24.ntmps (lp_24 N) c_24 0 (fnK (X_24 N) Go.Proofs.Tryz.f24.results.toList 0 [.one (.d (.bool))]) (fnSt 1 0 [.agg [.d (.int .i64), .d (.int .i64), .d (.int .i64), .d (.int .i64), .d (.int .i64), .d (.int .i64), .d (.bool), .d (.str), .d (.int .i64), .d (.sl [.int .i64, .int .i64, .str])]] (x1, x2, x3, x4, x5, x6, x7, x8, x9, x10)) := by kernel_rfl
noncomputable def S_24 (N : Nat) : Sum := fnSum 1 0 1 [.agg [.d (.int .i64), .d (.int .i64), .d (.int .i64), .d (.int .i64), .d (.int .i64), .d (.int .i64), .d (.bool), .d (.str), .d (.int .i64), .d (.sl [.int .i64, .int .i64, .str])]] [.one (.d (.bool))] (fun p => f_24 N p.1 p.2.1 p.2.2.1 p.2.2.2.1 p.2.2.2.2.1 p.2.2.2.2.2.1 p.2.2.2.2.2.2.1 p.2.2.2.2.2.2.2.1 p.2.2.2.2.2.2.2.2.1 p.2.2.2.2.2.2.2.2.2)
theorem s_24 (N : Nat) : SumOk Go.Proofs.Tryz.prog laidL 24 (S_24 N) :=
  fn_ok (lp := lp_24 N) (x_24 N) Go.Proofs.Tryz.func24 (c := c_24) (by kernel_rfl) (by kernel_rfl) rfl (fun p => ok_24 N p.1 p.2.1 p.2.2.1 p.2.2.2.1 p.2.2.2.2.1 p.2.2.2.2.2.1 p.2.2.2.2.2.2.1 p.2.2.2.2.2.2.2.1 p.2.2.2.2.2.2.2.2.1 p.2.2.2.2.2.2.2.2.2) (loopsAll (by kernel_rfl) (lookOk_nil))
noncomputable def X_29 (N : Nat) : Ctx := ⟨tyT, lookF [(64, (S_64 N))], eqT, fun _ => false⟩
noncomputable def c_29 : Code := bodyOf Go.Proofs.Tryz.f29
theorem x_29 (N : Nat) : CtxOk Go.Proofs.Tryz.prog laidL (X_29 N) := ⟨tyOk, eqOk, fun _ _ => (fnsOk_cons (s_64 N) fnsOk_nil).get, by kernel_rfl⟩
noncomputable def lp_29 (_ : Nat) : Nat → Option LSum := lookL []
noncomputable def f_29 (N : Nat) (x1 : List Int) (x2 : ByteArray) : Option (TAs [.one (.slt [.int .u8] 5 1), .one (.d (.err 88))]) :=
  (bif (decide ((ByteArray.size x2 : Int) > 255)) then (some (([] : List Int), (some 5))) else ((f_64 N x1 (IntKind.u64.wrap (ByteArray.size x2 : Int)) 1).bind fun r3 => (bif (decide ((List.length r3 + List.length (bytesL x2)) * 1 ≤ 140737488355328)) then (some ((r3 ++ (bytesL x2)), none)) else none)))
theorem ok_29 (N : Nat) (x1 : List Int) (x2 : ByteArray) : f_29 N x1 x2 = exec (X_29 N) Go.Proofs.Tryz.f29.ntmps (lp_29 N) c_29 0 (fnK (X_29 N) Go.Proofs.Tryz.f29.results.toList 0 [.one (.slt [.int .u8] 5 1), .one (.d (.err 88))]) (fnSt 2 0 [.one (.d (.sl [.int .u8])), .one (.d (.str))] (x1, x2)) := by kernel_rfl
noncomputable def S_29 (N : Nat) : Sum := fnSum 2 0 2 [.one (.d (.sl [.int .u8])), .one (.d (.str))] [.one (.slt [.int .u8] 5 1), .one (.d (.err 88))] (fun p => f_29 N p.1 p.2)
theorem s_29 (N : Nat) : SumOk Go.Proofs.Tryz.prog laidL 29 (S_29 N) :=
  fn_ok (lp := lp_29 N) (x_29 N) Go.Proofs.Tryz.func29 (c := c_29) (by kernel_rfl) (by kernel_rfl) rfl (fun p => ok_29 N p.1 p.2) (loopsAll (by kernel_rfl) (lookOk_nil))
noncomputable def X_30 (N : Nat) : Ctx := ⟨tyT, lookF [(64, (S_64 N))], eqT, fun _ => false⟩
noncomputable def c_30 : Code := bodyOf Go.Proofs.Tryz.f30
theorem x_30 (N : Nat) : CtxOk Go.Proofs.Tryz.prog laidL (X_30 N) := ⟨tyOk, eqOk, fun _ _ => (fnsOk_cons (s_64 N) fnsOk_nil).get, by kernel_rfl⟩
noncomputable def lp_30 (_ : Nat) : Nat → Option LSum := lookL []
noncomputable def f_30 (N : Nat) (x1 : List Int) (x2 : Int) : Option (TAs [.one (.slt [.int .u8] 5 1)]) :=
  ((f_64 N x1 (IntKind.u64.wrap x2) 8).bind fun r3 => (some r3))
theorem ok_30 (N : Nat) (x1 : List Int) (x2 : Int) : f_30 N x1 x2 = exec (X_30 N) Go.Proofs.Tryz.f30.ntmps (lp_30 N) c_30 0 (fnK (X_30 N) Go.Proofs.Tryz.f30.results.toList 0 [.one (.slt [.int .u8] 5 1)]) (fnSt 2 0 [.one (.d (.sl [.int .u8])), .one (.d (.int .i64))] (x1, x2)) := by kernel_rfl
noncomputable def S_30 (N : Nat) : Sum := fnSum 2 0 1 [.one (.d (.sl [.int .u8])), .one (.d (.int .i64))] [.one (.slt [.int .u8] 5 1)] (fun p => f_30 N p.1 p.2)
theorem s_30 (N : Nat) : SumOk Go.Proofs.Tryz.prog laidL 30 (S_30 N) :=
  fn_ok (lp := lp_30 N) (x_30 N) Go.Proofs.Tryz.func30 (c := c_30) (by kernel_rfl) (by kernel_rfl) rfl (fun p => ok_30 N p.1 p.2) (loopsAll (by kernel_rfl) (lookOk_nil))
noncomputable def X_35 (N : Nat) : Ctx := ⟨tyT, lookF [(70, (S_70 N))], eqT, fun _ => false⟩
noncomputable def c_35 : Code := bodyOf Go.Proofs.Tryz.f35
theorem x_35 (N : Nat) : CtxOk Go.Proofs.Tryz.prog laidL (X_35 N) := ⟨tyOk, eqOk, fun _ _ => (fnsOk_cons (s_70 N) fnsOk_nil).get, by kernel_rfl⟩
noncomputable def lp_35 (_ : Nat) : Nat → Option LSum := lookL []
noncomputable def f_35 (N : Nat) (x1 : Int) (x2 : List Int) : Option (TAs [.one (.slt [.int .u8] 5 1), .one (.d (.int .i64))]) :=
  (bif (decide (x1 < 1)) then (some (([] : List Int), 1)) else (bif (decide (x1 > 6)) then (some (([] : List Int), 1)) else (bif (decide ((List.length x2 : Int) > 1024)) then (some (([] : List Int), 5)) else (bif (decide ((List.length ([116, 109, x1, (IntKind.u8.wrap (Int.tmod (List.length x2 : Int) 256)), (IntKind.u8.wrap (IntKind.i64.wrap (Int.tdiv (List.length x2 : Int) 256)))] : List Int) + List.length x2) * 1 ≤ 140737488355328)) then ((f_70 N (([116, 109, x1, (IntKind.u8.wrap (Int.tmod (List.length x2 : Int) 256)), (IntKind.u8.wrap (IntKind.i64.wrap (Int.tdiv (List.length x2 : Int) 256)))] : List Int) ++ x2)).bind fun r3 => (some (r3, 0))) else none))))
theorem ok_35 (N : Nat) (x1 : Int) (x2 : List Int) : f_35 N x1 x2 = exec (X_35 N) Go.Proofs.Tryz.f35.ntmps (lp_35 N) c_35 0 (fnK (X_35 N) Go.Proofs.Tryz.f35.results.toList 0 [.one (.slt [.int .u8] 5 1), .one (.d (.int .i64))]) (fnSt 2 0 [.one (.d (.int .u8)), .one (.d (.sl [.int .u8]))] (x1, x2)) := by kernel_rfl
noncomputable def S_35 (N : Nat) : Sum := fnSum 2 0 2 [.one (.d (.int .u8)), .one (.d (.sl [.int .u8]))] [.one (.slt [.int .u8] 5 1), .one (.d (.int .i64))] (fun p => f_35 N p.1 p.2)
theorem s_35 (N : Nat) : SumOk Go.Proofs.Tryz.prog laidL 35 (S_35 N) :=
  fn_ok (lp := lp_35 N) (x_35 N) Go.Proofs.Tryz.func35 (c := c_35) (by kernel_rfl) (by kernel_rfl) rfl (fun p => ok_35 N p.1 p.2) (loopsAll (by kernel_rfl) (lookOk_nil))
noncomputable def X_42 (N : Nat) : Ctx := ⟨tyT, lookF [(76, (S_76 N)), (77, (S_77 N))], eqT, fun _ => false⟩
noncomputable def c_42 : Code := bodyOf Go.Proofs.Tryz.f42
theorem x_42 (N : Nat) : CtxOk Go.Proofs.Tryz.prog laidL (X_42 N) := ⟨tyOk, eqOk, fun _ _ => (fnsOk_cons (s_76 N) (fnsOk_cons (s_77 N) fnsOk_nil)).get, by kernel_rfl⟩
noncomputable def lp_42 (_ : Nat) : Nat → Option LSum := lookL []
noncomputable def f_42 (N : Nat) (x1 : Int) (x2 : List Int) : Option (TAs [.one (.d (.sl [.int .u8])), .one (.d (.int .i64))]) :=
  (bif (decide (x1 < 1)) then (some (([] : List Int), 1)) else (bif (decide (x1 > 6)) then (some (([] : List Int), 1)) else ((f_76 N x2).bind fun r3 => (bif (r3.2.2 != 0) then (some (([] : List Int), r3.2.2)) else (bif (r3.1 != x1) then (some (([] : List Int), 3)) else (bif (r3.2.1 != (List.length x2 : Int)) then (some (([] : List Int), 3)) else ((f_77 N x2).bind fun r4 => (bif (r4.2 != 0) then (some (([] : List Int), r4.2)) else (bif (decide (0 ≤ (List.length r4.1 : Int) ∧ (List.length r4.1 : Int) ≤ (List.length r4.1 : Int))) then (bif (decide (0 ≤ (5 : Int) ∧ (5 : Int) ≤ (List.length r4.1 : Int))) then (some ((List.drop (Int.toNat (5 : Int)) (List.take (Int.toNat (List.length r4.1 : Int)) r4.1)), 0)) else none) else none)))))))))
theorem ok_42 (N : Nat) (x1 : Int) (x2 : List Int) : f_42 N x1 x2 = exec (X_42 N) Go.Proofs.Tryz.f42.ntmps (lp_42 N) c_42 0 (fnK (X_42 N) Go.Proofs.Tryz.f42.results.toList 0 [.one (.d (.sl [.int .u8])), .one (.d (.int .i64))]) (fnSt 2 0 [.one (.d (.int .u8)), .one (.d (.sl [.int .u8]))] (x1, x2)) := by kernel_rfl
noncomputable def S_42 (N : Nat) : Sum := fnSum 2 0 2 [.one (.d (.int .u8)), .one (.d (.sl [.int .u8]))] [.one (.d (.sl [.int .u8])), .one (.d (.int .i64))] (fun p => f_42 N p.1 p.2)
theorem s_42 (N : Nat) : SumOk Go.Proofs.Tryz.prog laidL 42 (S_42 N) :=
  fn_ok (lp := lp_42 N) (x_42 N) Go.Proofs.Tryz.func42 (c := c_42) (by kernel_rfl) (by kernel_rfl) rfl (fun p => ok_42 N p.1 p.2) (loopsAll (by kernel_rfl) (lookOk_nil))
noncomputable def X_48 (N : Nat) : Ctx := ⟨tyT, lookF [(64, (S_64 N))], eqT, fun _ => false⟩
noncomputable def c_48 : Code := bodyOf Go.Proofs.Tryz.f48
theorem x_48 (N : Nat) : CtxOk Go.Proofs.Tryz.prog laidL (X_48 N) := ⟨tyOk, eqOk, fun _ _ => (fnsOk_cons (s_64 N) fnsOk_nil).get, by kernel_rfl⟩
noncomputable def lp_48 (_ : Nat) : Nat → Option LSum := lookL []
noncomputable def f_48 (N : Nat) (x1 : List Int) (x2 : Int) : Option (TAs [.one (.slt [.int .u8] 5 1)]) :=
  ((f_64 N x1 (IntKind.u64.wrap x2) 2).bind fun r3 => (some r3))
theorem ok_48 (N : Nat) (x1 : List Int) (x2 : Int) : f_48 N x1 x2 = exec (X_48 N) Go.Proofs.Tryz.f48.ntmps (lp_48 N) c_48 0 (fnK (X_48 N) Go.Proofs.Tryz.f48.results.toList 0 [.one (.slt [.int .u8] 5 1)]) (fnSt 2 0 [.one (.d (.sl [.int .u8])), .one (.d (.int .u16))] (x1, x2)) := by kernel_rfl
noncomputable def S_48 (N : Nat) : Sum := fnSum 2 0 1 [.one (.d (.sl [.int .u8])), .one (.d (.int .u16))] [.one (.slt [.int .u8] 5 1)] (fun p => f_48 N p.1 p.2)
theorem s_48 (N : Nat) : SumOk Go.Proofs.Tryz.prog laidL 48 (S_48 N) :=
  fn_ok (lp := lp_48 N) (x_48 N) Go.Proofs.Tryz.func48 (c := c_48) (by kernel_rfl) (by kernel_rfl) rfl (fun p => ok_48 N p.1 p.2) (loopsAll (by kernel_rfl) (lookOk_nil))
noncomputable def X_83 (N : Nat) : Ctx := ⟨tyT, lookF [(84, (S_84 N))], eqT, fun _ => false⟩
noncomputable def c_83 : Code := bodyOf Go.Proofs.Tryz.f83
theorem x_83 (N : Nat) : CtxOk Go.Proofs.Tryz.prog laidL (X_83 N) := ⟨tyOk, eqOk, fun _ _ => (fnsOk_cons (s_84 N) fnsOk_nil).get, by kernel_rfl⟩
noncomputable def lp_83 (_ : Nat) : Nat → Option LSum := lookL []
noncomputable def f_83 (N : Nat) (x1 : Int) (_x2 : Int) (_x3 : ByteArray) (x4 : Int) : Option (TAs [.one (.d (.int .i64))]) :=
  ((f_84 N x1 x4).bind fun r5 => (some r5))
theorem ok_83 (N : Nat) (x1 : Int) (x2 : Int) (x3 : ByteArray) (x4 : Int) : f_83 N x1 x2 x3 x4 = exec (X_83 N) Go.Proofs.Tryz.f83.ntmps (lp_83 N) c_83 0 (fnK (X_83 N) Go.Proofs.Tryz.f83.results.toList 0 [.one (.d (.int .i64))]) (fnSt 2 0 [.agg [.d (.int .i64), .d (.int .i64), .d (.str)], .one (.d (.int .i64))] ((x1, x2, x3), x4)) := by kernel_rfl
noncomputable def S_83 (N : Nat) : Sum := fnSum 2 0 1 [.agg [.d (.int .i64), .d (.int .i64), .d (.str)], .one (.d (.int .i64))] [.one (.d (.int .i64))] (fun p => f_83 N p.1.1 p.1.2.1 p.1.2.2 p.2)
theorem s_83 (N : Nat) : SumOk Go.Proofs.Tryz.prog laidL 83 (S_83 N) :=
  fn_ok (lp := lp_83 N) (x_83 N) Go.Proofs.Tryz.func83 (c := c_83) (by kernel_rfl) (by kernel_rfl) rfl (fun p => ok_83 N p.1.1 p.1.2.1 p.1.2.2 p.2) (loopsAll (by kernel_rfl) (lookOk_nil))
noncomputable def X_86 (N : Nat) : Ctx := ⟨tyT, lookF [(99, (S_99 N))], eqT, fun _ => false⟩
noncomputable def c_86 : Code := bodyOf Go.Proofs.Tryz.f86
theorem x_86 (N : Nat) : CtxOk Go.Proofs.Tryz.prog laidL (X_86 N) := ⟨tyOk, eqOk, fun _ _ => (fnsOk_cons (s_99 N) fnsOk_nil).get, by kernel_rfl⟩
noncomputable def lp_86 (_ : Nat) : Nat → Option LSum := lookL []
noncomputable def f_86 (N : Nat) (x1 : List Int) : Option (TAs [.one (.d (.int .u32))]) :=
  ((f_99 N 0 x1).bind fun r2 => (some r2))
theorem ok_86 (N : Nat) (x1 : List Int) : f_86 N x1 = exec (X_86 N) Go.Proofs.Tryz.f86.ntmps (lp_86 N) c_86 0 (fnK (X_86 N) Go.Proofs.Tryz.f86.results.toList 0 [.one (.d (.int .u32))]) (fnSt 1 0 [.one (.d (.sl [.int .u8]))] x1) := by kernel_rfl
noncomputable def S_86 (N : Nat) : Sum := fnSum 1 0 1 [.one (.d (.sl [.int .u8]))] [.one (.d (.int .u32))] (fun p => f_86 N p)
theorem s_86 (N : Nat) : SumOk Go.Proofs.Tryz.prog laidL 86 (S_86 N) :=
  fn_ok (lp := lp_86 N) (x_86 N) Go.Proofs.Tryz.func86 (c := c_86) (by kernel_rfl) (by kernel_rfl) rfl (fun p => ok_86 N p) (loopsAll (by kernel_rfl) (lookOk_nil))
noncomputable def X_9 (N : Nat) : Ctx := ⟨tyT, lookF [(32, (S_32 N)), (33, (S_33 N)), (34, (S_34 N)), (35, (S_35 N))], eqT, fun _ => false⟩
noncomputable def c_9 : Code := bodyOf Go.Proofs.Tryz.f9
theorem x_9 (N : Nat) : CtxOk Go.Proofs.Tryz.prog laidL (X_9 N) := ⟨tyOk, eqOk, fun _ _ => (fnsOk_cons (s_32 N) (fnsOk_cons (s_33 N) (fnsOk_cons (s_34 N) (fnsOk_cons (s_35 N) fnsOk_nil)))).get, by kernel_rfl⟩
noncomputable def nd_9_0 : Code := loopAt 0 0 c_9
noncomputable def cb_9_0 : Code := unloop nd_9_0
theorem ne_9_0 : nd_9_0 = .loop cb_9_0 := by kernel_rfl
noncomputable def sh_9_0 : List ShA := [.one (.ptr 144 0), .one (.slt [.int .u8] 5 1), .one (.d (.int .i64)), .agg [.d (.str), .d (.int .i64), .d (.sl [.int .i64, .int .i64, .str])]]
noncomputable def o_9_0 : OutK 0 (TAs [.one (.slt [.int .u8] 5 1)]) := (outOne 0 (.exit 0) [4] [] [.one (.slt [.int .u8] 5 1)])
noncomputable def b_9_0 (N : Nat) (ih : TAs sh_9_0 → Option (TAs [.one (.slt [.int .u8] 5 1)])) : TAs sh_9_0 → Option (TAs [.one (.slt [.int .u8] 5 1)]) := fun (_, y8, y9, (y10, y11, y12)) =>
  (bif (decide (y9 < (List.length y12 : Int))) then (bif (decide (0 ≤ y9 ∧ y9 < (List.length y12 : Int))) then ((f_34 N y8 (IntKind.u64.wrap (List.getD y12 (Int.toNat y9) (0, 0, ByteArray.empty)).1) 8).bind fun r13 => (bif (decide (0 ≤ y9 ∧ y9 < (List.length y12 : Int))) then ((f_34 N r13 (IntKind.u64.wrap (List.getD y12 (Int.toNat y9) (0, 0, ByteArray.empty)).2.1) 8).bind fun r14 => (bif (decide (0 ≤ y9 ∧ y9 < (List.length y12 : Int))) then ((f_33 N r14 ((List.getD y12 (Int.toNat y9) (0, 0, ByteArray.empty)).2.2)).bind fun r15 => (ih ((), r15.1, (IntKind.i64.wrap (y9 + 1)), (y10, y11, y12)))) else none)) else none)) else none) else (some (y8)))
noncomputable def l_9_0 (N : Nat) : TAs sh_9_0 → Option (TAs [.one (.slt [.int .u8] 5 1)]) := iter (b_9_0 N) N
noncomputable def lp_9_0 (_ : Nat) : Nat → Option LSum := lookL []
noncomputable def L_9_0 (N : Nat) : LSum := loopSum [1, 4, 6] [144] sh_9_0 o_9_0 (l_9_0 N)
theorem b_ok_9_0 (N : Nat) (ih : TAs sh_9_0 → Option (TAs [.one (.slt [.int .u8] 5 1)])) (p : TAs sh_9_0) : b_9_0 N ih p = exec (X_9 N) Go.Proofs.Tryz.f9.ntmps (lp_9_0 N) cb_9_0 0 (roundK [1, 4, 6] [144] sh_9_0 o_9_0 ih) (stOf [1, 4, 6] [144] sh_9_0 p) := by kernel_rfl
theorem L_ok_9_0 (N : Nat) : SegOk Go.Proofs.Tryz.prog laidL 0 Go.Proofs.Tryz.f9.ntmps nd_9_0 (L_9_0 N) :=
  ne_9_0 ▸ loop_ok (cur := 0) (lp := lp_9_0 N) (x_9 N) (fun n => iter (b_9_0 N) n) (fun _ => rfl) (fun n p => b_ok_9_0 N (iter (b_9_0 N) n) p) (loopsAll (by kernel_rfl) (lookOk_nil)) N
noncomputable def lp_9 (N : Nat) : Nat → Option LSum := lookL [(0, L_9_0 N)]
noncomputable def f_9 (N : Nat) (x1 : ByteArray) (x2 : Int) (x3 : List (Int × Int × ByteArray)) : Option (TAs [.one (.slt [.int .u8] 5 1), .one (.d (.int .i64))]) :=
  ((f_32 N x1 x2 x3).bind fun r4 => (bif (!r4) then (some (([] : List Int), 1)) else ((f_33 N ([] : List Int) x1).bind fun r5 => ((f_34 N r5.1 (IntKind.u64.wrap x2) 8).bind fun r6 => ((f_34 N r6 (IntKind.u64.wrap (List.length x3 : Int)) 1).bind fun r7 => ((l_9_0 N ((), r7, 0, (x1, x2, x3))).bind fun q16 => ((f_35 N 6 q16).bind fun r17 => (some (r17.1, r17.2)))))))))
theorem ok_9 (N : Nat) (x1 : ByteArray) (x2 : Int) (x3 : List (Int × Int × ByteArray)) : f_9 N x1 x2 x3 = exec (X_9 N) Go.Proofs.Tryz.f9.ntmps (lp_9 N) c_9 0 (fnK (X_9 N) Go.Proofs.Tryz.f9.results.toList 0 [.one (.slt [.int .u8] 5 1), .one (.d (.int .i64))]) (fnSt 1 0 [.agg [.d (.str), .d (.int .i64), .d (.sl [.int .i64, .int .i64, .str])]] (x1, x2, x3)) := by kernel_rfl
noncomputable def S_9 (N : Nat) : Sum := fnSum 1 0 2 [.agg [.d (.str), .d (.int .i64), .d (.sl [.int .i64, .int .i64, .str])]] [.one (.slt [.int .u8] 5 1), .one (.d (.int .i64))] (fun p => f_9 N p.1 p.2.1 p.2.2)
theorem s_9 (N : Nat) : SumOk Go.Proofs.Tryz.prog laidL 9 (S_9 N) :=
  fn_ok (lp := lp_9 N) (x_9 N) Go.Proofs.Tryz.func9 (c := c_9) (by kernel_rfl) (by kernel_rfl) rfl (fun p => ok_9 N p.1 p.2.1 p.2.2) (loopsAll (by kernel_rfl) ((lookOk_cons (L_ok_9_0 N) lookOk_nil)))
noncomputable def X_11 (N : Nat) : Ctx := ⟨tyT, lookF [(42, (S_42 N)), (43, (S_43 N)), (44, (S_44 N)), (45, (S_45 N)), (32, (S_32 N))], eqT, fun _ => false⟩
noncomputable def c_11 : Code := bodyOf Go.Proofs.Tryz.f11
theorem x_11 (N : Nat) : CtxOk Go.Proofs.Tryz.prog laidL (X_11 N) := ⟨tyOk, eqOk, fun _ _ => (fnsOk_cons (s_42 N) (fnsOk_cons (s_43 N) (fnsOk_cons (s_44 N) (fnsOk_cons (s_45 N) (fnsOk_cons (s_32 N) fnsOk_nil))))).get, by kernel_rfl⟩
noncomputable def nd_11_0 : Code := loopAt 0 0 c_11
noncomputable def cb_11_0 : Code := unloop nd_11_0
theorem ne_11_0 : nd_11_0 = .loop cb_11_0 := by kernel_rfl
noncomputable def sh_11_0 : List ShA := [.one (.ptr 160 0), .one (.ptr 224 0), .one (.d (.int .u64)), .one (.ptr 288 0), .one (.d (.int .i64)), .agg [.d (.str), .d (.int .i64), .slt [.int .i64, .int .i64, .str] 68 3], .agg [.d (.sl [.int .u8]), .d (.bool)], .agg [.d (.str), .d (.int .i64), .slt [.int .i64, .int .i64, .str] 68 3]]
noncomputable def o_11_0 : OutK 0 (TAs [.one (.ptr 160 0), .one (.ptr 224 0), .one (.ptr 288 0), .agg [.d (.str), .d (.int .i64), .slt [.int .i64, .int .i64, .str] 68 3], .agg [.d (.sl [.int .u8]), .d (.bool)], .agg [.d (.str), .d (.int .i64), .slt [.int .i64, .int .i64, .str] 68 3]]) := (outOne 0 (.exit 0) [2, 6, 10] [160, 224, 288] [.one (.ptr 160 0), .one (.ptr 224 0), .one (.ptr 288 0), .agg [.d (.str), .d (.int .i64), .slt [.int .i64, .int .i64, .str] 68 3], .agg [.d (.sl [.int .u8]), .d (.bool)], .agg [.d (.str), .d (.int .i64), .slt [.int .i64, .int .i64, .str] 68 3]])
noncomputable def b_11_0 (N : Nat) (ih : TAs sh_11_0 → Option (TAs [.one (.ptr 160 0), .one (.ptr 224 0), .one (.ptr 288 0), .agg [.d (.str), .d (.int .i64), .slt [.int .i64, .int .i64, .str] 68 3], .agg [.d (.sl [.int .u8]), .d (.bool)], .agg [.d (.str), .d (.int .i64), .slt [.int .i64, .int .i64, .str] 68 3]])) : TAs sh_11_0 → Option (TAs [.one (.ptr 160 0), .one (.ptr 224 0), .one (.ptr 288 0), .agg [.d (.str), .d (.int .i64), .slt [.int .i64, .int .i64, .str] 68 3], .agg [.d (.sl [.int .u8]), .d (.bool)], .agg [.d (.str), .d (.int .i64), .slt [.int .i64, .int .i64, .str] 68 3]]) := fun (_, _, y6, _, y7, (y8, y9, y10), (y11, y12), (y13, y14, y15)) =>
  (bif (decide (y7 < (IntKind.i64.wrap y6))) then ((f_44 N y11 y12 8).bind fun r16 => ((f_44 N r16.1.1 r16.1.2 8).bind fun r17 => ((f_43 N r17.1.1 r17.1.2).bind fun r18 => (bif (decide ((List.length y15 + List.length ([((IntKind.i64.wrap r16.2), (IntKind.i64.wrap r17.2), r18.2)] : List (Int × Int × ByteArray))) * 32 ≤ 140737488355328)) then (ih ((), (), y6, (), (IntKind.i64.wrap (y7 + 1)), (y8, y9, y10), (r18.1.1, r18.1.2), (y13, y14, (y15 ++ ([((IntKind.i64.wrap r16.2), (IntKind.i64.wrap r17.2), r18.2)] : List (Int × Int × ByteArray)))))) else none)))) else (some (((), (), (), (y8, y9, y10), (y11, y12), (y13, y14, y15)))))
noncomputable def l_11_0 (N : Nat) : TAs sh_11_0 → Option (TAs [.one (.ptr 160 0), .one (.ptr 224 0), .one (.ptr 288 0), .agg [.d (.str), .d (.int .i64), .slt [.int .i64, .int .i64, .str] 68 3], .agg [.d (.sl [.int .u8]), .d (.bool)], .agg [.d (.str), .d (.int .i64), .slt [.int .i64, .int .i64, .str] 68 3]]) := iter (b_11_0 N) N
noncomputable def lp_11_0 (_ : Nat) : Nat → Option LSum := lookL []
noncomputable def L_11_0 (N : Nat) : LSum := loopSum [2, 6, 9, 10, 11] [160, 224, 288] sh_11_0 o_11_0 (l_11_0 N)
theorem b_ok_11_0 (N : Nat) (ih : TAs sh_11_0 → Option (TAs [.one (.ptr 160 0), .one (.ptr 224 0), .one (.ptr 288 0), .agg [.d (.str), .d (.int .i64), .slt [.int .i64, .int .i64, .str] 68 3], .agg [.d (.sl [.int .u8]), .d (.bool)], .agg [.d (.str), .d (.int .i64), .slt [.int .i64, .int .i64, .str] 68 3]])) (p : TAs sh_11_0) : b_11_0 N ih p = exec (X_11 N) Go.Proofs.Tryz.f11.ntmps (lp_11_0 N) cb_11_0 0 (roundK [2, 6, 9, 10, 11] [160, 224, 288] sh_11_0 o_11_0 ih) (stOf [2, 6, 9, 10, 11] [160, 224, 288] sh_11_0 p) := by kernel_rfl
theorem L_ok_11_0 (N : Nat) : SegOk Go.Proofs.Tryz.prog laidL 0 Go.Proofs.Tryz.f11.ntmps nd_11_0 (L_11_0 N) :=
  ne_11_0 ▸ loop_ok (cur := 0) (lp := lp_11_0 N) (x_11 N) (fun n => iter (b_11_0 N) n) (fun _ => rfl) (fun n p => b_ok_11_0 N (iter (b_11_0 N) n) p) (loopsAll (by kernel_rfl) (lookOk_nil)) N
noncomputable def lp_11 (N : Nat) : Nat → Option LSum := lookL [(0, L_11_0 N)]
noncomputable def f_11 (N : Nat) (x1 : List Int) : Option (TAs [.agg [.d (.str), .d (.int .i64), .slt [.int .i64, .int .i64, .str] 68 3], .one (.d (.int .i64))]) :=
  ((f_42 N 6 x1).bind fun r2 => (bif (r2.2 != 0) then (some ((ByteArray.empty, 0, ([] : List (Int × Int × ByteArray))), r2.2)) else ((f_43 N r2.1 false).bind fun r3 => ((f_44 N r3.1.1 r3.1.2 8).bind fun r4 => ((f_44 N r4.1.1 r4.1.2 1).bind fun r5 => ((l_11_0 N ((), (), r5.2, (), 0, (ByteArray.empty, 0, ([] : List (Int × Int × ByteArray))), (r5.1.1, r5.1.2), (r3.2, (IntKind.i64.wrap r4.2), ([] : List (Int × Int × ByteArray))))).bind fun q19 => ((f_45 N q19.2.2.2.2.1.1 q19.2.2.2.2.1.2).bind fun r20 => (bif (!r20) then (some ((ByteArray.empty, 0, ([] : List (Int × Int × ByteArray))), 3)) else ((f_32 N q19.2.2.2.2.2.1 q19.2.2.2.2.2.2.1 q19.2.2.2.2.2.2.2).bind fun r21 => (bif (!r21) then (some ((ByteArray.empty, 0, ([] : List (Int × Int × ByteArray))), 3)) else (some ((q19.2.2.2.2.2.1, q19.2.2.2.2.2.2.1, q19.2.2.2.2.2.2.2), 0))))))))))))
theorem ok_11 (N : Nat) (x1 : List Int) : f_11 N x1 = exec (X_11 N) Go.Proofs.Tryz.f11.ntmps (lp_11 N) c_11 0 (fnK (X_11 N) Go.Proofs.Tryz.f11.results.toList 0 [.agg [.d (.str), .d (.int .i64), .slt [.int .i64, .int .i64, .str] 68 3], .one (.d (.int .i64))]) (fnSt 1 0 [.one (.d (.sl [.int .u8]))] x1) := by kernel_rfl
noncomputable def S_11 (N : Nat) : Sum := fnSum 1 0 2 [.one (.d (.sl [.int .u8]))] [.agg [.d (.str), .d (.int .i64), .slt [.int .i64, .int .i64, .str] 68 3], .one (.d (.int .i64))] (fun p => f_11 N p)
theorem s_11 (N : Nat) : SumOk Go.Proofs.Tryz.prog laidL 11 (S_11 N) :=
  fn_ok (lp := lp_11 N) (x_11 N) Go.Proofs.Tryz.func11 (c := c_11) (by kernel_rfl) (by kernel_rfl) rfl (fun p => ok_11 N p) (loopsAll (by kernel_rfl) ((lookOk_cons (L_ok_11_0 N) lookOk_nil)))
noncomputable def X_18 (N : Nat) : Ctx := ⟨tyT, lookF [(24, (S_24 N)), (9, (S_9 N)), (34, (S_34 N)), (35, (S_35 N))], eqT, fun _ => false⟩
noncomputable def c_18 : Code := bodyOf Go.Proofs.Tryz.f18
theorem x_18 (N : Nat) : CtxOk Go.Proofs.Tryz.prog laidL (X_18 N) := ⟨tyOk, eqOk, fun _ _ => (fnsOk_cons (s_24 N) (fnsOk_cons (s_9 N) (fnsOk_cons (s_34 N) (fnsOk_cons (s_35 N) fnsOk_nil)))).get, by kernel_rfl⟩
noncomputable def lp_18 (_ : Nat) : Nat → Option LSum := lookL []
noncomputable def f_18 (N : Nat) (x1 : Int) (x2 : Int) (x3 : Int) (x4 : Int) (x5 : Int) (x6 : Int) (x7 : Bool) (x8 : ByteArray) (x9 : Int) (x10 : List (Int × Int × ByteArray)) : Option (TAs [.one (.slt [.int .u8] 5 1), .one (.d (.int .i64))]) :=
  ((f_24 N x1 x2 x3 x4 x5 x6 x7 x8 x9 x10).bind fun r11 => (bif (!r11) then (some (([] : List Int), 1)) else ((f_9 N x8 x9 x10).bind fun r12 => ((f_34 N ([] : List Int) (IntKind.u64.wrap x1) 1).bind fun r13 => ((f_34 N r13 (IntKind.u64.wrap x2) 8).bind fun r14 => ((f_34 N r14 (IntKind.u64.wrap x3) 8).bind fun r15 => ((f_34 N r15 (IntKind.u64.wrap x4) 8).bind fun r16 => ((f_34 N r16 (IntKind.u64.wrap x5) 8).bind fun r17 => ((f_34 N r17 (IntKind.u64.wrap x6) 8).bind fun r18 => (bif x7 then (bif (decide ((List.length r18 + List.length ([1] : List Int)) * 1 ≤ 140737488355328)) then ((f_34 N (r18 ++ ([1] : List Int)) (IntKind.u64.wrap (List.length r12.1 : Int)) 2).bind fun r19 => (bif (decide ((List.length r19 + List.length r12.1) * 1 ≤ 140737488355328)) then ((f_35 N 3 (r19 ++ r12.1)).bind fun r20 => (some (r20.1, r20.2))) else none)) else none) else (bif (decide ((List.length r18 + List.length ([0] : List Int)) * 1 ≤ 140737488355328)) then ((f_34 N (r18 ++ ([0] : List Int)) (IntKind.u64.wrap (List.length r12.1 : Int)) 2).bind fun r21 => (bif (decide ((List.length r21 + List.length r12.1) * 1 ≤ 140737488355328)) then ((f_35 N 3 (r21 ++ r12.1)).bind fun r22 => (some (r22.1, r22.2))) else none)) else none)))))))))))
theorem ok_18 (N : Nat) (x1 : Int) (x2 : Int) (x3 : Int) (x4 : Int) (x5 : Int) (x6 : Int) (x7 : Bool) (x8 : ByteArray) (x9 : Int) (x10 : List (Int × Int × ByteArray)) : f_18 N x1 x2 x3 x4 x5 x6 x7 x8 x9 x10 = exec (X_18 N) Go.Proofs.Tryz.f18.ntmps (lp_18 N) c_18 0 (fnK (X_18 N) Go.Proofs.Tryz.f18.results.toList 0 [.one (.slt [.int .u8] 5 1), .one (.d (.int .i64))]) (fnSt 1 0 [.agg [.d (.int .i64), .d (.int .i64), .d (.int .i64), .d (.int .i64), .d (.int .i64), .d (.int .i64), .d (.bool), .d (.str), .d (.int .i64), .d (.sl [.int .i64, .int .i64, .str])]] (x1, x2, x3, x4, x5, x6, x7, x8, x9, x10)) := by kernel_rfl
noncomputable def S_18 (N : Nat) : Sum := fnSum 1 0 2 [.agg [.d (.int .i64), .d (.int .i64), .d (.int .i64), .d (.int .i64), .d (.int .i64), .d (.int .i64), .d (.bool), .d (.str), .d (.int .i64), .d (.sl [.int .i64, .int .i64, .str])]] [.one (.slt [.int .u8] 5 1), .one (.d (.int .i64))] (fun p => f_18 N p.1 p.2.1 p.2.2.1 p.2.2.2.1 p.2.2.2.2.1 p.2.2.2.2.2.1 p.2.2.2.2.2.2.1 p.2.2.2.2.2.2.2.1 p.2.2.2.2.2.2.2.2.1 p.2.2.2.2.2.2.2.2.2)
theorem s_18 (N : Nat) : SumOk Go.Proofs.Tryz.prog laidL 18 (S_18 N) :=
  fn_ok (lp := lp_18 N) (x_18 N) Go.Proofs.Tryz.func18 (c := c_18) (by kernel_rfl) (by kernel_rfl) rfl (fun p => ok_18 N p.1 p.2.1 p.2.2.1 p.2.2.2.1 p.2.2.2.2.1 p.2.2.2.2.2.1 p.2.2.2.2.2.2.1 p.2.2.2.2.2.2.2.1 p.2.2.2.2.2.2.2.2.1 p.2.2.2.2.2.2.2.2.2) (loopsAll (by kernel_rfl) (lookOk_nil))
noncomputable def X_20 (N : Nat) : Ctx := ⟨tyT, lookF [(42, (S_42 N)), (44, (S_44 N)), (11, (S_11 N)), (24, (S_24 N))], eqT, fun _ => false⟩
noncomputable def c_20 : Code := bodyOf Go.Proofs.Tryz.f20
theorem x_20 (N : Nat) : CtxOk Go.Proofs.Tryz.prog laidL (X_20 N) := ⟨tyOk, eqOk, fun _ _ => (fnsOk_cons (s_42 N) (fnsOk_cons (s_44 N) (fnsOk_cons (s_11 N) (fnsOk_cons (s_24 N) fnsOk_nil)))).get, by kernel_rfl⟩
noncomputable def nd_20_0 : Code := loopAt 0 0 c_20
noncomputable def cb_20_0 : Code := unloop nd_20_0
theorem ne_20_0 : nd_20_0 = .loop cb_20_0 := by kernel_rfl
noncomputable def sh_20_0 : List ShA := [.one (.ptr 160 0), .one (.d (.sl [.int .u8])), .one (.ptr 224 0), .one (.d (.int .i64)), .agg [.d (.int .i64), .d (.int .i64), .d (.int .i64), .d (.int .i64), .d (.int .i64), .d (.int .i64), .d (.bool), .d (.str), .d (.int .i64), .slt [.int .i64, .int .i64, .str] 68 3], .agg [.d (.arr .i64 5)]]
noncomputable def o_20_0 : OutK 0 (TAs [.one (.ptr 160 0), .one (.d (.sl [.int .u8])), .one (.ptr 224 0), .agg [.d (.int .i64), .d (.int .i64), .d (.int .i64), .d (.int .i64), .d (.int .i64), .d (.int .i64), .d (.bool), .d (.str), .d (.int .i64), .slt [.int .i64, .int .i64, .str] 68 3], .agg [.d (.arr .i64 5)]]) := (outOne 0 (.exit 0) [2, 4, 6] [160, 224] [.one (.ptr 160 0), .one (.d (.sl [.int .u8])), .one (.ptr 224 0), .agg [.d (.int .i64), .d (.int .i64), .d (.int .i64), .d (.int .i64), .d (.int .i64), .d (.int .i64), .d (.bool), .d (.str), .d (.int .i64), .slt [.int .i64, .int .i64, .str] 68 3], .agg [.d (.arr .i64 5)]])
noncomputable def b_20_0 (N : Nat) (ih : TAs sh_20_0 → Option (TAs [.one (.ptr 160 0), .one (.d (.sl [.int .u8])), .one (.ptr 224 0), .agg [.d (.int .i64), .d (.int .i64), .d (.int .i64), .d (.int .i64), .d (.int .i64), .d (.int .i64), .d (.bool), .d (.str), .d (.int .i64), .slt [.int .i64, .int .i64, .str] 68 3], .agg [.d (.arr .i64 5)]])) : TAs sh_20_0 → Option (TAs [.one (.ptr 160 0), .one (.d (.sl [.int .u8])), .one (.ptr 224 0), .agg [.d (.int .i64), .d (.int .i64), .d (.int .i64), .d (.int .i64), .d (.int .i64), .d (.int .i64), .d (.bool), .d (.str), .d (.int .i64), .slt [.int .i64, .int .i64, .str] 68 3], .agg [.d (.arr .i64 5)]]) := fun (_, y3, _, y4, (y5, y6, y7, y8, y9, y10, y11, y12, y13, y14), y15) =>
  (bif (decide (y4 < 5)) then (bif (decide (0 ≤ (List.length y3 : Int) ∧ (List.length y3 : Int) ≤ (List.length y3 : Int))) then (bif (decide (0 ≤ (IntKind.i64.wrap (1 + (IntKind.i64.wrap (8 * y4)))) ∧ (IntKind.i64.wrap (1 + (IntKind.i64.wrap (8 * y4)))) ≤ (List.length y3 : Int))) then ((f_44 N (List.drop (Int.toNat (IntKind.i64.wrap (1 + (IntKind.i64.wrap (8 * y4))))) (List.take (Int.toNat (List.length y3 : Int)) y3)) false 8).bind fun r16 => (bif (decide (0 ≤ y4 ∧ y4 < 5)) then (ih ((), y3, (), (IntKind.i64.wrap (y4 + 1)), (y5, y6, y7, y8, y9, y10, y11, y12, y13, y14), (List.set y15 (Int.toNat y4) (IntKind.i64.wrap r16.2)))) else none)) else none) else none) else (some (((), y3, (), (y5, y6, y7, y8, y9, y10, y11, y12, y13, y14), y15))))
noncomputable def l_20_0 (N : Nat) : TAs sh_20_0 → Option (TAs [.one (.ptr 160 0), .one (.d (.sl [.int .u8])), .one (.ptr 224 0), .agg [.d (.int .i64), .d (.int .i64), .d (.int .i64), .d (.int .i64), .d (.int .i64), .d (.int .i64), .d (.bool), .d (.str), .d (.int .i64), .slt [.int .i64, .int .i64, .str] 68 3], .agg [.d (.arr .i64 5)]]) := iter (b_20_0 N) N
noncomputable def lp_20_0 (_ : Nat) : Nat → Option LSum := lookL []
noncomputable def L_20_0 (N : Nat) : LSum := loopSum [2, 4, 6, 7] [160, 224] sh_20_0 o_20_0 (l_20_0 N)
theorem b_ok_20_0 (N : Nat) (ih : TAs sh_20_0 → Option (TAs [.one (.ptr 160 0), .one (.d (.sl [.int .u8])), .one (.ptr 224 0), .agg [.d (.int .i64), .d (.int .i64), .d (.int .i64), .d (.int .i64), .d (.int .i64), .d (.int .i64), .d (.bool), .d (.str), .d (.int .i64), .slt [.int .i64, .int .i64, .str] 68 3], .agg [.d (.arr .i64 5)]])) (p : TAs sh_20_0) : b_20_0 N ih p = exec (X_20 N) Go.Proofs.Tryz.f20.ntmps (lp_20_0 N) cb_20_0 0 (roundK [2, 4, 6, 7] [160, 224] sh_20_0 o_20_0 ih) (stOf [2, 4, 6, 7] [160, 224] sh_20_0 p) := by kernel_rfl
theorem L_ok_20_0 (N : Nat) : SegOk Go.Proofs.Tryz.prog laidL 0 Go.Proofs.Tryz.f20.ntmps nd_20_0 (L_20_0 N) :=
  ne_20_0 ▸ loop_ok (cur := 0) (lp := lp_20_0 N) (x_20 N) (fun n => iter (b_20_0 N) n) (fun _ => rfl) (fun n p => b_ok_20_0 N (iter (b_20_0 N) n) p) (loopsAll (by kernel_rfl) (lookOk_nil)) N
noncomputable def lp_20 (N : Nat) : Nat → Option LSum := lookL [(0, L_20_0 N)]
noncomputable def f_20 (N : Nat) (x1 : List Int) : Option (TAs [.agg [.d (.int .i64), .d (.int .i64), .d (.int .i64), .d (.int .i64), .d (.int .i64), .d (.int .i64), .d (.bool), .d (.str), .d (.int .i64), .slt [.int .i64, .int .i64, .str] 68 3], .one (.d (.int .i64))]) :=
  ((f_42 N 3 x1).bind fun r2 => (bif (r2.2 != 0) then (some ((0, 0, 0, 0, 0, 0, false, ByteArray.empty, 0, ([] : List (Int × Int × ByteArray))), r2.2)) else (bif (decide ((List.length r2.1 : Int) < 44)) then (some ((0, 0, 0, 0, 0, 0, false, ByteArray.empty, 0, ([] : List (Int × Int × ByteArray))), 3)) else (bif (decide (0 ≤ (41 : Int) ∧ (41 : Int) < (List.length r2.1 : Int))) then (bif (decide ((List.getD r2.1 (Int.toNat 41) 0) > 1)) then (some ((0, 0, 0, 0, 0, 0, false, ByteArray.empty, 0, ([] : List (Int × Int × ByteArray))), 3)) else (bif (decide (0 ≤ (42 : Int) ∧ (42 : Int) < (List.length r2.1 : Int))) then (bif (decide (0 ≤ (43 : Int) ∧ (43 : Int) < (List.length r2.1 : Int))) then (bif ((List.length r2.1 : Int) != (IntKind.i64.wrap ((IntKind.i64.wrap (44 + (IntKind.i64.wrap (List.getD r2.1 (Int.toNat 42) 0)))) + (IntKind.i64.wrap (256 * (IntKind.i64.wrap (List.getD r2.1 (Int.toNat 43) 0))))))) then (some ((0, 0, 0, 0, 0, 0, false, ByteArray.empty, 0, ([] : List (Int × Int × ByteArray))), 3)) else ((l_20_0 N ((), r2.1, (), 0, (0, 0, 0, 0, 0, 0, false, ByteArray.empty, 0, ([] : List (Int × Int × ByteArray))), [0, 0, 0, 0, 0])).bind fun q17 => (bif (decide (0 ≤ (List.length q17.2.1 : Int) ∧ (List.length q17.2.1 : Int) ≤ (List.length q17.2.1 : Int))) then (bif (decide (0 ≤ (44 : Int) ∧ (44 : Int) ≤ (List.length q17.2.1 : Int))) then ((f_11 N (List.drop (Int.toNat (44 : Int)) (List.take (Int.toNat (List.length q17.2.1 : Int)) q17.2.1))).bind fun r18 => (bif (decide (0 ≤ (0 : Int) ∧ (0 : Int) < (List.length q17.2.1 : Int))) then (bif (decide (0 ≤ (41 : Int) ∧ (41 : Int) < (List.length q17.2.1 : Int))) then (bif (r18.2 != 0) then (some ((0, 0, 0, 0, 0, 0, false, ByteArray.empty, 0, ([] : List (Int × Int × ByteArray))), 3)) else ((f_24 N (IntKind.i64.wrap (List.getD q17.2.1 (Int.toNat 0) 0)) (List.getD q17.2.2.2.2 (Int.toNat 0) 0) (List.getD q17.2.2.2.2 (Int.toNat 1) 0) (List.getD q17.2.2.2.2 (Int.toNat 2) 0) (List.getD q17.2.2.2.2 (Int.toNat 3) 0) (List.getD q17.2.2.2.2 (Int.toNat 4) 0) ((List.getD q17.2.1 (Int.toNat 41) 0) == 1) r18.1.1 r18.1.2.1 r18.1.2.2).bind fun r19 => (bif (!r19) then (some ((0, 0, 0, 0, 0, 0, false, ByteArray.empty, 0, ([] : List (Int × Int × ByteArray))), 3)) else (some (((IntKind.i64.wrap (List.getD q17.2.1 (Int.toNat 0) 0)), (List.getD q17.2.2.2.2 (Int.toNat 0) 0), (List.getD q17.2.2.2.2 (Int.toNat 1) 0), (List.getD q17.2.2.2.2 (Int.toNat 2) 0), (List.getD q17.2.2.2.2 (Int.toNat 3) 0), (List.getD q17.2.2.2.2 (Int.toNat 4) 0), ((List.getD q17.2.1 (Int.toNat 41) 0) == 1), r18.1.1, r18.1.2.1, r18.1.2.2), 0))))) else none) else none)) else none) else none))) else none) else none)) else none))))
theorem ok_20 (N : Nat) (x1 : List Int) : f_20 N x1 = exec (X_20 N) Go.Proofs.Tryz.f20.ntmps (lp_20 N) c_20 0 (fnK (X_20 N) Go.Proofs.Tryz.f20.results.toList 0 [.agg [.d (.int .i64), .d (.int .i64), .d (.int .i64), .d (.int .i64), .d (.int .i64), .d (.int .i64), .d (.bool), .d (.str), .d (.int .i64), .slt [.int .i64, .int .i64, .str] 68 3], .one (.d (.int .i64))]) (fnSt 1 0 [.one (.d (.sl [.int .u8]))] x1) := by kernel_rfl
noncomputable def S_20 (N : Nat) : Sum := fnSum 1 0 2 [.one (.d (.sl [.int .u8]))] [.agg [.d (.int .i64), .d (.int .i64), .d (.int .i64), .d (.int .i64), .d (.int .i64), .d (.int .i64), .d (.bool), .d (.str), .d (.int .i64), .slt [.int .i64, .int .i64, .str] 68 3], .one (.d (.int .i64))] (fun p => f_20 N p)
theorem s_20 (N : Nat) : SumOk Go.Proofs.Tryz.prog laidL 20 (S_20 N) :=
  fn_ok (lp := lp_20 N) (x_20 N) Go.Proofs.Tryz.func20 (c := c_20) (by kernel_rfl) (by kernel_rfl) rfl (fun p => ok_20 N p) (loopsAll (by kernel_rfl) ((lookOk_cons (L_ok_20_0 N) lookOk_nil)))
noncomputable def X_82c83 (N : Nat) : Ctx := ⟨tyT, lookF [(83, (S_83 N))], eqT, fun _ => false⟩
noncomputable def c_82c83 : Code := bodyOf Go.Proofs.Tryz.f82
theorem x_82c83 (N : Nat) : CtxOk Go.Proofs.Tryz.prog laidL (X_82c83 N) := ⟨tyOk, eqOk, fun _ _ => (fnsOk_cons (s_83 N) fnsOk_nil).get, by kernel_rfl⟩
noncomputable def nd_82c83_0 : Code := loopAt 0 0 c_82c83
noncomputable def cb_82c83_0 : Code := unloop nd_82c83_0
theorem ne_82c83_0 : nd_82c83_0 = .loop cb_82c83_0 := by kernel_rfl
noncomputable def sh_82c83_0 : List ShA := [.one (.d (.sl [.int .i64, .int .i64, .str])), .one (.d (.int .i64)), .one (.fnv 83), .one (.d (.int .i64)), .one (.d (.int .i64)), .one (.d (.int .i64))]
noncomputable def o_82c83_0 : OutK 0 (TAs [.one (.d (.sl [.int .i64, .int .i64, .str])), .one (.d (.int .i64)), .one (.fnv 83), .one (.d (.int .i64)), .one (.d (.int .i64))]) := (outOne 0 (.exit 0) [0, 1, 2, 8, 9] [] [.one (.d (.sl [.int .i64, .int .i64, .str])), .one (.d (.int .i64)), .one (.fnv 83), .one (.d (.int .i64)), .one (.d (.int .i64))])
noncomputable def b_82c83_0 (N : Nat) (ih : TAs sh_82c83_0 → Option (TAs [.one (.d (.sl [.int .i64, .int .i64, .str])), .one (.d (.int .i64)), .one (.fnv 83), .one (.d (.int .i64)), .one (.d (.int .i64))])) : TAs sh_82c83_0 → Option (TAs [.one (.d (.sl [.int .i64, .int .i64, .str])), .one (.d (.int .i64)), .one (.fnv 83), .one (.d (.int .i64)), .one (.d (.int .i64))]) := fun (y3, y4, _, y5, y6, y7) =>
  (bif (decide (y6 < y7)) then (bif (decide (0 ≤ (IntKind.i64.wrap ((IntKind.u64.wrap (IntKind.i64.wrap (y6 + y7))) / 2 ^ (min (Int.toNat 1) IntKind.u64.bits))) ∧ (IntKind.i64.wrap ((IntKind.u64.wrap (IntKind.i64.wrap (y6 + y7))) / 2 ^ (min (Int.toNat 1) IntKind.u64.bits))) < (List.length y3 : Int))) then ((f_83 N ((List.getD y3 (Int.toNat (IntKind.i64.wrap ((IntKind.u64.wrap (IntKind.i64.wrap (y6 + y7))) / 2 ^ (min (Int.toNat 1) IntKind.u64.bits)))) (0, 0, ByteArray.empty)).1) ((List.getD y3 (Int.toNat (IntKind.i64.wrap ((IntKind.u64.wrap (IntKind.i64.wrap (y6 + y7))) / 2 ^ (min (Int.toNat 1) IntKind.u64.bits)))) (0, 0, ByteArray.empty)).2.1) ((List.getD y3 (Int.toNat (IntKind.i64.wrap ((IntKind.u64.wrap (IntKind.i64.wrap (y6 + y7))) / 2 ^ (min (Int.toNat 1) IntKind.u64.bits)))) (0, 0, ByteArray.empty)).2.2) y4).bind fun r8 => (bif (decide (r8 < 0)) then (ih (y3, y4, (), y5, (IntKind.i64.wrap ((IntKind.i64.wrap ((IntKind.u64.wrap (IntKind.i64.wrap (y6 + y7))) / 2 ^ (min (Int.toNat 1) IntKind.u64.bits))) + 1)), y7)) else (ih (y3, y4, (), y5, y6, (IntKind.i64.wrap ((IntKind.u64.wrap (IntKind.i64.wrap (y6 + y7))) / 2 ^ (min (Int.toNat 1) IntKind.u64.bits))))))) else none) else (some ((y3, y4, (), y5, y6))))
noncomputable def l_82c83_0 (N : Nat) : TAs sh_82c83_0 → Option (TAs [.one (.d (.sl [.int .i64, .int .i64, .str])), .one (.d (.int .i64)), .one (.fnv 83), .one (.d (.int .i64)), .one (.d (.int .i64))]) := iter (b_82c83_0 N) N
noncomputable def lp_82c83_0 (_ : Nat) : Nat → Option LSum := lookL []
noncomputable def L_82c83_0 (N : Nat) : LSum := loopSum [0, 1, 2, 8, 9, 10] [] sh_82c83_0 o_82c83_0 (l_82c83_0 N)
theorem b_ok_82c83_0 (N : Nat) (ih : TAs sh_82c83_0 → Option (TAs [.one (.d (.sl [.int .i64, .int .i64, .str])), .one (.d (.int .i64)), .one (.fnv 83), .one (.d (.int .i64)), .one (.d (.int .i64))])) (p : TAs sh_82c83_0) : b_82c83_0 N ih p = exec (X_82c83 N) Go.Proofs.Tryz.f82.ntmps (lp_82c83_0 N) cb_82c83_0 0 (roundK [0, 1, 2, 8, 9, 10] [] sh_82c83_0 o_82c83_0 ih) (stOf [0, 1, 2, 8, 9, 10] [] sh_82c83_0 p) := by kernel_rfl
theorem L_ok_82c83_0 (N : Nat) : SegOk Go.Proofs.Tryz.prog laidL 0 Go.Proofs.Tryz.f82.ntmps nd_82c83_0 (L_82c83_0 N) :=
  ne_82c83_0 ▸ loop_ok (cur := 0) (lp := lp_82c83_0 N) (x_82c83 N) (fun n => iter (b_82c83_0 N) n) (fun _ => rfl) (fun n p => b_ok_82c83_0 N (iter (b_82c83_0 N) n) p) (loopsAll (by kernel_rfl) (lookOk_nil)) N
noncomputable def lp_82c83 (N : Nat) : Nat → Option LSum := lookL [(0, L_82c83_0 N)]
noncomputable def f_82c83 (N : Nat) (x1 : List (Int × Int × ByteArray)) (x2 : Int) : Option (TAs [.one (.d (.int .i64)), .one (.d (.bool))]) :=
  ((l_82c83_0 N (x1, x2, (), (List.length x1 : Int), 0, (List.length x1 : Int))).bind fun q9 => (bif (decide (q9.2.2.2.2 < q9.2.2.2.1)) then (bif (decide (0 ≤ q9.2.2.2.2 ∧ q9.2.2.2.2 < (List.length q9.1 : Int))) then ((f_83 N ((List.getD q9.1 (Int.toNat q9.2.2.2.2) (0, 0, ByteArray.empty)).1) ((List.getD q9.1 (Int.toNat q9.2.2.2.2) (0, 0, ByteArray.empty)).2.1) ((List.getD q9.1 (Int.toNat q9.2.2.2.2) (0, 0, ByteArray.empty)).2.2) q9.2.1).bind fun r10 => (some (q9.2.2.2.2, (r10 == 0)))) else none) else (some (q9.2.2.2.2, false))))
theorem ok_82c83 (N : Nat) (x1 : List (Int × Int × ByteArray)) (x2 : Int) : f_82c83 N x1 x2 = exec (X_82c83 N) Go.Proofs.Tryz.f82.ntmps (lp_82c83 N) c_82c83 0 (fnK (X_82c83 N) Go.Proofs.Tryz.f82.results.toList 0 [.one (.d (.int .i64)), .one (.d (.bool))]) (fnSt 3 0 [.one (.d (.sl [.int .i64, .int .i64, .str])), .one (.d (.int .i64)), .one (.fnv 83)] (x1, x2, ())) := by kernel_rfl
noncomputable def S_82c83 (N : Nat) : Sum := fnSum 3 0 2 [.one (.d (.sl [.int .i64, .int .i64, .str])), .one (.d (.int .i64)), .one (.fnv 83)] [.one (.d (.int .i64)), .one (.d (.bool))] (fun p => f_82c83 N p.1 p.2.1)
theorem s_82c83 (N : Nat) : SumOk Go.Proofs.Tryz.prog laidL 82 (S_82c83 N) :=
  fn_ok (lp := lp_82c83 N) (x_82c83 N) Go.Proofs.Tryz.func82 (c := c_82c83) (by kernel_rfl) (by kernel_rfl) rfl (fun p => ok_82c83 N p.1 p.2.1) (loopsAll (by kernel_rfl) ((lookOk_cons (L_ok_82c83_0 N) lookOk_nil)))
noncomputable def X_61 (N : Nat) : Ctx := ⟨tyT, lookF [(82, (S_82c83 N))], eqT, fun _ => false⟩
noncomputable def c_61 : Code := bodyOf Go.Proofs.Tryz.f61
theorem x_61 (N : Nat) : CtxOk Go.Proofs.Tryz.prog laidL (X_61 N) := ⟨tyOk, eqOk, fun _ _ => (fnsOk_cons (s_82c83 N) fnsOk_nil).get, by kernel_rfl⟩
noncomputable def lp_61 (_ : Nat) : Nat → Option LSum := lookL []
noncomputable def f_61 (N : Nat) (_x1 : ByteArray) (_x2 : Int) (x3 : List (Int × Int × ByteArray)) (x4 : Int) : Option (TAs [.one (.d (.int .i64))]) :=
  ((f_82c83 N x3 x4).bind fun r5 => (bif r5.2 then (some (IntKind.i64.wrap (r5.1 + 1))) else (some r5.1)))
theorem ok_61 (N : Nat) (x1 : ByteArray) (x2 : Int) (x3 : List (Int × Int × ByteArray)) (x4 : Int) : f_61 N x1 x2 x3 x4 = exec (X_61 N) Go.Proofs.Tryz.f61.ntmps (lp_61 N) c_61 0 (fnK (X_61 N) Go.Proofs.Tryz.f61.results.toList 0 [.one (.d (.int .i64))]) (fnSt 2 0 [.agg [.d (.str), .d (.int .i64), .d (.sl [.int .i64, .int .i64, .str])], .one (.d (.int .i64))] ((x1, x2, x3), x4)) := by kernel_rfl
noncomputable def S_61 (N : Nat) : Sum := fnSum 2 0 1 [.agg [.d (.str), .d (.int .i64), .d (.sl [.int .i64, .int .i64, .str])], .one (.d (.int .i64))] [.one (.d (.int .i64))] (fun p => f_61 N p.1.1 p.1.2.1 p.1.2.2 p.2)
theorem s_61 (N : Nat) : SumOk Go.Proofs.Tryz.prog laidL 61 (S_61 N) :=
  fn_ok (lp := lp_61 N) (x_61 N) Go.Proofs.Tryz.func61 (c := c_61) (by kernel_rfl) (by kernel_rfl) rfl (fun p => ok_61 N p.1.1 p.1.2.1 p.1.2.2 p.2) (loopsAll (by kernel_rfl) (lookOk_nil))
noncomputable def X_66 (N : Nat) : Ctx := ⟨tyT, lookF [(86, (S_86 N)), (67, (S_67 N))], eqT, fun _ => false⟩
noncomputable def c_66 : Code := bodyOf Go.Proofs.Tryz.f66
theorem x_66 (N : Nat) : CtxOk Go.Proofs.Tryz.prog laidL (X_66 N) := ⟨tyOk, eqOk, fun _ _ => (fnsOk_cons (s_86 N) (fnsOk_cons (s_67 N) fnsOk_nil)).get, by kernel_rfl⟩
noncomputable def lp_66 (_ : Nat) : Nat → Option LSum := lookL []
noncomputable def f_66 (N : Nat) (x1 : List Int) : Option (TAs [.one (.slt [.int .u8] 5 1)]) :=
  ((f_86 N x1).bind fun r2 => ((f_67 N ([x1, ([(IntKind.u8.wrap r2), (IntKind.u8.wrap (r2 / 2 ^ (min (Int.toNat 8) IntKind.u32.bits))), (IntKind.u8.wrap (r2 / 2 ^ (min (Int.toNat 16) IntKind.u32.bits))), (IntKind.u8.wrap (r2 / 2 ^ (min (Int.toNat 24) IntKind.u32.bits)))] : List Int)] : List ((List Int)))).bind fun r3 => (some r3)))
theorem ok_66 (N : Nat) (x1 : List Int) : f_66 N x1 = exec (X_66 N) Go.Proofs.Tryz.f66.ntmps (lp_66 N) c_66 0 (fnK (X_66 N) Go.Proofs.Tryz.f66.results.toList 0 [.one (.slt [.int .u8] 5 1)]) (fnSt 1 0 [.one (.d (.sl [.int .u8]))] x1) := by kernel_rfl
noncomputable def S_66 (N : Nat) : Sum := fnSum 1 0 1 [.one (.d (.sl [.int .u8]))] [.one (.slt [.int .u8] 5 1)] (fun p => f_66 N p)
theorem s_66 (N : Nat) : SumOk Go.Proofs.Tryz.prog laidL 66 (S_66 N) :=
  fn_ok (lp := lp_66 N) (x_66 N) Go.Proofs.Tryz.func66 (c := c_66) (by kernel_rfl) (by kernel_rfl) rfl (fun p => ok_66 N p) (loopsAll (by kernel_rfl) (lookOk_nil))
noncomputable def X_72 (N : Nat) : Ctx := ⟨tyT, lookF [(66, (S_66 N)), (89, (S_89 N)), (73, cl_73)], eqT, fun _ => false⟩
noncomputable def c_72 : Code := bodyOf Go.Proofs.Tryz.f72
theorem x_72 (N : Nat) : CtxOk Go.Proofs.Tryz.prog laidL (X_72 N) := ⟨tyOk, eqOk, fun _ _ => (fnsOk_cons (s_66 N) (fnsOk_cons (s_89 N) (fnsOk_cons cl_73_ok fnsOk_nil))).get, by kernel_rfl⟩
noncomputable def lp_72 (_ : Nat) : Nat → Option LSum := lookL []
noncomputable def f_72 (N : Nat) (x1 : List Int) : Option (TAs [.one (.slt [.int .u8] 5 1), .one (.d (.err 88))]) :=
  (bif (decide ((IntKind.i64.wrap ((List.length x1 : Int) - 4)) < 0)) then (some (([] : List Int), (some 4))) else (bif (decide (0 ≤ (IntKind.i64.wrap ((List.length x1 : Int) - 4)) ∧ (IntKind.i64.wrap ((List.length x1 : Int) - 4)) ≤ (List.length x1 : Int))) then (bif (decide (0 ≤ (0 : Int) ∧ (0 : Int) ≤ (IntKind.i64.wrap ((List.length x1 : Int) - 4)))) then ((f_66 N (List.drop (Int.toNat (0 : Int)) (List.take (Int.toNat (IntKind.i64.wrap ((List.length x1 : Int) - 4))) x1))).bind fun r2 => ((f_89 N r2 x1).bind fun r3 => (bif (!r3) then (some (([] : List Int), (some 4))) else (bif (decide (0 ≤ (IntKind.i64.wrap ((List.length x1 : Int) - 4)) ∧ (IntKind.i64.wrap ((List.length x1 : Int) - 4)) ≤ (List.length x1 : Int))) then (bif (decide (0 ≤ (0 : Int) ∧ (0 : Int) ≤ (IntKind.i64.wrap ((List.length x1 : Int) - 4)))) then ((cloneF [.int .u8] 1 (List.drop (Int.toNat (0 : Int)) (List.take (Int.toNat (IntKind.i64.wrap ((List.length x1 : Int) - 4))) x1))).bind fun r4 => (some (r4, none))) else none) else none)))) else none) else none))
theorem ok_72 (N : Nat) (x1 : List Int) : f_72 N x1 = exec (X_72 N) Go.Proofs.Tryz.f72.ntmps (lp_72 N) c_72 0 (fnK (X_72 N) Go.Proofs.Tryz.f72.results.toList 0 [.one (.slt [.int .u8] 5 1), .one (.d (.err 88))]) (fnSt 1 0 [.one (.d (.sl [.int .u8]))] x1) := by kernel_rfl
noncomputable def S_72 (N : Nat) : Sum := fnSum 1 0 2 [.one (.d (.sl [.int .u8]))] [.one (.slt [.int .u8] 5 1), .one (.d (.err 88))] (fun p => f_72 N p)
theorem s_72 (N : Nat) : SumOk Go.Proofs.Tryz.prog laidL 72 (S_72 N) :=
  fn_ok (lp := lp_72 N) (x_72 N) Go.Proofs.Tryz.func72 (c := c_72) (by kernel_rfl) (by kernel_rfl) rfl (fun p => ok_72 N p) (loopsAll (by kernel_rfl) (lookOk_nil))
noncomputable def X_26 (N : Nat) : Ctx := ⟨tyT, lookF [(28, (S_28 N)), (61, (S_61 N))], eqT, fun _ => false⟩
noncomputable def c_26 : Code := bodyOf Go.Proofs.Tryz.f26
theorem x_26 (N : Nat) : CtxOk Go.Proofs.Tryz.prog laidL (X_26 N) := ⟨tyOk, eqOk, fun _ _ => (fnsOk_cons (s_28 N) (fnsOk_cons (s_61 N) fnsOk_nil)).get, by kernel_rfl⟩
noncomputable def lp_26 (_ : Nat) : Nat → Option LSum := lookL []
noncomputable def f_26 (N : Nat) (x1 : ByteArray) (x2 : Int) (x3 : List (Int × Int × ByteArray)) (x4 : Int) : Option (TAs [.one (.d (.int .i64)), .one (.d (.str)), .one (.d (.err 88))]) :=
  ((f_28 N x1 x2 x3).bind fun r5 => (bif (!(Option.isNone r5)) then (some (0, ⟨#[]⟩, r5)) else ((f_61 N x1 x2 x3 x4).bind fun r6 => (bif (r6 == 0) then (some (x2, x1, none)) else (bif (decide (0 ≤ (IntKind.i64.wrap (r6 - 1)) ∧ (IntKind.i64.wrap (r6 - 1)) < (List.length x3 : Int))) then (bif (decide (0 ≤ (IntKind.i64.wrap (r6 - 1)) ∧ (IntKind.i64.wrap (r6 - 1)) < (List.length x3 : Int))) then (some ((List.getD x3 (Int.toNat (IntKind.i64.wrap (r6 - 1))) (0, 0, ByteArray.empty)).2.1, (List.getD x3 (Int.toNat (IntKind.i64.wrap (r6 - 1))) (0, 0, ByteArray.empty)).2.2, none)) else none) else none)))))
theorem ok_26 (N : Nat) (x1 : ByteArray) (x2 : Int) (x3 : List (Int × Int × ByteArray)) (x4 : Int) : f_26 N x1 x2 x3 x4 = exec (X_26 N) Go.Proofs.Tryz.f26.ntmps (lp_26 N) c_26 0 (fnK (X_26 N) Go.Proofs.Tryz.f26.results.toList 0 [.one (.d (.int .i64)), .one (.d (.str)), .one (.d (.err 88))]) (fnSt 2 0 [.agg [.d (.str), .d (.int .i64), .d (.sl [.int .i64, .int .i64, .str])], .one (.d (.int .i64))] ((x1, x2, x3), x4)) := by kernel_rfl
noncomputable def S_26 (N : Nat) : Sum := fnSum 2 0 3 [.agg [.d (.str), .d (.int .i64), .d (.sl [.int .i64, .int .i64, .str])], .one (.d (.int .i64))] [.one (.d (.int .i64)), .one (.d (.str)), .one (.d (.err 88))] (fun p => f_26 N p.1.1 p.1.2.1 p.1.2.2 p.2)
theorem s_26 (N : Nat) : SumOk Go.Proofs.Tryz.prog laidL 26 (S_26 N) :=
  fn_ok (lp := lp_26 N) (x_26 N) Go.Proofs.Tryz.func26 (c := c_26) (by kernel_rfl) (by kernel_rfl) rfl (fun p => ok_26 N p.1.1 p.1.2.1 p.1.2.2 p.2) (loopsAll (by kernel_rfl) (lookOk_nil))
noncomputable def X_27 (N : Nat) : Ctx := ⟨tyT, lookF [(28, (S_28 N)), (61, (S_61 N))], eqT, fun _ => false⟩
noncomputable def c_27 : Code := bodyOf Go.Proofs.Tryz.f27
theorem x_27 (N : Nat) : CtxOk Go.Proofs.Tryz.prog laidL (X_27 N) := ⟨tyOk, eqOk, fun _ _ => (fnsOk_cons (s_28 N) (fnsOk_cons (s_61 N) fnsOk_nil)).get, by kernel_rfl⟩
noncomputable def lp_27 (_ : Nat) : Nat → Option LSum := lookL []
noncomputable def f_27 (N : Nat) (x1 : ByteArray) (x2 : Int) (x3 : List (Int × Int × ByteArray)) (x4 : Int) : Option (TAs [.one (.d (.int .i64)), .one (.d (.err 88))]) :=
  ((f_28 N x1 x2 x3).bind fun r5 => (bif (!(Option.isNone r5)) then (some (0, r5)) else ((f_61 N x1 x2 x3 x4).bind fun r6 => (bif (r6 == (List.length x3 : Int)) then (some (0, (some 6))) else (bif (decide (0 ≤ r6 ∧ r6 < (List.length x3 : Int))) then (some ((List.getD x3 (Int.toNat r6) (0, 0, ByteArray.empty)).1, none)) else none)))))
theorem ok_27 (N : Nat) (x1 : ByteArray) (x2 : Int) (x3 : List (Int × Int × ByteArray)) (x4 : Int) : f_27 N x1 x2 x3 x4 = exec (X_27 N) Go.Proofs.Tryz.f27.ntmps (lp_27 N) c_27 0 (fnK (X_27 N) Go.Proofs.Tryz.f27.results.toList 0 [.one (.d (.int .i64)), .one (.d (.err 88))]) (fnSt 2 0 [.agg [.d (.str), .d (.int .i64), .d (.sl [.int .i64, .int .i64, .str])], .one (.d (.int .i64))] ((x1, x2, x3), x4)) := by kernel_rfl
noncomputable def S_27 (N : Nat) : Sum := fnSum 2 0 2 [.agg [.d (.str), .d (.int .i64), .d (.sl [.int .i64, .int .i64, .str])], .one (.d (.int .i64))] [.one (.d (.int .i64)), .one (.d (.err 88))] (fun p => f_27 N p.1.1 p.1.2.1 p.1.2.2 p.2)
theorem s_27 (N : Nat) : SumOk Go.Proofs.Tryz.prog laidL 27 (S_27 N) :=
  fn_ok (lp := lp_27 N) (x_27 N) Go.Proofs.Tryz.func27 (c := c_27) (by kernel_rfl) (by kernel_rfl) rfl (fun p => ok_27 N p.1.1 p.1.2.1 p.1.2.2 p.2) (loopsAll (by kernel_rfl) (lookOk_nil))
noncomputable def X_31 (N : Nat) : Ctx := ⟨tyT, lookF [(65, (S_65 N)), (48, (S_48 N)), (67, (S_67 N)), (66, (S_66 N))], eqT, fun _ => false⟩
noncomputable def c_31 : Code := bodyOf Go.Proofs.Tryz.f31
theorem x_31 (N : Nat) : CtxOk Go.Proofs.Tryz.prog laidL (X_31 N) := ⟨tyOk, eqOk, fun _ _ => (fnsOk_cons (s_65 N) (fnsOk_cons (s_48 N) (fnsOk_cons (s_67 N) (fnsOk_cons (s_66 N) fnsOk_nil)))).get, by kernel_rfl⟩
noncomputable def lp_31 (_ : Nat) : Nat → Option LSum := lookL []
noncomputable def f_31 (N : Nat) (x1 : Int) (x2 : List Int) : Option (TAs [.one (.slt [.int .u8] 5 1), .one (.d (.err 88))]) :=
  ((f_65 N x1).bind fun r3 => (bif (!r3) then (some (([] : List Int), (some 1))) else (bif (decide ((List.length x2 : Int) > 1024)) then (some (([] : List Int), (some 5))) else (bif (decide ((List.length ([116, 109] : List Int) + List.length ([x1] : List Int)) * 1 ≤ 140737488355328)) then ((f_48 N (([116, 109] : List Int) ++ ([x1] : List Int)) (IntKind.u16.wrap (List.length x2 : Int))).bind fun r4 => ((f_67 N ([r4, x2] : List ((List Int)))).bind fun r5 => ((f_66 N r5).bind fun r6 => (some (r6, none))))) else none))))
theorem ok_31 (N : Nat) (x1 : Int) (x2 : List Int) : f_31 N x1 x2 = exec (X_31 N) Go.Proofs.Tryz.f31.ntmps (lp_31 N) c_31 0 (fnK (X_31 N) Go.Proofs.Tryz.f31.results.toList 0 [.one (.slt [.int .u8] 5 1), .one (.d (.err 88))]) (fnSt 2 0 [.one (.d (.int .u8)), .one (.d (.sl [.int .u8]))] (x1, x2)) := by kernel_rfl
noncomputable def S_31 (N : Nat) : Sum := fnSum 2 0 2 [.one (.d (.int .u8)), .one (.d (.sl [.int .u8]))] [.one (.slt [.int .u8] 5 1), .one (.d (.err 88))] (fun p => f_31 N p.1 p.2)
theorem s_31 (N : Nat) : SumOk Go.Proofs.Tryz.prog laidL 31 (S_31 N) :=
  fn_ok (lp := lp_31 N) (x_31 N) Go.Proofs.Tryz.func31 (c := c_31) (by kernel_rfl) (by kernel_rfl) rfl (fun p => ok_31 N p.1 p.2) (loopsAll (by kernel_rfl) (lookOk_nil))
noncomputable def X_36 (N : Nat) : Ctx := ⟨tyT, lookF [(65, (S_65 N)), (71, (S_71 N)), (72, (S_72 N))], eqT, fun _ => false⟩
noncomputable def c_36 : Code := bodyOf Go.Proofs.Tryz.f36
theorem x_36 (N : Nat) : CtxOk Go.Proofs.Tryz.prog laidL (X_36 N) := ⟨tyOk, eqOk, fun _ _ => (fnsOk_cons (s_65 N) (fnsOk_cons (s_71 N) (fnsOk_cons (s_72 N) fnsOk_nil))).get, by kernel_rfl⟩
noncomputable def lp_36 (_ : Nat) : Nat → Option LSum := lookL []
noncomputable def f_36 (N : Nat) (x1 : Int) (x2 : List Int) : Option (TAs [.one (.d (.sl [.int .u8])), .one (.d (.err 88))]) :=
  ((f_65 N x1).bind fun r3 => (bif (!r3) then (some (([] : List Int), (some 1))) else ((f_71 N x2).bind fun r4 => (bif (!(Option.isNone r4.2.2)) then (some (([] : List Int), r4.2.2)) else (bif (r4.1 != x1) then (some (([] : List Int), (some 3))) else (bif (r4.2.1 != (List.length x2 : Int)) then (some (([] : List Int), (some 3))) else ((f_72 N x2).bind fun r5 => (bif (!(Option.isNone r5.2)) then (some (([] : List Int), r5.2)) else (bif (decide (0 ≤ (List.length r5.1 : Int) ∧ (List.length r5.1 : Int) ≤ (List.length r5.1 : Int))) then (bif (decide (0 ≤ (5 : Int) ∧ (5 : Int) ≤ (List.length r5.1 : Int))) then (some ((List.drop (Int.toNat (5 : Int)) (List.take (Int.toNat (List.length r5.1 : Int)) r5.1)), none)) else none) else none)))))))))
theorem ok_36 (N : Nat) (x1 : Int) (x2 : List Int) : f_36 N x1 x2 = exec (X_36 N) Go.Proofs.Tryz.f36.ntmps (lp_36 N) c_36 0 (fnK (X_36 N) Go.Proofs.Tryz.f36.results.toList 0 [.one (.d (.sl [.int .u8])), .one (.d (.err 88))]) (fnSt 2 0 [.one (.d (.int .u8)), .one (.d (.sl [.int .u8]))] (x1, x2)) := by kernel_rfl
noncomputable def S_36 (N : Nat) : Sum := fnSum 2 0 2 [.one (.d (.int .u8)), .one (.d (.sl [.int .u8]))] [.one (.d (.sl [.int .u8])), .one (.d (.err 88))] (fun p => f_36 N p.1 p.2)
theorem s_36 (N : Nat) : SumOk Go.Proofs.Tryz.prog laidL 36 (S_36 N) :=
  fn_ok (lp := lp_36 N) (x_36 N) Go.Proofs.Tryz.func36 (c := c_36) (by kernel_rfl) (by kernel_rfl) rfl (fun p => ok_36 N p.1 p.2) (loopsAll (by kernel_rfl) (lookOk_nil))
noncomputable def X_6 (N : Nat) : Ctx := ⟨tyT, lookF [(26, (S_26 N)), (27, (S_27 N)), (12, (S_12 N))], eqT, fun _ => false⟩
noncomputable def c_6 : Code := bodyOf Go.Proofs.Tryz.f6
theorem x_6 (N : Nat) : CtxOk Go.Proofs.Tryz.prog laidL (X_6 N) := ⟨tyOk, eqOk, fun _ _ => (fnsOk_cons (s_26 N) (fnsOk_cons (s_27 N) (fnsOk_cons (s_12 N) fnsOk_nil))).get, by kernel_rfl⟩
noncomputable def lp_6 (_ : Nat) : Nat → Option LSum := lookL []
noncomputable def f_6 (N : Nat) : Option (TAs [.one (.d (.bool))]) :=
  ((f_26 N (⟨#[90]⟩) 0 ([(100, 3600, ⟨#[83]⟩)] : List (Int × Int × ByteArray)) 99).bind fun r1 => ((f_26 N (⟨#[90]⟩) 0 ([(100, 3600, ⟨#[83]⟩)] : List (Int × Int × ByteArray)) 100).bind fun r2 => ((f_27 N (⟨#[90]⟩) 0 ([(100, 3600, ⟨#[83]⟩)] : List (Int × Int × ByteArray)) 99).bind fun r3 => ((f_27 N (⟨#[90]⟩) 0 ([(100, 3600, ⟨#[83]⟩)] : List (Int × Int × ByteArray)) 100).bind fun r4 => (bif (Option.isNone r1.2.2) then (bif (Option.isNone r2.2.2) then (bif (Option.isNone r3.2) then (bif (r1.1 == 0) then (bif ((ByteArray.toList r1.2.1) == (ByteArray.toList (⟨#[90]⟩ : ByteArray))) then (bif (r2.1 == 3600) then (bif ((ByteArray.toList r2.2.1) == (ByteArray.toList (⟨#[83]⟩ : ByteArray))) then (bif (r3.1 == 100) then ((f_12 N r4.2).bind fun r5 => (some (r5 == 6))) else (some false)) else (some false)) else (some false)) else (some false)) else (some false)) else (some false)) else (some false)) else (some false))))))
theorem ok_6 (N : Nat) : f_6 N = exec (X_6 N) Go.Proofs.Tryz.f6.ntmps (lp_6 N) c_6 0 (fnK (X_6 N) Go.Proofs.Tryz.f6.results.toList 0 [.one (.d (.bool))]) (fnSt 0 0 [] ()) := by kernel_rfl
noncomputable def S_6 (N : Nat) : Sum := fnSum 0 0 1 [] [.one (.d (.bool))] (fun _ => f_6 N)
theorem s_6 (N : Nat) : SumOk Go.Proofs.Tryz.prog laidL 6 (S_6 N) :=
  fn_ok (lp := lp_6 N) (x_6 N) Go.Proofs.Tryz.func6 (c := c_6) (by kernel_rfl) (by kernel_rfl) rfl (fun _ => ok_6 N) (loopsAll (by kernel_rfl) (lookOk_nil))
noncomputable def X_7 (N : Nat) : Ctx := ⟨tyT, lookF [(28, (S_28 N)), (29, (S_29 N)), (30, (S_30 N)), (31, (S_31 N))], eqT, fun _ => false⟩
noncomputable def c_7 : Code := bodyOf Go.Proofs.Tryz.f7
theorem x_7 (N : Nat) : CtxOk Go.Proofs.Tryz.prog laidL (X_7 N) := ⟨tyOk, eqOk, fun _ _ => (fnsOk_cons (s_28 N) (fnsOk_cons (s_29 N) (fnsOk_cons (s_30 N) (fnsOk_cons (s_31 N) fnsOk_nil)))).get, by kernel_rfl⟩
noncomputable def nd_7_0 : Code := loopAt 0 0 c_7
noncomputable def cb_7_0 : Code := unloop nd_7_0
theorem ne_7_0 : nd_7_0 = .loop cb_7_0 := by kernel_rfl
noncomputable def sh_7_0 : List ShA := [.one (.slt [.int .u8] 5 1), .one (.d (.sl [.int .i64, .int .i64, .str])), .one (.d (.int .i64)), .one (.d (.int .i64))]
noncomputable def o_7_0 : OutK 0 (((TAs [.one (.slt [.int .u8] 5 1), .one (.d (.err 88))]) ⊕ (TAs [.one (.slt [.int .u8] 5 1)]))) := (outTwo (outOne 0 .ret [2, 3] [] [.one (.slt [.int .u8] 5 1), .one (.d (.err 88))]) (outOne 0 (.exit 0) [5] [] [.one (.slt [.int .u8] 5 1)]))
noncomputable def b_7_0 (N : Nat) (ih : TAs sh_7_0 → Option (((TAs [.one (.slt [.int .u8] 5 1), .one (.d (.err 88))]) ⊕ (TAs [.one (.slt [.int .u8] 5 1)])))) : TAs sh_7_0 → Option (((TAs [.one (.slt [.int .u8] 5 1), .one (.d (.err 88))]) ⊕ (TAs [.one (.slt [.int .u8] 5 1)]))) := fun (y7, y8, y9, y10) =>
  (bif (decide (y10 < y9)) then (bif (decide (0 ≤ y10 ∧ y10 < (List.length y8 : Int))) then ((f_30 N y7 ((List.getD y8 (Int.toNat y10) (0, 0, ByteArray.empty)).1)).bind fun r11 => ((f_30 N r11 ((List.getD y8 (Int.toNat y10) (0, 0, ByteArray.empty)).2.1)).bind fun r12 => ((f_29 N r12 ((List.getD y8 (Int.toNat y10) (0, 0, ByteArray.empty)).2.2)).bind fun r13 => (bif (!(Option.isNone r13.2)) then (some (.inl (([] : List Int), r13.2))) else (ih (r13.1, y8, y9, (IntKind.i64.wrap (y10 + 1)))))))) else none) else (some (.inr y7)))
noncomputable def l_7_0 (N : Nat) : TAs sh_7_0 → Option (((TAs [.one (.slt [.int .u8] 5 1), .one (.d (.err 88))]) ⊕ (TAs [.one (.slt [.int .u8] 5 1)]))) := iter (b_7_0 N) N
noncomputable def lp_7_0 (_ : Nat) : Nat → Option LSum := lookL []
noncomputable def L_7_0 (N : Nat) : LSum := loopSum [5, 34, 35, 36] [] sh_7_0 o_7_0 (l_7_0 N)
theorem b_ok_7_0 (N : Nat) (ih : TAs sh_7_0 → Option (((TAs [.one (.slt [.int .u8] 5 1), .one (.d (.err 88))]) ⊕ (TAs [.one (.slt [.int .u8] 5 1)])))) (p : TAs sh_7_0) : b_7_0 N ih p = exec (X_7 N) Go.Proofs.Tryz.f7.ntmps (lp_7_0 N) cb_7_0 0 (roundK [5, 34, 35, 36] [] sh_7_0 o_7_0 ih) (stOf [5, 34, 35, 36] [] sh_7_0 p) := by kernel_rfl
theorem L_ok_7_0 (N : Nat) : SegOk Go.Proofs.Tryz.prog laidL 0 Go.Proofs.Tryz.f7.ntmps nd_7_0 (L_7_0 N) :=
  ne_7_0 ▸ loop_ok (cur := 0) (lp := lp_7_0 N) (x_7 N) (fun n => iter (b_7_0 N) n) (fun _ => rfl) (fun n p => b_ok_7_0 N (iter (b_7_0 N) n) p) (loopsAll (by kernel_rfl) (lookOk_nil)) N
noncomputable def lp_7 (N : Nat) : Nat → Option LSum := lookL [(0, L_7_0 N)]
noncomputable def f_7 (N : Nat) (x1 : ByteArray) (x2 : Int) (x3 : List (Int × Int × ByteArray)) : Option (TAs [.one (.slt [.int .u8] 5 1), .one (.d (.err 88))]) :=
  ((f_28 N x1 x2 x3).bind fun r4 => (bif (!(Option.isNone r4)) then (some (([] : List Int), r4)) else ((f_29 N ([] : List Int) x1).bind fun r5 => (bif (!(Option.isNone r5.2)) then (some (([] : List Int), r5.2)) else ((f_30 N r5.1 x2).bind fun r6 => (bif (decide ((List.length r6 + List.length ([(IntKind.u8.wrap (List.length x3 : Int))] : List Int)) * 1 ≤ 140737488355328)) then ((l_7_0 N ((r6 ++ ([(IntKind.u8.wrap (List.length x3 : Int))] : List Int)), x3, (List.length x3 : Int), 0)).bind fun q => (match q with | .inl q14 => (some (q14.1, q14.2)) | .inr q15 => ((f_31 N 6 q15).bind fun r16 => (some (r16.1, r16.2))))) else none))))))
theorem ok_7 (N : Nat) (x1 : ByteArray) (x2 : Int) (x3 : List (Int × Int × ByteArray)) : f_7 N x1 x2 x3 = exec (X_7 N) Go.Proofs.Tryz.f7.ntmps (lp_7 N) c_7 0 (fnK (X_7 N) Go.Proofs.Tryz.f7.results.toList 0 [.one (.slt [.int .u8] 5 1), .one (.d (.err 88))]) (fnSt 1 0 [.agg [.d (.str), .d (.int .i64), .d (.sl [.int .i64, .int .i64, .str])]] (x1, x2, x3)) := by kernel_rfl
noncomputable def S_7 (N : Nat) : Sum := fnSum 1 0 2 [.agg [.d (.str), .d (.int .i64), .d (.sl [.int .i64, .int .i64, .str])]] [.one (.slt [.int .u8] 5 1), .one (.d (.err 88))] (fun p => f_7 N p.1 p.2.1 p.2.2)
theorem s_7 (N : Nat) : SumOk Go.Proofs.Tryz.prog laidL 7 (S_7 N) :=
  fn_ok (lp := lp_7 N) (x_7 N) Go.Proofs.Tryz.func7 (c := c_7) (by kernel_rfl) (by kernel_rfl) rfl (fun p => ok_7 N p.1 p.2.1 p.2.2) (loopsAll (by kernel_rfl) ((lookOk_cons (L_ok_7_0 N) lookOk_nil)))
noncomputable def X_10 (N : Nat) : Ctx := ⟨tyT, lookF [(36, (S_36 N)), (37, (S_37 N)), (38, (S_38 N)), (39, (S_39 N)), (40, (S_40 N)), (41, (S_41 N)), (28, (S_28 N))], eqT, fun _ => false⟩
noncomputable def c_10 : Code := bodyOf Go.Proofs.Tryz.f10
theorem x_10 (N : Nat) : CtxOk Go.Proofs.Tryz.prog laidL (X_10 N) := ⟨tyOk, eqOk, fun _ _ => (fnsOk_cons (s_36 N) (fnsOk_cons (s_37 N) (fnsOk_cons (s_38 N) (fnsOk_cons (s_39 N) (fnsOk_cons (s_40 N) (fnsOk_cons (s_41 N) (fnsOk_cons (s_28 N) fnsOk_nil))))))).get, by kernel_rfl⟩
noncomputable def nd_10_0 : Code := loopAt 0 0 c_10
noncomputable def cb_10_0 : Code := unloop nd_10_0
theorem ne_10_0 : nd_10_0 = .loop cb_10_0 := by kernel_rfl
noncomputable def sh_10_0 : List ShA := [.one (.ptr 160 0), .one (.ptr 416 0), .one (.ptr 240 0), .one (.d (.int .u8)), .one (.d (.int .u8)), .agg [.d (.str), .d (.int .i64), .slt [.int .i64, .int .i64, .str] 69 3], .agg [.d (.str), .d (.int .i64), .slt [.int .i64, .int .i64, .str] 69 3], .agg [.d (.sl [.int .u8]), .d (.bool)]]
noncomputable def o_10_0 : OutK 0 (TAs [.one (.ptr 160 0), .one (.ptr 416 0), .one (.ptr 240 0), .agg [.d (.str), .d (.int .i64), .slt [.int .i64, .int .i64, .str] 69 3], .agg [.d (.str), .d (.int .i64), .slt [.int .i64, .int .i64, .str] 69 3], .agg [.d (.sl [.int .u8]), .d (.bool)]]) := (outOne 0 (.exit 0) [2, 6, 7] [160, 240, 416] [.one (.ptr 160 0), .one (.ptr 416 0), .one (.ptr 240 0), .agg [.d (.str), .d (.int .i64), .slt [.int .i64, .int .i64, .str] 69 3], .agg [.d (.str), .d (.int .i64), .slt [.int .i64, .int .i64, .str] 69 3], .agg [.d (.sl [.int .u8]), .d (.bool)]])
noncomputable def b_10_0 (N : Nat) (ih : TAs sh_10_0 → Option (TAs [.one (.ptr 160 0), .one (.ptr 416 0), .one (.ptr 240 0), .agg [.d (.str), .d (.int .i64), .slt [.int .i64, .int .i64, .str] 69 3], .agg [.d (.str), .d (.int .i64), .slt [.int .i64, .int .i64, .str] 69 3], .agg [.d (.sl [.int .u8]), .d (.bool)]])) : TAs sh_10_0 → Option (TAs [.one (.ptr 160 0), .one (.ptr 416 0), .one (.ptr 240 0), .agg [.d (.str), .d (.int .i64), .slt [.int .i64, .int .i64, .str] 69 3], .agg [.d (.str), .d (.int .i64), .slt [.int .i64, .int .i64, .str] 69 3], .agg [.d (.sl [.int .u8]), .d (.bool)]]) := fun (_, _, _, y7, y8, (y9, y10, y11), (y12, y13, y14), (y15, y16)) =>
  (bif (decide (y8 < y7)) then ((f_39 N y15 y16).bind fun r17 => ((f_39 N r17.2.1 r17.2.2).bind fun r18 => ((f_38 N r18.2.1 r18.2.2).bind fun r19 => (bif (decide ((List.length y14 + List.length ([(r17.1, r18.1, r19.1)] : List (Int × Int × ByteArray))) * 32 ≤ 140737488355328)) then (ih ((), (), (), y7, (IntKind.u8.wrap (y8 + 1)), (y9, y10, y11), (y12, y13, (y14 ++ ([(r17.1, r18.1, r19.1)] : List (Int × Int × ByteArray)))), (r19.2.1, r19.2.2))) else none)))) else (some (((), (), (), (y9, y10, y11), (y12, y13, y14), (y15, y16)))))
noncomputable def l_10_0 (N : Nat) : TAs sh_10_0 → Option (TAs [.one (.ptr 160 0), .one (.ptr 416 0), .one (.ptr 240 0), .agg [.d (.str), .d (.int .i64), .slt [.int .i64, .int .i64, .str] 69 3], .agg [.d (.str), .d (.int .i64), .slt [.int .i64, .int .i64, .str] 69 3], .agg [.d (.sl [.int .u8]), .d (.bool)]]) := iter (b_10_0 N) N
noncomputable def lp_10_0 (_ : Nat) : Nat → Option LSum := lookL []
noncomputable def L_10_0 (N : Nat) : LSum := loopSum [2, 6, 7, 25, 26] [160, 240, 416] sh_10_0 o_10_0 (l_10_0 N)
theorem b_ok_10_0 (N : Nat) (ih : TAs sh_10_0 → Option (TAs [.one (.ptr 160 0), .one (.ptr 416 0), .one (.ptr 240 0), .agg [.d (.str), .d (.int .i64), .slt [.int .i64, .int .i64, .str] 69 3], .agg [.d (.str), .d (.int .i64), .slt [.int .i64, .int .i64, .str] 69 3], .agg [.d (.sl [.int .u8]), .d (.bool)]])) (p : TAs sh_10_0) : b_10_0 N ih p = exec (X_10 N) Go.Proofs.Tryz.f10.ntmps (lp_10_0 N) cb_10_0 0 (roundK [2, 6, 7, 25, 26] [160, 240, 416] sh_10_0 o_10_0 ih) (stOf [2, 6, 7, 25, 26] [160, 240, 416] sh_10_0 p) := by kernel_rfl
theorem L_ok_10_0 (N : Nat) : SegOk Go.Proofs.Tryz.prog laidL 0 Go.Proofs.Tryz.f10.ntmps nd_10_0 (L_10_0 N) :=
  ne_10_0 ▸ loop_ok (cur := 0) (lp := lp_10_0 N) (x_10 N) (fun n => iter (b_10_0 N) n) (fun _ => rfl) (fun n p => b_ok_10_0 N (iter (b_10_0 N) n) p) (loopsAll (by kernel_rfl) (lookOk_nil)) N
noncomputable def lp_10 (N : Nat) : Nat → Option LSum := lookL [(0, L_10_0 N)]
noncomputable def f_10 (N : Nat) (x1 : List Int) : Option (TAs [.agg [.d (.str), .d (.int .i64), .slt [.int .i64, .int .i64, .str] 69 3], .one (.d (.err 88))]) :=
  ((f_36 N 6 x1).bind fun r2 => (bif (!(Option.isNone r2.2)) then (some ((ByteArray.empty, 0, ([] : List (Int × Int × ByteArray))), r2.2)) else ((f_37 N r2.1).bind fun r3 => ((f_38 N r3.2.1 r3.2.2).bind fun r4 => ((f_39 N r4.2.1 r4.2.2).bind fun r5 => ((f_40 N r5.2.1 r5.2.2).bind fun r6 => ((l_10_0 N ((), (), (), r6.1, 0, (ByteArray.empty, 0, ([] : List (Int × Int × ByteArray))), (r4.1, r5.1, ([] : List (Int × Int × ByteArray))), (r6.2.1, r6.2.2))).bind fun q20 => ((f_41 N q20.2.2.2.2.2.1 q20.2.2.2.2.2.2).bind fun r21 => (bif (!(Option.isNone r21.1)) then (some ((ByteArray.empty, 0, ([] : List (Int × Int × ByteArray))), (some 3))) else ((f_28 N q20.2.2.2.2.1.1 q20.2.2.2.2.1.2.1 q20.2.2.2.2.1.2.2).bind fun r22 => (bif (!(Option.isNone r22)) then (some ((ByteArray.empty, 0, ([] : List (Int × Int × ByteArray))), (some 3))) else (some ((q20.2.2.2.2.1.1, q20.2.2.2.2.1.2.1, q20.2.2.2.2.1.2.2), none)))))))))))))
theorem ok_10 (N : Nat) (x1 : List Int) : f_10 N x1 = exec (X_10 N) Go.Proofs.Tryz.f10.ntmps (lp_10 N) c_10 0 (fnK (X_10 N) Go.Proofs.Tryz.f10.results.toList 0 [.agg [.d (.str), .d (.int .i64), .slt [.int .i64, .int .i64, .str] 69 3], .one (.d (.err 88))]) (fnSt 1 0 [.one (.d (.sl [.int .u8]))] x1) := by kernel_rfl
noncomputable def S_10 (N : Nat) : Sum := fnSum 1 0 2 [.one (.d (.sl [.int .u8]))] [.agg [.d (.str), .d (.int .i64), .slt [.int .i64, .int .i64, .str] 69 3], .one (.d (.err 88))] (fun p => f_10 N p)
theorem s_10 (N : Nat) : SumOk Go.Proofs.Tryz.prog laidL 10 (S_10 N) :=
  fn_ok (lp := lp_10 N) (x_10 N) Go.Proofs.Tryz.func10 (c := c_10) (by kernel_rfl) (by kernel_rfl) rfl (fun p => ok_10 N p) (loopsAll (by kernel_rfl) ((lookOk_cons (L_ok_10_0 N) lookOk_nil)))
noncomputable def X_16 (N : Nat) : Ctx := ⟨tyT, lookF [(23, (S_23 N)), (7, (S_7 N)), (30, (S_30 N)), (49, (S_49 N)), (48, (S_48 N)), (31, (S_31 N))], eqT, fun _ => false⟩
noncomputable def c_16 : Code := bodyOf Go.Proofs.Tryz.f16
theorem x_16 (N : Nat) : CtxOk Go.Proofs.Tryz.prog laidL (X_16 N) := ⟨tyOk, eqOk, fun _ _ => (fnsOk_cons (s_23 N) (fnsOk_cons (s_7 N) (fnsOk_cons (s_30 N) (fnsOk_cons (s_49 N) (fnsOk_cons (s_48 N) (fnsOk_cons (s_31 N) fnsOk_nil)))))).get, by kernel_rfl⟩
noncomputable def nd_16_0 : Code := loopAt 0 0 c_16
noncomputable def cb_16_0 : Code := unloop nd_16_0
theorem ne_16_0 : nd_16_0 = .loop cb_16_0 := by kernel_rfl
noncomputable def sh_16_0 : List ShA := [.one (.ptr 144 0), .one (.slt [.int .u8] 5 1), .one (.slt [.int .u8] 5 1), .agg [.d (.arr .i64 5)], .one (.d (.int .i64)), .agg [.d (.int .i64), .d (.int .i64), .d (.int .i64), .d (.int .i64), .d (.int .i64), .d (.int .i64), .d (.bool), .d (.str), .d (.int .i64), .d (.sl [.int .i64, .int .i64, .str])]]
noncomputable def o_16_0 : OutK 0 (TAs [.one (.ptr 144 0), .one (.slt [.int .u8] 5 1), .one (.slt [.int .u8] 5 1), .agg [.d (.int .i64), .d (.int .i64), .d (.int .i64), .d (.int .i64), .d (.int .i64), .d (.int .i64), .d (.bool), .d (.str), .d (.int .i64), .d (.sl [.int .i64, .int .i64, .str])]]) := (outOne 0 (.exit 0) [1, 5, 7] [144] [.one (.ptr 144 0), .one (.slt [.int .u8] 5 1), .one (.slt [.int .u8] 5 1), .agg [.d (.int .i64), .d (.int .i64), .d (.int .i64), .d (.int .i64), .d (.int .i64), .d (.int .i64), .d (.bool), .d (.str), .d (.int .i64), .d (.sl [.int .i64, .int .i64, .str])]])
noncomputable def b_16_0 (N : Nat) (ih : TAs sh_16_0 → Option (TAs [.one (.ptr 144 0), .one (.slt [.int .u8] 5 1), .one (.slt [.int .u8] 5 1), .agg [.d (.int .i64), .d (.int .i64), .d (.int .i64), .d (.int .i64), .d (.int .i64), .d (.int .i64), .d (.bool), .d (.str), .d (.int .i64), .d (.sl [.int .i64, .int .i64, .str])]])) : TAs sh_16_0 → Option (TAs [.one (.ptr 144 0), .one (.slt [.int .u8] 5 1), .one (.slt [.int .u8] 5 1), .agg [.d (.int .i64), .d (.int .i64), .d (.int .i64), .d (.int .i64), .d (.int .i64), .d (.int .i64), .d (.bool), .d (.str), .d (.int .i64), .d (.sl [.int .i64, .int .i64, .str])]]) := fun (_, y13, y14, y15, y16, (y17, y18, y19, y20, y21, y22, y23, y24, y25, y26)) =>
  (bif (decide (y16 < 5)) then (bif (decide (0 ≤ y16 ∧ y16 < 5 ∧ 5 = 5)) then ((f_30 N y14 (List.getD y15 (Int.toNat y16) 0)).bind fun r27 => (ih ((), y13, r27, y15, (IntKind.i64.wrap (y16 + 1)), (y17, y18, y19, y20, y21, y22, y23, y24, y25, y26)))) else none) else (some (((), y13, y14, (y17, y18, y19, y20, y21, y22, y23, y24, y25, y26)))))
noncomputable def l_16_0 (N : Nat) : TAs sh_16_0 → Option (TAs [.one (.ptr 144 0), .one (.slt [.int .u8] 5 1), .one (.slt [.int .u8] 5 1), .agg [.d (.int .i64), .d (.int .i64), .d (.int .i64), .d (.int .i64), .d (.int .i64), .d (.int .i64), .d (.bool), .d (.str), .d (.int .i64), .d (.sl [.int .i64, .int .i64, .str])]]) := iter (b_16_0 N) N
noncomputable def lp_16_0 (_ : Nat) : Nat → Option LSum := lookL []
noncomputable def L_16_0 (N : Nat) : LSum := loopSum [1, 5, 7, 43, 44] [144] sh_16_0 o_16_0 (l_16_0 N)
theorem b_ok_16_0 (N : Nat) (ih : TAs sh_16_0 → Option (TAs [.one (.ptr 144 0), .one (.slt [.int .u8] 5 1), .one (.slt [.int .u8] 5 1), .agg [.d (.int .i64), .d (.int .i64), .d (.int .i64), .d (.int .i64), .d (.int .i64), .d (.int .i64), .d (.bool), .d (.str), .d (.int .i64), .d (.sl [.int .i64, .int .i64, .str])]])) (p : TAs sh_16_0) : b_16_0 N ih p = exec (X_16 N) Go.Proofs.Tryz.f16.ntmps (lp_16_0 N) cb_16_0 0 (roundK [1, 5, 7, 43, 44] [144] sh_16_0 o_16_0 ih) (stOf [1, 5, 7, 43, 44] [144] sh_16_0 p) := by kernel_rfl
theorem L_ok_16_0 (N : Nat) : SegOk Go.Proofs.Tryz.prog laidL 0 Go.Proofs.Tryz.f16.ntmps nd_16_0 (L_16_0 N) :=
  ne_16_0 ▸ loop_ok (cur := 0) (lp := lp_16_0 N) (x_16 N) (fun n => iter (b_16_0 N) n) (fun _ => rfl) (fun n p => b_ok_16_0 N (iter (b_16_0 N) n) p) (loopsAll (by kernel_rfl) (lookOk_nil)) N
noncomputable def lp_16 (N : Nat) : Nat → Option LSum := lookL [(0, L_16_0 N)]
noncomputable def f_16 (N : Nat) (x1 : Int) (x2 : Int) (x3 : Int) (x4 : Int) (x5 : Int) (x6 : Int) (x7 : Bool) (x8 : ByteArray) (x9 : Int) (x10 : List (Int × Int × ByteArray)) : Option (TAs [.one (.slt [.int .u8] 5 1), .one (.d (.err 88))]) :=
  ((f_23 N x1 x2 x3 x4 x5 x6 x7 x8 x9 x10).bind fun r11 => (bif (!(Option.isNone r11)) then (some (([] : List Int), r11)) else ((f_7 N x8 x9 x10).bind fun r12 => (bif (!(Option.isNone r12.2)) then (some (([] : List Int), r12.2)) else ((l_16_0 N ((), r12.1, ([(IntKind.u8.wrap x1)] : List Int), [x2, x3, x4, x5, x6], 0, (x1, x2, x3, x4, x5, x6, x7, x8, x9, x10))).bind fun q28 => ((f_49 N q28.2.2.2.2.2.2.2.2.2.1).bind fun r29 => (bif (decide ((List.length q28.2.2.1 + List.length ([r29] : List Int)) * 1 ≤ 140737488355328)) then ((f_48 N (q28.2.2.1 ++ ([r29] : List Int)) (IntKind.u16.wrap (List.length q28.2.1 : Int))).bind fun r30 => (bif (decide ((List.length r30 + List.length q28.2.1) * 1 ≤ 140737488355328)) then ((f_31 N 3 (r30 ++ q28.2.1)).bind fun r31 => (some (r31.1, r31.2))) else none)) else none)))))))
theorem ok_16 (N : Nat) (x1 : Int) (x2 : Int) (x3 : Int) (x4 : Int) (x5 : Int) (x6 : Int) (x7 : Bool) (x8 : ByteArray) (x9 : Int) (x10 : List (Int × Int × ByteArray)) : f_16 N x1 x2 x3 x4 x5 x6 x7 x8 x9 x10 = exec (X_16 N) Go.Proofs.Tryz.f16.ntmps (lp_16 N) c_16 0 (fnK (X_16 N) Go.Proofs.Tryz.f16.results.toList 0 [.one (.slt [.int .u8] 5 1), .one (.d (.err 88))]) (fnSt 1 0 [.agg [.d (.int .i64), .d (.int .i64), .d (.int .i64), .d (.int .i64), .d (.int .i64), .d (.int .i64), .d (.bool), .d (.str), .d (.int .i64), .d (.sl [.int .i64, .int .i64, .str])]] (x1, x2, x3, x4, x5, x6, x7, x8, x9, x10)) := by kernel_rfl
noncomputable def S_16 (N : Nat) : Sum := fnSum 1 0 2 [.agg [.d (.int .i64), .d (.int .i64), .d (.int .i64), .d (.int .i64), .d (.int .i64), .d (.int .i64), .d (.bool), .d (.str), .d (.int .i64), .d (.sl [.int .i64, .int .i64, .str])]] [.one (.slt [.int .u8] 5 1), .one (.d (.err 88))] (fun p => f_16 N p.1 p.2.1 p.2.2.1 p.2.2.2.1 p.2.2.2.2.1 p.2.2.2.2.2.1 p.2.2.2.2.2.2.1 p.2.2.2.2.2.2.2.1 p.2.2.2.2.2.2.2.2.1 p.2.2.2.2.2.2.2.2.2)
theorem s_16 (N : Nat) : SumOk Go.Proofs.Tryz.prog laidL 16 (S_16 N) :=
  fn_ok (lp := lp_16 N) (x_16 N) Go.Proofs.Tryz.func16 (c := c_16) (by kernel_rfl) (by kernel_rfl) rfl (fun p => ok_16 N p.1 p.2.1 p.2.2.1 p.2.2.2.1 p.2.2.2.2.1 p.2.2.2.2.2.1 p.2.2.2.2.2.2.1 p.2.2.2.2.2.2.2.1 p.2.2.2.2.2.2.2.2.1 p.2.2.2.2.2.2.2.2.2) (loopsAll (by kernel_rfl) ((lookOk_cons (L_ok_16_0 N) lookOk_nil)))
noncomputable def X_19 (N : Nat) : Ctx := ⟨tyT, lookF [(36, (S_36 N)), (37, (S_37 N)), (40, (S_40 N)), (39, (S_39 N)), (51, (S_51 N)), (52, (S_52 N)), (10, (S_10 N)), (23, (S_23 N))], eqT, fun _ => false⟩
noncomputable def c_19 : Code := bodyOf Go.Proofs.Tryz.f19
theorem x_19 (N : Nat) : CtxOk Go.Proofs.Tryz.prog laidL (X_19 N) := ⟨tyOk, eqOk, fun _ _ => (fnsOk_cons (s_36 N) (fnsOk_cons (s_37 N) (fnsOk_cons (s_40 N) (fnsOk_cons (s_39 N) (fnsOk_cons (s_51 N) (fnsOk_cons (s_52 N) (fnsOk_cons (s_10 N) (fnsOk_cons (s_23 N) fnsOk_nil)))))))).get, by kernel_rfl⟩
noncomputable def lp_19 (_ : Nat) : Nat → Option LSum := lookL []
noncomputable def f_19 (N : Nat) (x1 : List Int) : Option (TAs [.agg [.d (.int .i64), .d (.int .i64), .d (.int .i64), .d (.int .i64), .d (.int .i64), .d (.int .i64), .d (.bool), .d (.str), .d (.int .i64), .slt [.int .i64, .int .i64, .str] 69 3], .one (.d (.err 88))]) :=
  ((f_36 N 3 x1).bind fun r2 => (bif (!(Option.isNone r2.2)) then (some ((0, 0, 0, 0, 0, 0, false, ByteArray.empty, 0, ([] : List (Int × Int × ByteArray))), r2.2)) else ((f_37 N r2.1).bind fun r3 => ((f_40 N r3.2.1 r3.2.2).bind fun r4 => ((f_39 N r4.2.1 r4.2.2).bind fun r5 => ((f_39 N r5.2.1 r5.2.2).bind fun r6 => ((f_39 N r6.2.1 r6.2.2).bind fun r7 => ((f_39 N r7.2.1 r7.2.2).bind fun r8 => ((f_39 N r8.2.1 r8.2.2).bind fun r9 => ((f_40 N r9.2.1 r9.2.2).bind fun r10 => ((f_51 N r10.2.1 r10.2.2).bind fun r11 => (bif (decide (r10.1 > 1)) then (some ((0, 0, 0, 0, 0, 0, false, ByteArray.empty, 0, ([] : List (Int × Int × ByteArray))), (some 3))) else ((f_52 N r11.2.1 r11.2.2).bind fun r12 => (bif (r12.1 != (IntKind.i64.wrap r11.1)) then (some ((0, 0, 0, 0, 0, 0, false, ByteArray.empty, 0, ([] : List (Int × Int × ByteArray))), (some 3))) else (bif ((IntKind.i64.wrap r11.1) == 0) then (some ((0, 0, 0, 0, 0, 0, false, ByteArray.empty, 0, ([] : List (Int × Int × ByteArray))), (some 3))) else (bif (decide (0 ≤ (List.length r2.1 : Int) ∧ (List.length r2.1 : Int) ≤ (List.length r2.1 : Int))) then (bif (decide (0 ≤ (IntKind.i64.wrap ((List.length r2.1 : Int) - (IntKind.i64.wrap r11.1))) ∧ (IntKind.i64.wrap ((List.length r2.1 : Int) - (IntKind.i64.wrap r11.1))) ≤ (List.length r2.1 : Int))) then ((f_10 N (List.drop (Int.toNat (IntKind.i64.wrap ((List.length r2.1 : Int) - (IntKind.i64.wrap r11.1)))) (List.take (Int.toNat (List.length r2.1 : Int)) r2.1))).bind fun r13 => (bif (!(Option.isNone r13.2)) then (some ((0, 0, 0, 0, 0, 0, false, ByteArray.empty, 0, ([] : List (Int × Int × ByteArray))), (some 3))) else ((f_23 N (IntKind.i64.wrap r4.1) r5.1 r6.1 r7.1 r8.1 r9.1 (r10.1 == 1) r13.1.1 r13.1.2.1 r13.1.2.2).bind fun r14 => (bif (!(Option.isNone r14)) then (some ((0, 0, 0, 0, 0, 0, false, ByteArray.empty, 0, ([] : List (Int × Int × ByteArray))), (some 3))) else (some (((IntKind.i64.wrap r4.1), r5.1, r6.1, r7.1, r8.1, r9.1, (r10.1 == 1), r13.1.1, r13.1.2.1, r13.1.2.2), none)))))) else none) else none))))))))))))))))
theorem ok_19 (N : Nat) (x1 : List Int) : f_19 N x1 = exec (X_19 N) Go.Proofs.Tryz.f19.ntmps (lp_19 N) c_19 0 (fnK (X_19 N) Go.Proofs.Tryz.f19.results.toList 0 [.agg [.d (.int .i64), .d (.int .i64), .d (.int .i64), .d (.int .i64), .d (.int .i64), .d (.int .i64), .d (.bool), .d (.str), .d (.int .i64), .slt [.int .i64, .int .i64, .str] 69 3], .one (.d (.err 88))]) (fnSt 1 0 [.one (.d (.sl [.int .u8]))] x1) := by kernel_rfl
noncomputable def S_19 (N : Nat) : Sum := fnSum 1 0 2 [.one (.d (.sl [.int .u8]))] [.agg [.d (.int .i64), .d (.int .i64), .d (.int .i64), .d (.int .i64), .d (.int .i64), .d (.int .i64), .d (.bool), .d (.str), .d (.int .i64), .slt [.int .i64, .int .i64, .str] 69 3], .one (.d (.err 88))] (fun p => f_19 N p)
theorem s_19 (N : Nat) : SumOk Go.Proofs.Tryz.prog laidL 19 (S_19 N) :=
  fn_ok (lp := lp_19 N) (x_19 N) Go.Proofs.Tryz.func19 (c := c_19) (by kernel_rfl) (by kernel_rfl) rfl (fun p => ok_19 N p) (loopsAll (by kernel_rfl) (lookOk_nil))
noncomputable def X_3 (N : Nat) : Ctx := ⟨tyT, lookF [(5, (S_5 N)), (6, (S_6 N)), (8, (S_8 N)), (7, (S_7 N)), (9, (S_9 N)), (10, (S_10 N)), (11, (S_11 N)), (12, (S_12 N)), (13, (S_13 N))], eqT, fun _ => false⟩
noncomputable def c_3 : Code := bodyOf Go.Proofs.Tryz.f3
theorem x_3 (N : Nat) : CtxOk Go.Proofs.Tryz.prog laidL (X_3 N) := ⟨tyOk, eqOk, fun _ _ => (fnsOk_cons (s_5 N) (fnsOk_cons (s_6 N) (fnsOk_cons (s_8 N) (fnsOk_cons (s_7 N) (fnsOk_cons (s_9 N) (fnsOk_cons (s_10 N) (fnsOk_cons (s_11 N) (fnsOk_cons (s_12 N) (fnsOk_cons (s_13 N) fnsOk_nil))))))))).get, by kernel_rfl⟩
noncomputable def lp_3 (_ : Nat) : Nat → Option LSum := lookL []
noncomputable def f_3 (N : Nat) (x1 : ByteArray) (x2 : Int) (x3 : List (Int × Int × ByteArray)) (x4 : List Int) : Option (TAs [.one (.d (.bool))]) :=
  ((f_5 N x1 x2 x3).bind fun r5 => (bif r5 then ((f_6 N).bind fun r6 => (some r6)) else (bif (decide ((List.length x4 : Int) > 1200)) then ((f_6 N).bind fun r7 => (some r7)) else ((f_8 N x1 x2 x3).bind fun r8 => ((f_7 N r8.1 r8.2.1 r8.2.2).bind fun r9 => ((f_9 N x1 x2 x3).bind fun r10 => ((f_10 N x4).bind fun r11 => ((f_11 N x4).bind fun r12 => (bif (!((ByteArray.toList (bytesS r9.1)) == (ByteArray.toList (bytesS r10.1)))) then (some false) else ((f_12 N r9.2).bind fun r13 => (bif (r13 != r10.2) then (some false) else ((f_13 N r11.1.1 r11.1.2.1 r11.1.2.2 r12.1.1 r12.1.2.1 r12.1.2.2).bind fun r14 => (bif (!r14) then (some false) else ((f_12 N r11.2).bind fun r15 => (bif (r15 != r12.2) then (some false) else (bif (!(Option.isNone r9.2)) then ((f_6 N).bind fun r16 => (some r16)) else ((f_10 N r9.1).bind fun r17 => (bif (Option.isNone r17.2) then ((f_13 N r17.1.1 r17.1.2.1 r17.1.2.2 x1 x2 x3).bind fun r18 => (bif r18 then ((f_6 N).bind fun r19 => (some r19)) else (some false))) else (some false)))))))))))))))))))
theorem ok_3 (N : Nat) (x1 : ByteArray) (x2 : Int) (x3 : List (Int × Int × ByteArray)) (x4 : List Int) : f_3 N x1 x2 x3 x4 = exec (X_3 N) Go.Proofs.Tryz.f3.ntmps (lp_3 N) c_3 0 (fnK (X_3 N) Go.Proofs.Tryz.f3.results.toList 0 [.one (.d (.bool))]) (fnSt 2 0 [.agg [.d (.str), .d (.int .i64), .d (.sl [.int .i64, .int .i64, .str])], .one (.d (.sl [.int .u8]))] ((x1, x2, x3), x4)) := by kernel_rfl
noncomputable def S_3 (N : Nat) : Sum := fnSum 2 0 1 [.agg [.d (.str), .d (.int .i64), .d (.sl [.int .i64, .int .i64, .str])], .one (.d (.sl [.int .u8]))] [.one (.d (.bool))] (fun p => f_3 N p.1.1 p.1.2.1 p.1.2.2 p.2)
theorem s_3 (N : Nat) : SumOk Go.Proofs.Tryz.prog laidL 3 (S_3 N) :=
  fn_ok (lp := lp_3 N) (x_3 N) Go.Proofs.Tryz.func3 (c := c_3) (by kernel_rfl) (by kernel_rfl) rfl (fun p => ok_3 N p.1.1 p.1.2.1 p.1.2.2 p.2) (loopsAll (by kernel_rfl) (lookOk_nil))
noncomputable def X_15 (N : Nat) : Ctx := ⟨tyT, lookF [(47, (S_47 N)), (16, (S_16 N)), (19, (S_19 N)), (25, (S_25 N)), (23, (S_23 N)), (22, (S_22 N))], eqT, fun _ => false⟩
noncomputable def c_15 : Code := bodyOf Go.Proofs.Tryz.f15
theorem x_15 (N : Nat) : CtxOk Go.Proofs.Tryz.prog laidL (X_15 N) := ⟨tyOk, eqOk, fun _ _ => (fnsOk_cons (s_47 N) (fnsOk_cons (s_16 N) (fnsOk_cons (s_19 N) (fnsOk_cons (s_25 N) (fnsOk_cons (s_23 N) (fnsOk_cons (s_22 N) fnsOk_nil)))))).get, by kernel_rfl⟩
noncomputable def lp_15 (_ : Nat) : Nat → Option LSum := lookL []
noncomputable def f_15 (N : Nat) : Option (TAs [.one (.d (.bool))]) :=
  ((f_47 N).bind fun r1 => ((f_16 N r1.1 r1.2.1 r1.2.2.1 r1.2.2.2.1 r1.2.2.2.2.1 r1.2.2.2.2.2.1 r1.2.2.2.2.2.2.1 r1.2.2.2.2.2.2.2.1 r1.2.2.2.2.2.2.2.2.1 r1.2.2.2.2.2.2.2.2.2).bind fun r2 => ((f_19 N r2.1).bind fun r3 => (bif (Option.isNone r2.2) then (bif (Option.isNone r3.2) then ((f_47 N).bind fun r4 => ((f_25 N r4.1 r4.2.1 r4.2.2.1 r4.2.2.2.1 r4.2.2.2.2.1 r4.2.2.2.2.2.1 r4.2.2.2.2.2.2.1 r4.2.2.2.2.2.2.2.1 r4.2.2.2.2.2.2.2.2.1 r4.2.2.2.2.2.2.2.2.2 r3.1.1 r3.1.2.1 r3.1.2.2.1 r3.1.2.2.2.1 r3.1.2.2.2.2.1 r3.1.2.2.2.2.2.1 r3.1.2.2.2.2.2.2.1 r3.1.2.2.2.2.2.2.2.1 r3.1.2.2.2.2.2.2.2.2.1 r3.1.2.2.2.2.2.2.2.2.2).bind fun r5 => (bif r5 then (bif ((ByteArray.toList r3.1.2.2.2.2.2.2.2.1) == (ByteArray.toList (⟨#[85, 84, 67]⟩ : ByteArray))) then (bif (r3.1.2.2.2.1 == 1) then ((f_23 N r1.1 r1.2.1 r1.2.2.1 0 r1.2.2.2.2.1 r1.2.2.2.2.2.1 r1.2.2.2.2.2.2.1 r1.2.2.2.2.2.2.2.1 r1.2.2.2.2.2.2.2.2.1 r1.2.2.2.2.2.2.2.2.2).bind fun r6 => ((f_22 N r6).bind fun r7 => (some (r7 == 1)))) else (some false)) else (some false)) else (some false)))) else (some false)) else (some false)))))
theorem ok_15 (N : Nat) : f_15 N = exec (X_15 N) Go.Proofs.Tryz.f15.ntmps (lp_15 N) c_15 0 (fnK (X_15 N) Go.Proofs.Tryz.f15.results.toList 0 [.one (.d (.bool))]) (fnSt 0 0 [] ()) := by kernel_rfl
noncomputable def S_15 (N : Nat) : Sum := fnSum 0 0 1 [] [.one (.d (.bool))] (fun _ => f_15 N)
theorem s_15 (N : Nat) : SumOk Go.Proofs.Tryz.prog laidL 15 (S_15 N) :=
  fn_ok (lp := lp_15 N) (x_15 N) Go.Proofs.Tryz.func15 (c := c_15) (by kernel_rfl) (by kernel_rfl) rfl (fun _ => ok_15 N) (loopsAll (by kernel_rfl) (lookOk_nil))
noncomputable def X_4 (N : Nat) : Ctx := ⟨tyT, lookF [(14, (S_14 N)), (15, (S_15 N)), (17, (S_17 N)), (16, (S_16 N)), (18, (S_18 N)), (19, (S_19 N)), (20, (S_20 N)), (21, (S_21 N)), (22, (S_22 N)), (23, (S_23 N)), (24, (S_24 N)), (25, (S_25 N))], eqT, fun _ => false⟩
noncomputable def c_4 : Code := bodyOf Go.Proofs.Tryz.f4
theorem x_4 (N : Nat) : CtxOk Go.Proofs.Tryz.prog laidL (X_4 N) := ⟨tyOk, eqOk, fun _ _ => (fnsOk_cons (s_14 N) (fnsOk_cons (s_15 N) (fnsOk_cons (s_17 N) (fnsOk_cons (s_16 N) (fnsOk_cons (s_18 N) (fnsOk_cons (s_19 N) (fnsOk_cons (s_20 N) (fnsOk_cons (s_21 N) (fnsOk_cons (s_22 N) (fnsOk_cons (s_23 N) (fnsOk_cons (s_24 N) (fnsOk_cons (s_25 N) fnsOk_nil)))))))))))).get, by kernel_rfl⟩
noncomputable def lp_4 (_ : Nat) : Nat → Option LSum := lookL []
noncomputable def f_4 (N : Nat) (x1 : Int) (x2 : Int) (x3 : Int) (x4 : Int) (x5 : Int) (x6 : Int) (x7 : Bool) (x8 : ByteArray) (x9 : Int) (x10 : List (Int × Int × ByteArray)) (x11 : Int) (x12 : Int) (x13 : Int) (x14 : Int) (x15 : Int) (x16 : Int) (x17 : Bool) (x18 : ByteArray) (x19 : Int) (x20 : List (Int × Int × ByteArray)) (x21 : List Int) : Option (TAs [.one (.d (.bool))]) :=
  ((f_14 N x8 x9 x10).bind fun r22 => (bif r22 then ((f_15 N).bind fun r23 => (some r23)) else ((f_14 N x18 x19 x20).bind fun r24 => (bif r24 then ((f_15 N).bind fun r25 => (some r25)) else (bif (decide ((List.length x21 : Int) > 1200)) then ((f_15 N).bind fun r26 => (some r26)) else ((f_17 N x1 x2 x3 x4 x5 x6 x7 x8 x9 x10).bind fun r27 => ((f_16 N r27.1 r27.2.1 r27.2.2.1 r27.2.2.2.1 r27.2.2.2.2.1 r27.2.2.2.2.2.1 r27.2.2.2.2.2.2.1 r27.2.2.2.2.2.2.2.1 r27.2.2.2.2.2.2.2.2.1 r27.2.2.2.2.2.2.2.2.2).bind fun r28 => ((f_18 N x1 x2 x3 x4 x5 x6 x7 x8 x9 x10).bind fun r29 => ((f_19 N x21).bind fun r30 => ((f_20 N x21).bind fun r31 => ((f_17 N x11 x12 x13 x14 x15 x16 x17 x18 x19 x20).bind fun r32 => ((f_21 N r32.1 r32.2.1 r32.2.2.1 r32.2.2.2.1 r32.2.2.2.2.1 r32.2.2.2.2.2.1 r32.2.2.2.2.2.2.1 r32.2.2.2.2.2.2.2.1 r32.2.2.2.2.2.2.2.2.1 r32.2.2.2.2.2.2.2.2.2 x1 x2 x3 x4 x5 x6 x7 x8 x9 x10).bind fun r33 => (bif ((ByteArray.toList (bytesS r28.1)) == (ByteArray.toList (bytesS r29.1))) then ((f_22 N r28.2).bind fun r34 => (bif (r34 == r29.2) then ((f_21 N r30.1.1 r30.1.2.1 r30.1.2.2.1 r30.1.2.2.2.1 r30.1.2.2.2.2.1 r30.1.2.2.2.2.2.1 r30.1.2.2.2.2.2.2.1 r30.1.2.2.2.2.2.2.2.1 r30.1.2.2.2.2.2.2.2.2.1 r30.1.2.2.2.2.2.2.2.2.2 r31.1.1 r31.1.2.1 r31.1.2.2.1 r31.1.2.2.2.1 r31.1.2.2.2.2.1 r31.1.2.2.2.2.2.1 r31.1.2.2.2.2.2.2.1 r31.1.2.2.2.2.2.2.2.1 r31.1.2.2.2.2.2.2.2.2.1 r31.1.2.2.2.2.2.2.2.2.2).bind fun r35 => (bif r35 then ((f_22 N r30.2).bind fun r36 => (bif (r36 == r31.2) then ((f_17 N x1 x2 x3 x4 x5 x6 x7 x8 x9 x10).bind fun r37 => ((f_23 N r37.1 r37.2.1 r37.2.2.1 r37.2.2.2.1 r37.2.2.2.2.1 r37.2.2.2.2.2.1 r37.2.2.2.2.2.2.1 r37.2.2.2.2.2.2.2.1 r37.2.2.2.2.2.2.2.2.1 r37.2.2.2.2.2.2.2.2.2).bind fun r38 => ((f_24 N x1 x2 x3 x4 x5 x6 x7 x8 x9 x10).bind fun r39 => (bif ((Option.isNone r38) == r39) then ((f_17 N x1 x2 x3 x4 x5 x6 x7 x8 x9 x10).bind fun r40 => ((f_17 N x11 x12 x13 x14 x15 x16 x17 x18 x19 x20).bind fun r41 => ((f_25 N r40.1 r40.2.1 r40.2.2.1 r40.2.2.2.1 r40.2.2.2.2.1 r40.2.2.2.2.2.1 r40.2.2.2.2.2.2.1 r40.2.2.2.2.2.2.2.1 r40.2.2.2.2.2.2.2.2.1 r40.2.2.2.2.2.2.2.2.2 r41.1 r41.2.1 r41.2.2.1 r41.2.2.2.1 r41.2.2.2.2.1 r41.2.2.2.2.2.1 r41.2.2.2.2.2.2.1 r41.2.2.2.2.2.2.2.1 r41.2.2.2.2.2.2.2.2.1 r41.2.2.2.2.2.2.2.2.2).bind fun r42 => (bif (r42 == r33) then ((f_15 N).bind fun r43 => (some r43)) else (some false))))) else (some false))))) else (some false))) else (some false))) else (some false))) else (some false))))))))))))))
theorem ok_4 (N : Nat) (x1 : Int) (x2 : Int) (x3 : Int) (x4 : Int) (x5 : Int) (x6 : Int) (x7 : Bool) (x8 : ByteArray) (x9 : Int) (x10 : List (Int × Int × ByteArray)) (x11 : Int) (x12 : Int) (x13 : Int) (x14 : Int) (x15 : Int) (x16 : Int) (x17 : Bool) (x18 : ByteArray) (x19 : Int) (x20 : List (Int × Int × ByteArray)) (x21 : List Int) : f_4 N x1 x2 x3 x4 x5 x6 x7 x8 x9 x10 x11 x12 x13 x14 x15 x16 x17 x18 x19 x20 x21 = exec (X_4 N) Go.Proofs.Tryz.f4.ntmps (lp_4 N) c_4 0 (fnK (X_4 N) Go.Proofs.Tryz.f4.results.toList 0 [.one (.d (.bool))]) (fnSt 3 0 [.agg [.d (.int .i64), .d (.int .i64), .d (.int .i64), .d (.int .i64), .d (.int .i64), .d (.int .i64), .d (.bool), .d (.str), .d (.int .i64), .d (.sl [.int .i64, .int .i64, .str])], .agg [.d (.int .i64), .d (.int .i64), .d (.int .i64), .d (.int .i64), .d (.int .i64), .d (.int .i64), .d (.bool), .d (.str), .d (.int .i64), .d (.sl [.int .i64, .int .i64, .str])], .one (.d (.sl [.int .u8]))] ((x1, x2, x3, x4, x5, x6, x7, x8, x9, x10), (x11, x12, x13, x14, x15, x16, x17, x18, x19, x20), x21)) := by kernel_rfl
noncomputable def S_4 (N : Nat) : Sum := fnSum 3 0 1 [.agg [.d (.int .i64), .d (.int .i64), .d (.int .i64), .d (.int .i64), .d (.int .i64), .d (.int .i64), .d (.bool), .d (.str), .d (.int .i64), .d (.sl [.int .i64, .int .i64, .str])], .agg [.d (.int .i64), .d (.int .i64), .d (.int .i64), .d (.int .i64), .d (.int .i64), .d (.int .i64), .d (.bool), .d (.str), .d (.int .i64), .d (.sl [.int .i64, .int .i64, .str])], .one (.d (.sl [.int .u8]))] [.one (.d (.bool))] (fun p => f_4 N p.1.1 p.1.2.1 p.1.2.2.1 p.1.2.2.2.1 p.1.2.2.2.2.1 p.1.2.2.2.2.2.1 p.1.2.2.2.2.2.2.1 p.1.2.2.2.2.2.2.2.1 p.1.2.2.2.2.2.2.2.2.1 p.1.2.2.2.2.2.2.2.2.2 p.2.1.1 p.2.1.2.1 p.2.1.2.2.1 p.2.1.2.2.2.1 p.2.1.2.2.2.2.1 p.2.1.2.2.2.2.2.1 p.2.1.2.2.2.2.2.2.1 p.2.1.2.2.2.2.2.2.2.1 p.2.1.2.2.2.2.2.2.2.2.1 p.2.1.2.2.2.2.2.2.2.2.2 p.2.2)
theorem s_4 (N : Nat) : SumOk Go.Proofs.Tryz.prog laidL 4 (S_4 N) :=
  fn_ok (lp := lp_4 N) (x_4 N) Go.Proofs.Tryz.func4 (c := c_4) (by kernel_rfl) (by kernel_rfl) rfl (fun p => ok_4 N p.1.1 p.1.2.1 p.1.2.2.1 p.1.2.2.2.1 p.1.2.2.2.2.1 p.1.2.2.2.2.2.1 p.1.2.2.2.2.2.2.1 p.1.2.2.2.2.2.2.2.1 p.1.2.2.2.2.2.2.2.2.1 p.1.2.2.2.2.2.2.2.2.2 p.2.1.1 p.2.1.2.1 p.2.1.2.2.1 p.2.1.2.2.2.1 p.2.1.2.2.2.2.1 p.2.1.2.2.2.2.2.1 p.2.1.2.2.2.2.2.2.1 p.2.1.2.2.2.2.2.2.2.1 p.2.1.2.2.2.2.2.2.2.2.1 p.2.1.2.2.2.2.2.2.2.2.2 p.2.2) (loopsAll (by kernel_rfl) (lookOk_nil))
end Go.Proofs.YtmdnnlfoljdfpaaGreatDoor.Mir
