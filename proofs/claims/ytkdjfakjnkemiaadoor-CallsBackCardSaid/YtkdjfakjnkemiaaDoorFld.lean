/- slices.Backward of bytes, and (*fields.Reader).number: contracts, by hand. -/
import Derived.RangeFuncBox
import Derived.RangeFuncNested
import Derived.RangeFuncBound
import Derived.RangeFuncCalls
import Derived.RangeFuncLeaves
import Derived.Shelf.Abstract
import Derived.WalkKit
import Derived.OwnWalkIn
import Derived.TacticsInMore
import Derived.LoopNIn
import Derived.LoopIn
import Derived.Test.YtkdjfakjnkemiaaDoorProg
namespace Go.Proofs.YtkdjfakjnkemiaaDoor
open Go Go.RowKit Go.Shelf Go.Proofs
attribute [local go_sem] Oper.semAt_some

def upTo {α : Type} (f : Nat → α) (k : Nat) : List α := (List.range k).map f
theorem upTo_succ {α : Type} (f : Nat → α) (k : Nat) : upTo f (k + 1) = upTo f k ++ [f k] := by simp [upTo, List.range_succ]
theorem upTo_length {α : Type} (f : Nat → α) (k : Nat) : (upTo f k).length = k := by simp [upTo]
/-- What comes backward out of bytes: an index, and the byte there. -/
def backAt (zs : List Int) (len k : Nat) : Int × Int := ((len : Int) - 1 - k, zs[len - 1 - k]?.getD 0)

/-- A round keeps the box Bs, and what lies below n₀. -/
def KeepB (Bs n₀ : Nat) (W W' : World) : Prop := (∀ v, W.cell? ⟨Bs, 0, none⟩ = some v → W'.cell? ⟨Bs, 0, none⟩ = some v) ∧ Below n₀ W W'
theorem KeepB.trans {Bs n₀ : Nat} {A B C : World} (h : KeepB Bs n₀ A B) (k : KeepB Bs n₀ B C) : KeepB Bs n₀ A C := ⟨fun v e => k.1 v (h.1 v e), h.2.trans k.2⟩
set_option maxRecDepth 100000 in
set_option maxHeartbeats 2000000 in
theorem back1_in (F : Fence) (n : Nat) (h8 : F.fn 109) (hro : F.round = none) (hn : 1 ≤ n) (l Bs n₀ b off len cap : Nat) (zs : List Int) (hreach : len ≤ 140737488351232) (hb : b < n₀) (J Jx : List (Int × Int) → World → Prop)
    (hY : ∀ pre x W, J pre W → pre.length < len → YieldAt F (n - 1) Tryd.prog l #[.int .i64 x.1, .int .u8 x.2] W fun e W' =>
      (e = .returned (.bool true) ∧ J (pre ++ [x]) W' ∧ KeepB Bs n₀ W W') ∨ (e = .returned (.bool false) ∧ Jx (pre ++ [x]) W'))
    (W : World) (hBs : W.cell? ⟨Bs, 0, none⟩ = some (.slice (some ⟨b, off, none⟩) len cap)) (hc : ∀ j, j < len → W.cell? ⟨b, off + j, none⟩ = some (.int .u8 (zs[j]?.getD 0))) (h0 : J [] W) :
    CallsIn F n Tryd.prog 109 #[.func (.yield l) #[] #[], .pointer (some ⟨Bs, 0, none⟩)] W fun e W' => (∃ v, e = .returned v) ∧
      ((∃ ys, ys = upTo (backAt zs len) len ∧ J ys W') ∨ (∃ pre, (∃ k, k ≤ len ∧ pre = upTo (backAt zs len) k) ∧ Jx pre W')) := by
  refine callsIn_of_wp Tryd.func109 rfl h8 ?_ hro
  simp only [Tryd.ntmps109, List.size_toArray, List.length_cons, List.length_nil, Nat.reduceAdd, Nat.reduceSub, Array.replicate_succ, Array.replicate_zero, List.push_toArray, List.append_toArray, List.nil_append, List.cons_append]
  gi_wp2
  gi_loopw [3] (fun i wr => ∃ k : Nat, k ≤ len ∧ i = .int .i64 ((len : Int) - 1 - k) ∧ J (upTo (backAt zs len) k) wr ∧ wr.cell? ⟨Bs, 0, none⟩ = some (.slice (some ⟨b, off, none⟩) len cap) ∧ Below n₀ W wr)
    (fun i _ => (intOf i + 1).toNat)
  case atStart => exact ⟨0, Nat.zero_le _, by simp, h0, hBs, Below.refl _ _⟩
  case round =>
    obtain ⟨k, hk, rfl, hJs, hBs', hnx⟩ := hrel
    have hcx : k < len → wr.cell? ⟨b, off + (len - 1 - k), none⟩ = some (.int .u8 (zs[len - 1 - k]?.getD 0)) := fun h => (hnx.cell (p := ⟨b, off + (len - 1 - k), none⟩) hb).trans (hc _ (by omega))
    by_cases hlt : k < len
    · obtain ⟨fn, tmps, assign, body, hy, hR⟩ := hY _ (backAt zs len k) wr hJs (by rw [upTo_length]; exact hlt)
      dsimp only [backAt] at hy
      have hcx' := hcx hlt
      obtain ⟨m, hm1, hm2, hm3⟩ : ∃ m : Nat, (len : Int) - 1 - k = m ∧ len - 1 - k = m ∧ m < len := ⟨len - 1 - k, by omega, rfl, by omega⟩
      rw [hm2] at hcx'
      rw [hm1, hm2] at hy
      rw [hm1]
      gi_wp2
      refine hR.mono ?_
      rintro e W3 (⟨rfl, hJ3, hk3⟩ | ⟨rfl, hJx3⟩)
      · gi_wp2
        go_roundw
        case rel => exact ⟨k + 1, by omega, by congr 1; omega, by rw [upTo_succ]; exact hJ3, hk3.1 _ hBs', hnx.trans hk3.2⟩
        case measure => simp [intOf]
      · gi_wp2
        refine bodyPost_ret (results_none rfl _ _ _) rfl ?_
        exact ⟨⟨_, rfl⟩, .inr ⟨_, ⟨k + 1, by omega, (upTo_succ _ _).symm⟩, hJx3⟩⟩
    · obtain rfl : k = len := by omega
      gi_wp2
      go_end0
      exact ⟨⟨_, rfl⟩, .inl ⟨_, rfl, hJs⟩⟩

set_option maxRecDepth 100000 in
set_option maxHeartbeats 1000000 in
theorem back1_nil_in (F : Fence) (n : Nat) (h8 : F.fn 109) (hro : F.round = none) (l Bs : Nat) (J : List (Int × Int) → World → Prop) (W : World) (hBs : W.cell? ⟨Bs, 0, none⟩ = some (.slice none 0 0)) (h0 : J [] W) :
    CallsIn F n Tryd.prog 109 #[.func (.yield l) #[] #[], .pointer (some ⟨Bs, 0, none⟩)] W fun e W' => (∃ v, e = .returned v) ∧ J [] W' := by
  refine callsIn_of_wp Tryd.func109 rfl h8 ?_ hro
  simp only [Tryd.ntmps109, List.size_toArray, List.length_cons, List.length_nil, Nat.reduceAdd, Nat.reduceSub, Array.replicate_succ, Array.replicate_zero, List.push_toArray, List.append_toArray, List.nil_append, List.cons_append]
  gi_wp2
  gi_loopw [3] (fun i wr => i = .int .i64 (-1) ∧ J [] wr) (fun _ _ => 0)
  case atStart => exact ⟨rfl, h0⟩
  case round =>
    obtain ⟨rfl, hJs⟩ := hrel
    gi_wp2
    go_end0
    exact ⟨⟨_, rfl⟩, hJs⟩
set_option maxHeartbeats 1000000 in
theorem backward_in (F : Fence) (n : Nat) (h6 : F.fn 104) (hro : F.round = none) (a : Option Addr) (len cap : Nat) (w : World) :
    CallsIn F n Tryd.prog 104 #[.slice a len cap] w fun e w' => e = .returned (.func (.func 109) #[] #[.pointer (some ⟨w.heap.size, 0, none⟩)]) ∧ w' = w.alloc (.cells #[.slice a len cap] 22) := by
  refine callsIn_of_wp Tryd.func104 rfl h6 ?_ hro
  simp only [Tryd.ntmps104, List.size_toArray, List.length_cons, List.length_nil, Nat.reduceAdd, Nat.reduceSub, Array.replicate_succ, Array.replicate_zero, List.push_toArray, List.append_toArray, List.nil_append, List.cons_append]
  gi_wp2
  go_ret
  exact ⟨rfl, rfl⟩
def Bytes (n₀ : Nat) (W : World) (sv : Value) (zs : List Int) : Prop :=
  (sv = .slice none 0 0 ∧ zs = []) ∨ ∃ b off cap, sv = .slice (some ⟨b, off, none⟩) zs.length cap ∧ b < n₀ ∧ ∀ j, j < zs.length → W.cell? ⟨b, off + j, none⟩ = some (.int .u8 (zs[j]?.getD 0))
theorem Bytes.below {n₀ : Nat} {A B : World} (h : Below n₀ A B) {sv : Value} {zs : List Int} : Bytes n₀ A sv zs → Bytes n₀ B sv zs
  | .inl e => .inl e
  | .inr ⟨b, off, cap, e, hb, hc⟩ => .inr ⟨b, off, cap, e, hb, fun j hj => (h.cell (p := ⟨b, off + j, none⟩) hb).trans (hc j hj)⟩
theorem back_stops (F : Fence) (n : Nat) (h8 : F.fn 109) (hro : F.round = none) (hn : 1 ≤ n) (Bs n₀ : Nat) (sv : Value) (zs : List Int) (hreach : zs.length ≤ 140737488351232) (w : World) (hBs : Bs < w.heap.size) (hn₀ : n₀ ≤ w.heap.size)
    (hc : w.cell? ⟨Bs, 0, none⟩ = some sv) (hI : Bytes n₀ w sv zs) :
    SeqStopsK F n Tryd.prog 109 #[.pointer (some ⟨Bs, 0, none⟩)] (fun x : Int × Int => #[Value.int .i64 x.1, Value.int .u8 x.2]) (KeepB Bs n₀) (fun ys => ys = upTo (backAt zs zs.length) zs.length)
      (fun pre => ∃ k, k ≤ zs.length ∧ pre = upTo (backAt zs zs.length) k) zs.length w := fun l J Jx W hW _ _ hY h0 => by
  have hc' := (hW.cell (p := ⟨Bs, 0, none⟩) hBs).trans hc
  rcases hI.below (hW.mono hn₀) with ⟨rfl, rfl⟩ | ⟨b, off, cap, rfl, hb, hcs⟩
  · exact (back1_nil_in F n h8 hro l Bs J W hc' h0).mono fun e W' ⟨he, hj⟩ => ⟨he, .inl ⟨_, rfl, hj⟩⟩
  · exact back1_in F n h8 hro hn l Bs n₀ b off zs.length cap zs hreach hb J Jx hY W hc' hcs h0

/-- A number's bytes, the last one first. -/
def numStep (v : Int) (x : Int × Int) : Int := bits .or .u64 (IntKind.u64.wrap (v * 256)) (IntKind.u64.wrap x.2)
theorem upTo_nil {α : Type} (f : Nat → α) : upTo f 0 = [] := rfl
/-- What is left of bytes behind n of them. -/
def leftOf (b off len cap n : Nat) : Value := .slice (some ⟨b, if cap = n then off else off + n, none⟩) (len - n) (cap - n)
set_option maxRecDepth 100000 in
set_option maxHeartbeats 1000000 in
theorem take_good (β b off len cap n : Nat) (w : World) (hn : 1 ≤ n) (hnl : n ≤ len) (hcap : len ≤ cap)
    (h0 : w.cell? ⟨β, 0, none⟩ = some (.slice (some ⟨b, off, none⟩) len cap)) (h1 : w.cell? ⟨β, 1, none⟩ = some (.bool false)) (hf : w.frozen? ⟨β, 0, none⟩ = false) :
    Calls Tryd.prog 95 #[.pointer (some ⟨β, 0, none⟩), .int .i64 n] w fun e W' => e = .returned (.slice (some ⟨b, off, none⟩) n cap) ∧ W' = w.setCell ⟨β, 0, none⟩ (leftOf b off len cap n) := by
  go_enter Tryd.func95, Tryd.ntmps95
  go_wp2
  · go_ret
    exact ⟨rfl, by unfold leftOf; simp⟩
  · have hcn : ¬ cap = n := by omega
    go_ret
    exact ⟨rfl, by unfold leftOf; rw [if_neg hcn]⟩
/-- Behind a field that is not there. -/
def gone (β : Nat) (w : World) : World := (w.setCell ⟨β, 0, none⟩ (.slice none 0 0)).setCell ⟨β, 1, none⟩ (.bool true)
set_option maxRecDepth 100000 in
set_option maxHeartbeats 1000000 in
theorem take_bad (β len cap n : Nat) (a : Option Addr) (bd : Bool) (w : World) (hbad : bd = true ∨ len < n)
    (h0 : w.cell? ⟨β, 0, none⟩ = some (.slice a len cap)) (h1 : w.cell? ⟨β, 1, none⟩ = some (.bool bd)) (hf : w.frozen? ⟨β, 0, none⟩ = false) (hf1 : w.frozen? ⟨β, 1, none⟩ = false) :
    Calls Tryd.prog 95 #[.pointer (some ⟨β, 0, none⟩), .int .i64 n] w fun e W' => e = .returned (.slice none 0 0) ∧ W' = gone β w := by
  cases bd with
  | true =>
    go_enter Tryd.func95, Tryd.ntmps95
    go_wp2
    go_ret
    exact ⟨rfl, rfl⟩
  | false =>
    have hbad : len < n := by simpa using hbad
    go_enter Tryd.func95, Tryd.ntmps95
    go_wp2
    go_ret
    exact ⟨rfl, rfl⟩
set_option maxRecDepth 100000 in
set_option maxHeartbeats 2000000 in
theorem number_bad (β len cap n : Nat) (ad : Option Addr) (bd : Bool) (w : World) (hbad : bd = true ∨ len < n) (hβ : β < w.heap.size)
    (h0 : w.cell? ⟨β, 0, none⟩ = some (.slice ad len cap)) (h1 : w.cell? ⟨β, 1, none⟩ = some (.bool bd)) (hf : w.frozen? ⟨β, 0, none⟩ = false) (hf1 : w.frozen? ⟨β, 1, none⟩ = false) :
    CallsIn Fence.wide 5 Tryd.prog 94 #[.pointer (some ⟨β, 0, none⟩), .int .i64 n] w fun e W' => e = .returned (.int .u64 0) ∧ Below w.heap.size (gone β w) W' := by
  refine callsIn_of_wp_marks Tryd.func94 rfl trivial ?_ rfl
  simp only [Tryd.ntmps94, List.size_toArray, List.length_cons, List.length_nil, Nat.reduceAdd, Nat.reduceSub, Array.replicate_succ, Array.replicate_zero, List.push_toArray, List.append_toArray, List.nil_append, List.cons_append]
  have h0' : (w.alloc (.cells #[.int .u64 0] 61)).cell? ⟨β, 0, none⟩ = some (.slice ad len cap) := by rw [World.cell?_alloc_lt _ _ _ hβ]; exact h0
  have h1' : (w.alloc (.cells #[.int .u64 0] 61)).cell? ⟨β, 1, none⟩ = some (.bool bd) := by rw [World.cell?_alloc_lt _ _ _ hβ]; exact h1
  have hf' : (w.alloc (.cells #[.int .u64 0] 61)).frozen? ⟨β, 0, none⟩ = false := by rw [frozen?_alloc_cells]; exact hf
  have hf1' : (w.alloc (.cells #[.int .u64 0] 61)).frozen? ⟨β, 1, none⟩ = false := by rw [frozen?_alloc_cells]; exact hf1
  gi_wp2_with (first | (refine ⟨trivial, ?_⟩; gi_at_call 104; refine (backward_in Fence.wide _ trivial rfl _ _ _ _).mono ?_; rintro e w' ⟨rfl, rfl⟩) | (refine ⟨trivial, ?_⟩; gi_at_call 95; refine (callsIn_wide.2 (take_bad β len cap n ad bd _ hbad h0' h1' hf' hf1')).mono ?_; rintro e w' ⟨rfl, rfl⟩; unfold gone))
  have hAs : (gone β w).heap.size = w.heap.size := by simp [gone]
  have hAe : (w.setCell ⟨β, 0, none⟩ (.slice none 0 0)).setCell ⟨β, 1, none⟩ (.bool true) = gone β w := rfl
  try rw [hAe]
  generalize hA : gone β w = A at hAs ⊢
  have bS := Boxed.new A 61 (.int .u64 0)
  have bN := Boxed.new (A.alloc (.cells #[.int .u64 0] 61)) 22 (.slice none 0 0)
  rw [World.size_alloc, hAs] at bN
  rw [hAs] at bS
  have hB0 : Below w.heap.size A ((A.alloc (.cells #[.int .u64 0] 61)).alloc (.cells #[.slice none 0 0] 22)) := ((Below.refl _ A).alloc (by omega) _).alloc (by simp; omega) _
  have hBy : Bytes w.heap.size A (.slice none 0 0) [] := .inl ⟨rfl, rfl⟩
  refine wpIn_rangeFunc_ownG rfl (by omega) (gf := 109) (lb := #[.pointer (some ⟨w.heap.size + 1, 0, none⟩)]) (by simp [Act.eval]) trivial (enters_of Tryd.func109 (by kernel_rfl) rfl)
    (back_stops Fence.wide 4 trivial rfl (by omega) (w.heap.size + 1) w.heap.size _ [] (by simp) _ (by simp; omega) (by simp; omega) bN.cell (hBy.below hB0)) KeepB.trans
    (fun W l o o' hl h hcl _ => ⟨fun v e => by
      have hne' : l ≠ w.heap.size + 1 := fun el => by
        subst el
        unfold World.cell? at e
        rw [h] at e
        cases o <;> simp_all [Obj.isCells]
      exact cell_kept e (grownBy_putObj' W l o') (fun r e => by cases e; exact ⟨_, h, hcl⟩), belowK_b (w := A) (by omega) W l o o' (by simp at hl; omega) h hcl (by assumption)⟩) (Below.refl _ _) (fun _ => rfl)
    (fun pre W => (W.cell? ⟨w.heap.size, 0, none⟩ = some (.int .u64 (pre.foldl numStep 0)) ∧ W.frozen? ⟨w.heap.size, 0, none⟩ = false) ∧ Below w.heap.size A W)
    (fun _ _ _ => False)
    (OwnFrom.and (Own.from (fun s A B row hs hg hr => ⟨cell_kept hs.1 hg hr, (frozen_kept hs.1 hg hr).trans hs.2⟩) _) (ownFrom_below (by omega) (by simp; omega)))
    (fun _ _ _ _ _ hs _ _ => hs)
    ⟨⟨(bS.alloc _).cell, (bS.alloc _).frozen⟩, hB0⟩
    (fun x => { tmps := #[.pointer (some ⟨β, 0, none⟩), .int .i64 n, undef, undef, .int .u64 0, .pointer (some ⟨w.heap.size, 0, none⟩), undef, .int .u8 x.2, .pointer (some ⟨β, 0, none⟩), .int .i64 n, .slice none 0 0, .func (.func 109) #[] #[.pointer (some ⟨w.heap.size + 1, 0, none⟩)], .int .i64 x.1, .int .u8 x.2, undef, undef, undef, undef, undef, undef], defers := [] }) ?assign ?body ?done ?stop
  case assign =>
    intro l x W K hK
    gi_wp2
    exact hK
  case body =>
    rintro l pre x W _ hlen
    exact absurd hlen (Nat.not_lt_zero _)
  case done =>
    rintro D ys W hD rfl ⟨⟨hc, _⟩, hB⟩ hK
    gi_wp2
    refine ⟨by simp, .inl ⟨_, _, rfl, run_takeDeferred hK, ?_⟩⟩
    exact ⟨_, results_tmp rfl _ _ _, rfl, by rw [hA]; exact hB.trans (belowK_b (w := A) (by omega) W D _ _ (by simp at hD; omega) hK rfl rfl)⟩
  case stop =>
    rintro D c pre W _ _ h _
    exact h.elim
set_option maxRecDepth 100000 in
set_option maxHeartbeats 2000000 in
theorem number_good (β b off len cap : Nat) (zs : List Int) (w : World) (hn : 1 ≤ zs.length) (hnl : zs.length ≤ len) (hcap : len ≤ cap) (hmax : zs.length ≤ 140737488351232) (hβ : β < w.heap.size)
    (hb : b < w.heap.size) (hne : b ≠ β) (h0 : w.cell? ⟨β, 0, none⟩ = some (.slice (some ⟨b, off, none⟩) len cap)) (h1 : w.cell? ⟨β, 1, none⟩ = some (.bool false)) (hf : w.frozen? ⟨β, 0, none⟩ = false)
    (hc : ∀ j, j < zs.length → w.cell? ⟨b, off + j, none⟩ = some (.int .u8 (zs[j]?.getD 0))) :
    CallsIn Fence.wide 5 Tryd.prog 94 #[.pointer (some ⟨β, 0, none⟩), .int .i64 (zs.length : Int)] w fun e W' => e = .returned (.int .u64 ((upTo (backAt zs zs.length) zs.length).foldl numStep 0)) ∧
      Below w.heap.size (w.setCell ⟨β, 0, none⟩ (leftOf b off len cap zs.length)) W' := by
  refine callsIn_of_wp_marks Tryd.func94 rfl trivial ?_ rfl
  simp only [Tryd.ntmps94, List.size_toArray, List.length_cons, List.length_nil, Nat.reduceAdd, Nat.reduceSub, Array.replicate_succ, Array.replicate_zero, List.push_toArray, List.append_toArray, List.nil_append, List.cons_append]
  have h0' : (w.alloc (.cells #[.int .u64 0] 61)).cell? ⟨β, 0, none⟩ = some (.slice (some ⟨b, off, none⟩) len cap) := by rw [World.cell?_alloc_lt _ _ _ hβ]; exact h0
  have h1' : (w.alloc (.cells #[.int .u64 0] 61)).cell? ⟨β, 1, none⟩ = some (.bool false) := by rw [World.cell?_alloc_lt _ _ _ hβ]; exact h1
  have hf' : (w.alloc (.cells #[.int .u64 0] 61)).frozen? ⟨β, 0, none⟩ = false := by rw [frozen?_alloc_cells]; exact hf
  gi_wp2_with (first | (refine ⟨trivial, ?_⟩; gi_at_call 104; refine (backward_in Fence.wide _ trivial rfl _ _ _ _).mono ?_; rintro e w' ⟨rfl, rfl⟩) | (refine ⟨trivial, ?_⟩; gi_at_call 95; refine (callsIn_wide.2 (take_good β b off len cap zs.length _ hn hnl hcap h0' h1' hf')).mono ?_; rintro e w' ⟨rfl, rfl⟩))
  have hAs : (w.setCell ⟨β, 0, none⟩ (leftOf b off len cap zs.length)).heap.size = w.heap.size := by simp
  generalize hA : w.setCell ⟨β, 0, none⟩ (leftOf b off len cap zs.length) = A at hAs ⊢
  have bS := Boxed.new A 61 (.int .u64 0)
  have bN := Boxed.new (A.alloc (.cells #[.int .u64 0] 61)) 22 (.slice (some ⟨b, off, none⟩) zs.length cap)
  rw [World.size_alloc, hAs] at bN
  rw [hAs] at bS
  have hB0 : Below w.heap.size A ((A.alloc (.cells #[.int .u64 0] 61)).alloc (.cells #[.slice (some ⟨b, off, none⟩) zs.length cap] 22)) := ((Below.refl _ A).alloc (by omega) _).alloc (by simp; omega) _
  have hBy : Bytes w.heap.size A (.slice (some ⟨b, off, none⟩) zs.length cap) zs := .inr ⟨b, off, cap, rfl, hb, fun j hj => by
    rw [← hA, World.cell?_setCell_other _ _ _ _ (by simp)]
    exact hc j hj⟩
  refine wpIn_rangeFunc_ownG rfl (by omega) (gf := 109) (lb := #[.pointer (some ⟨w.heap.size + 1, 0, none⟩)]) (by simp [Act.eval]) trivial (enters_of Tryd.func109 (by kernel_rfl) rfl)
    (back_stops Fence.wide 4 trivial rfl (by omega) (w.heap.size + 1) w.heap.size _ zs (by omega) _ (by simp; omega) (by simp; omega) bN.cell (hBy.below hB0)) KeepB.trans
    (fun W l o o' hl h hcl _ => ⟨fun v e => by
      have hne' : l ≠ w.heap.size + 1 := fun el => by
        subst el
        unfold World.cell? at e
        rw [h] at e
        cases o <;> simp_all [Obj.isCells]
      exact cell_kept e (grownBy_putObj' W l o') (fun r e => by cases e; exact ⟨_, h, hcl⟩), belowK_b (w := A) (by omega) W l o o' (by simp at hl; omega) h hcl (by assumption)⟩) (Below.refl _ _) (fun _ => rfl)
    (fun pre W => (W.cell? ⟨w.heap.size, 0, none⟩ = some (.int .u64 (pre.foldl numStep 0)) ∧ W.frozen? ⟨w.heap.size, 0, none⟩ = false) ∧ Below w.heap.size A W)
    (fun _ _ _ => False)
    (OwnFrom.and (Own.from (fun s A B row hs hg hr => ⟨cell_kept hs.1 hg hr, (frozen_kept hs.1 hg hr).trans hs.2⟩) _) (ownFrom_below (by omega) (by simp; omega)))
    (fun _ _ _ _ _ hs _ _ => hs)
    ⟨⟨(bS.alloc _).cell, (bS.alloc _).frozen⟩, hB0⟩
    (fun x => { tmps := #[.pointer (some ⟨β, 0, none⟩), .int .i64 (zs.length : Int), undef, undef, .int .u64 0, .pointer (some ⟨w.heap.size, 0, none⟩), undef, .int .u8 x.2, .pointer (some ⟨β, 0, none⟩), .int .i64 (zs.length : Int), .slice (some ⟨b, off, none⟩) zs.length cap, .func (.func 109) #[] #[.pointer (some ⟨w.heap.size + 1, 0, none⟩)], .int .i64 x.1, .int .u8 x.2, undef, undef, undef, undef, undef, undef], defers := [] }) ?assign ?body ?done ?stop
  case assign =>
    intro l x W K hK
    gi_wp2
    exact hK
  case body =>
    rintro l pre x W ⟨⟨hc, hf⟩, hB⟩ _
    gi_wp2
    refine ⟨(KeepsOthers.setCell _ _ _).from _, ⟨fun v e => ?_, (Below.refl w.heap.size W).setCell (p := ⟨w.heap.size, 0, none⟩) (Nat.le_refl _) _⟩, ⟨?_, by rw [World.frozen?_setCell]; exact hf⟩, hB.setCell (p := ⟨w.heap.size, 0, none⟩) (Nat.le_refl _) _⟩
    · rw [World.cell?_setCell_other _ _ _ _ (by simp)]; exact e
    · rw [List.foldl_append]; exact World.cell?_setCell_same' _ _ _ (by rw [hc]; rfl)
  case done =>
    rintro D ys W hD rfl ⟨⟨hc, _⟩, hB⟩ hK
    gi_wp2
    refine ⟨by simp, .inl ⟨_, _, rfl, run_takeDeferred hK, ?_⟩⟩
    exact ⟨_, results_tmp rfl _ _ _, rfl, by rw [hA]; exact hB.trans (belowK_b (w := A) (by omega) W D _ _ (by simp at hD; omega) hK rfl rfl)⟩
  case stop =>
    rintro D c pre W _ _ h _
    exact h.elim
end Go.Proofs.YtkdjfakjnkemiaaDoor
