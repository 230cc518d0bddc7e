/- (*fields.Reader).number as a summary; slices.Clone of bytes. -/
import Derived.Test.YtkdjfakjnkemiaaDoorFld
import Derived.Test.YtkdjfakjnkemiaaDoorMirZ
namespace Go.Proofs.YtkdjfakjnkemiaaDoor.Mir
open Go Go.RowKit

/-- A number's value, the bytes with the last one first. -/
def numV (zs : List Int) : Int := (upTo (backAt zs zs.length) zs.length).foldl numStep 0
/-- A number of n bytes, taken: it, what is left, and whether there was too little. -/
def rdF (n : Int) (xs : List Int) (bd : Bool) : Option (Int × List Int × Bool) :=
  bif decide (1 ≤ n ∧ n ≤ 140737488351232) then (bif bd || decide ((xs.length : Int) < n) then some (0, [], true) else some (numV (xs.take n.toNat), xs.drop n.toNat, false)) else none
def rdS : Sum := fnSum 2 1 1 [.one (.ptr 0 0), .one (.d (.int .i64)), .agg [.d (.sl [.int .u8]), .d .bool]] [.one (.d (.int .u64)), .agg [.d (.sl [.int .u8]), .d .bool]] (fun p => rdF p.2.1 p.2.2.1 p.2.2.2)
/-- What a call with one block comes to. -/
theorem ends1 {n : Nat} {PS RS : List ShA} {F : TAs PS → Option (TAs RS)} {al : List A} {cs cs' : List C} {r : TAs RS} {g : Gh} {w w' : World} {v : Value} {β : Nat} {vs : Array Value} {ty : TypeId}
    (htk : tksOf RS = []) (hB : Blks g w [cs]) (hk : Knows g w) (hj : g.j 0 = some β) (hout : ((fnSum n 1 1 PS RS F).out al [cs] r).2 = [cs'])
    (hv : RepV { K := g.K, j := g.j, th := fun _ _ => none } ((fnSum n 1 1 PS RS F).out al [cs] r).1 v)
    (hb : w'.heap[β]? = some (.cells vs ty (0, 0))) (hr : RepL { K := g.K, j := g.j, th := fun _ _ => none } cs' vs.toList) (ho : Only (fun k => k = β) w w') : Ends (fnSum n 1 1 PS RS F) al [cs] r g w v w' { K := g.K, j := g.j, th := fun _ _ => none } := by
  obtain ⟨β0, _, _, h1, h2, _, h4⟩ := hB.blk 0 cs rfl
  obtain rfl := Option.some.inj (hj.symm.trans h1)
  have dom : ∀ n β', g.j n = some β' → n = 0 := fun n β' e => by
    obtain ⟨i, h5, h6⟩ := hB.dom n β' e
    simp only [List.length_singleton] at h6
    omega
  refine ⟨fun _ _ _ e => e, fun _ _ _ e => .inl e, fun β' o u e => ?_, hv, ⟨fun i cs0 e => ?_, fun i k β' e1 e2 => ?_, fun m β' e => ?_⟩, ?_, fun i _ => rfl, fun i β' hi e => ?_, noTks (fun _ _ => rfl) (fun p => ?_), fun β' ⟨n', e, cap, h⟩ => (by cases h), ?_⟩
  · have hne : β' ≠ β := fun e' => by subst e'; have := h4 o; rw [this] at e; cases e
    have := hk β' o u e
    have hl := block_lt_of_cell this
    unfold World.cell? at this ⊢
    rw [ho.block β' hl hne]; exact this
  · rw [hout] at e
    cases i with
    | zero => simp at e; subst e; exact ⟨β, vs, ty, h1, hb, hr, h4⟩
    | succ i => simp at e
  · have := dom _ _ e1; have := dom _ _ e2; omega
  · rw [hout]; exact ⟨0, dom m β' e, by simp⟩
  · rw [hout]; simp
  · have := dom _ _ e; simp at hi; omega
  · show (tksOf RS)[p]? = none
    rw [htk]; rfl
  · exact ho.mono fun k _ e => .inl ⟨0, by simp, by subst e; exact h1⟩
theorem setCell_row {w : World} {β o : Nat} {vs : Array Value} {ty : TypeId} {u : Value} (h : w.heap[β]? = some (.cells vs ty (0, 0))) : (w.setCell ⟨β, o, none⟩ u).heap[β]? = some (.cells (vs.setIfInBounds o u) ty (0, 0)) := by
  have hl := (Array.getElem?_eq_some_iff.1 h).1
  have he := (Array.getElem?_eq_some_iff.1 h).2
  show (w.heap.modify β _)[β]? = _
  rw [Array.getElem?_eq_getElem (by simpa using hl), Array.getElem_modify_self, he]
  rfl
theorem frozen_row {w : World} {β o : Nat} {vs : Array Value} {ty : TypeId} (h : w.heap[β]? = some (.cells vs ty (0, 0))) : w.frozen? ⟨β, o, none⟩ = false := by
  simp [World.frozen?, h]
set_option maxRecDepth 100000 in
theorem rdS_ok {laid : List (Nat × Nat × Value)} : SumOk Tryd.prog laid 94 rdS := by
  intro al bs r hr g w vs hlaid hknown hA hB hTk
  simp only [rdS, fnSum] at hr
  cases hk : (Nat.beq al.length 2 && Nat.beq bs.length 1) with
  | false => rw [hk] at hr; cases hr
  | true =>
    rw [hk] at hr
    simp only [cond_true] at hr
    simp only [Bool.and_eq_true] at hk
    obtain ⟨a0, a1, rfl⟩ : ∃ a0 a1, al = [a0, a1] := by
      match al, Nat.eq_of_beq_eq_true hk.1 with
      | [a0, a1], _ => exact ⟨a0, a1, rfl⟩
    obtain ⟨cs, rfl⟩ : ∃ cs, bs = [cs] := by
      match bs, Nat.eq_of_beq_eq_true hk.2 with
      | [cs], _ => exact ⟨cs, rfl⟩
    split at hr
    · rename_i p ep
      obtain ⟨u, n, xs, bd⟩ := p
      simp only at hr
      obtain ⟨d1, d2⟩ := decAs_get ep
      obtain ⟨x0, _, rfl, h0, x1, _, rfl, h1, rfl⟩ := hA
      obtain ⟨a0', e0, q0, _⟩ := d2 0 a0 rfl
      obtain rfl := Option.some.inj e0
      obtain ⟨β, hj, rfl⟩ : RepC g (.ptr 0 0) x0 := q0 g x0 h0
      obtain ⟨a1', e1, q1, _⟩ := d2 1 a1 rfl
      obtain rfl := Option.some.inj e1
      obtain rfl : x1 = .int .i64 n := q1 g x1 h1
      obtain ⟨a2', e2, q2, _⟩ := d2 2 (.agg cs) rfl
      obtain rfl := Option.some.inj e2
      obtain ⟨β', vs', ty, hb1, hb2, hb3, hb4⟩ := hB.blk 0 cs rfl
      obtain rfl := Option.some.inj (hj.symm.trans hb1)
      obtain ⟨us, eu, hu⟩ := q2 g (.agg vs') ⟨vs'.toList, by simp, hb3⟩
      injection eu with eu
      subst eu
      obtain ⟨sv, _, rfl, hs, bv, _, rfl, hv, rfl⟩ : RepL g [.sl none [.int .u8] xs, boolC bd] us := hu
      obtain rfl : bv = .bool bd := hv
      have hβ : β < w.heap.size := (Array.getElem?_eq_some_iff.1 hb2).1
      have c0 : w.cell? ⟨β, 0, none⟩ = some sv := by rw [cell_row hb2]; rfl
      have c1 : w.cell? ⟨β, 1, none⟩ = some (.bool bd) := by rw [cell_row hb2]; rfl
      have f0 := frozen_row (o := 0) hb2
      have f1 := frozen_row (o := 1) hb2
      unfold rdF at hr
      cases hn : decide (1 ≤ n ∧ n ≤ 140737488351232) with
      | false => rw [hn] at hr; cases hr
      | true =>
        rw [hn] at hr
        simp only [cond_true] at hr
        obtain ⟨hn1, hn2⟩ := of_decide_eq_true hn
        obtain ⟨m, hm⟩ := Int.eq_ofNat_of_zero_le (a := n) (Int.le_trans (by decide) hn1)
        subst hm
        have hn1 : (1 : Int) ≤ (m : Int) := hn1
        have hn2 : (m : Int) ≤ (140737488351232 : Int) := hn2
        have hslice : ∃ ad cap, sv = .slice ad xs.length cap := by
          rcases hs.1 with ⟨rfl, ad, cz, rfl⟩ | ⟨b, off, cap, rfl, _⟩
          · exact ⟨ad, cz, rfl⟩
          · exact ⟨_, cap, rfl⟩
        cases hbad : (bd || decide ((xs.length : Int) < (m : Int))) with
        | true =>
          rw [hbad] at hr
          obtain rfl := Option.some.inj hr
          obtain ⟨ad, cap, rfl⟩ := hslice
          have hb' : bd = true ∨ xs.length < m := by
            rcases Bool.or_eq_true_iff.1 hbad with h | h
            · exact .inl h
            · have h2 : ((List.length (α := Int) xs : Nat) : Int) < (m : Int) := of_decide_eq_true h
              exact .inr (by omega)
          have hC := callsIn_wide.1 (number_bad β xs.length cap m ad bd w hb' hβ c0 c1 f0 f1)
          refine invokes_of_calls Tryd.func94 (by kernel_rfl) rfl (Calls.mono hC ?_)
          rintro e w' ⟨rfl, hw⟩
          refine ⟨_, rfl, _, ends1 (cs := cs) (cs' := [.sl none [.int .u8] [], boolC true]) (β := β) (vs := #[.slice none 0 0, .bool true]) (ty := ty) rfl hB hknown hj rfl rfl ?_ ?_ ?_⟩
          · rw [hw.block β hβ]
            exact setCell_row (setCell_row hb2)
          · exact ⟨_, _, rfl, ⟨.inl ⟨rfl, none, 0, rfl⟩, fun _ _ e => by cases e⟩, _, _, rfl, rfl, rfl⟩
          · refine ⟨hw.os, hw.tape, hw.output, ?_, fun k hk hne => ?_⟩
            · have := hw.size; simpa [gone] using this
            · rw [hw.block k hk]
              unfold gone
              rw [Below.heap_setCell _ _ _ _ hne, Below.heap_setCell _ _ _ _ hne]
        | false =>
          rw [hbad] at hr
          obtain rfl := Option.some.inj hr
          obtain ⟨rfl, hlt⟩ := Bool.or_eq_false_iff.1 hbad
          have hlt : ¬ (((List.length (α := Int) xs : Nat) : Int) < (m : Int)) := of_decide_eq_false hlt
          rcases hs.1 with ⟨rfl, _⟩ | ⟨b, off, cap, rfl, hcap, hel⟩
          · simp at hlt; omega
          have hcap : List.length (α := Int) xs ≤ cap := hcap
          have hbl : ∀ j, j < List.length (α := Int) xs → g.K b (off + j) = some (.int .u8 (xs[j]?.getD 0)) := fun j hj => by
            obtain ⟨us, u1, u2, u3⟩ := hel j xs[j] (List.getElem?_eq_getElem hj)
            obtain rfl : us = [Value.int .u8 xs[j]] := u2
            have := u3 0 _ rfl
            rw [List.getElem?_eq_getElem hj]
            simpa [widSL, widS] using this
          have hbK := hbl 0 (by omega)
          have hbs : b < w.heap.size := block_lt_of_cell (hknown _ _ _ hbK)
          have hne : b ≠ β := fun e => by subst e; rw [hb4] at hbK; cases hbK
          have hzl : (xs.take m).length = m := by rw [List.length_take]; omega
          have hC := callsIn_wide.1 (number_good β b off xs.length cap (xs.take m) w (by omega) (by omega) hcap (by omega) hβ hbs hne c0 c1 f0 (fun j hj => by
            rw [hknown _ _ _ (hbl j (by omega)), List.getElem?_take, if_pos (by omega)]))
          rw [hzl] at hC
          refine invokes_of_calls Tryd.func94 (by kernel_rfl) rfl (Calls.mono hC ?_)
          rintro e w' ⟨rfl, hw⟩
          refine ⟨_, rfl, _, ends1 (cs := cs) (cs' := [.sl none [.int .u8] (xs.drop m), boolC false]) (β := β) (vs := #[leftOf b off xs.length cap m, .bool false]) (ty := ty) rfl hB hknown hj rfl ?_ ?_ ?_ ?_⟩
          · show Value.int .u64 _ = Value.int .u64 (numV (xs.take m))
            unfold numV
            rw [hzl]
          · rw [hw.block β hβ]
            exact setCell_row hb2
          · refine ⟨_, _, rfl, ⟨?_, fun _ _ e => by cases e⟩, _, _, rfl, rfl, rfl⟩
            show RowS g.K _ _ (xs.drop m) (leftOf b off xs.length cap m)
            unfold leftOf
            refine .inr ⟨b, if cap = m then off else off + m, cap - m, by simp, by simp; omega, fun i x hx => ?_⟩
            rw [List.getElem?_drop] at hx
            have hi := (List.getElem?_eq_some_iff.1 hx).1
            obtain ⟨us, u1, u2, u3⟩ := hel (m + i) x hx
            refine ⟨us, u1, u2, fun j u hu => ?_⟩
            rw [if_neg (by omega)]
            have := u3 j u hu
            rw [show off + m + (i * widSL [.int .u8] + j) = off + ((m + i) * widSL [.int .u8] + j) by simp [widSL, widS]; omega]
            exact this
          · refine ⟨hw.os, hw.tape, hw.output, ?_, fun k hk hne => ?_⟩
            · have := hw.size; simpa using this
            · rw [hw.block k hk, Below.heap_setCell _ _ _ _ hne]
    · cases hr
end Go.Proofs.YtkdjfakjnkemiaaDoor.Mir
