/- The mirror's operations are right: rows by their cells; appends. Nothing here names the program. -/
import Derived.Test.YtmdnnlfoljdfpaaDoorMirR
namespace Go.Proofs.YtmdnnlfoljdfpaaDoor.Mir
open Go Go.RowKit

def FlatS {α : Type} (size : Nat) (R : α → List Value → Prop) : List α → List Value → Prop
  | [], us => us = []
  | x :: xs, us => ∃ a r, us = a ++ r ∧ a.length = size ∧ R x a ∧ FlatS size R xs r
section
variable {α : Type} {size : Nat} {R : α → List Value → Prop} {K : Nat → Nat → Option Value}
theorem FlatS.len : ∀ {xs : List α} {us : List Value}, FlatS size R xs us → us.length = xs.length * size
  | [], _, h => by simp only [FlatS] at h; simp [h]
  | x :: xs, _, ⟨a, r, h1, h2, _, h3⟩ => by rw [h1, List.length_append, h2, h3.len, List.length_cons, Nat.add_mul, Nat.one_mul, Nat.add_comm]
theorem FlatS.append : ∀ {xs ys : List α} {us vs : List Value}, FlatS size R xs us → FlatS size R ys vs → FlatS size R (xs ++ ys) (us ++ vs)
  | [], ys, us, vs, h, h' => by simp only [FlatS] at h; subst h; simpa using h'
  | x :: xs, ys, us, vs, ⟨a, r, h1, h2, h3, h4⟩, h' => ⟨a, r ++ vs, by rw [h1, List.append_assoc], h2, h3, h4.append h'⟩
theorem FlatS.get : ∀ {xs : List α} {us : List Value} {i : Nat} {x : α}, FlatS size R xs us → xs[i]? = some x → ∃ a, a.length = size ∧ R x a ∧ ∀ j u, a[j]? = some u → us[i * size + j]? = some u
  | [], _, _, _, _, e => by simp at e
  | y :: xs, us, 0, x, ⟨a, r, h1, h2, h3, _⟩, e => by
    simp at e; subst e
    refine ⟨a, h2, h3, fun j u hj => ?_⟩
    rw [h1, Nat.zero_mul, Nat.zero_add, List.getElem?_append_left (List.getElem?_eq_some_iff.1 hj).1]; exact hj
  | y :: xs, us, i + 1, x, ⟨a, r, h1, h2, _, h4⟩, e => by
    simp at e
    obtain ⟨b, k1, k2, k3⟩ := h4.get e
    refine ⟨b, k1, k2, fun j u hj => ?_⟩
    have := k3 j u hj
    rw [h1, List.getElem?_append_right (by rw [h2, Nat.add_mul]; omega), h2]
    rw [← this]; congr 1; rw [Nat.add_mul]; omega
theorem flat_of_get : ∀ {xs : List α} {us : List Value}, us.length = xs.length * size → (∀ i x, xs[i]? = some x → ∃ a : List Value, a.length = size ∧ R x a ∧ ∀ j u, a[j]? = some u → us[i * size + j]? = some u) → FlatS size R xs us
  | [], us, hl, _ => List.eq_nil_of_length_eq_zero (by simpa using hl)
  | x :: xs, us, hl, h => by
    obtain ⟨a, h1, h2, h3⟩ := h 0 x rfl
    rw [List.length_cons, Nat.add_mul, Nat.one_mul] at hl
    have ea : us.take size = a := by
      apply List.ext_getElem?
      intro j
      rw [List.getElem?_take]
      by_cases hj : j < size
      · rw [if_pos hj]
        have := h3 j _ (List.getElem?_eq_getElem (by omega))
        rw [Nat.zero_mul, Nat.zero_add] at this
        rw [this, List.getElem?_eq_getElem]
      · rw [if_neg hj, List.getElem?_eq_none (by omega)]
    refine ⟨us.take size, us.drop size, (List.take_append_drop _ _).symm, by rw [ea, h1], by rw [ea]; exact h2, flat_of_get (by rw [List.length_drop]; omega) (fun i y e => ?_)⟩
    obtain ⟨b, k1, k2, k3⟩ := h (i + 1) y (by simpa using e)
    refine ⟨b, k1, k2, fun j u hj => ?_⟩
    rw [List.getElem?_drop, ← k3 j u hj]; congr 1; rw [Nat.add_mul]; omega
theorem RowS.flat {xs : List α} {v : Value} (h : RowS K size R xs v) : (xs = [] ∧ ∃ a c, v = .slice a 0 c) ∨ ∃ β off cap us, v = .slice (some ⟨β, off, none⟩) xs.length cap ∧ xs.length ≤ cap ∧ FlatS size R xs us ∧ ∀ j u, us[j]? = some u → K β (off + j) = some u := by
  rcases h with h | ⟨β, off, cap, h1, h2, h3⟩
  · exact .inl h
  · refine .inr ⟨β, off, cap, ?_⟩
    have key : ∀ (xs : List α) (off : Nat), (∀ i x, xs[i]? = some x → ∃ us : List Value, us.length = size ∧ R x us ∧ ∀ j u, us[j]? = some u → K β (off + (i * size + j)) = some u) → ∃ us, FlatS size R xs us ∧ ∀ j u, us[j]? = some u → K β (off + j) = some u := by
      intro xs
      induction xs with
      | nil => exact fun off _ => ⟨[], rfl, fun j u e => by simp at e⟩
      | cons x xs ih =>
        intro off h
        obtain ⟨a, k1, k2, k3⟩ := h 0 x rfl
        obtain ⟨r, q1, q2⟩ := ih (off + size) (fun i y e => by
          obtain ⟨b, k1, k2, k3⟩ := h (i + 1) y (by simpa using e)
          refine ⟨b, k1, k2, fun j u hj => ?_⟩
          rw [← k3 j u hj]; congr 1; rw [Nat.add_mul]; omega)
        refine ⟨a ++ r, ⟨a, r, rfl, k1, k2, q1⟩, fun j u e => ?_⟩
        rcases Nat.lt_or_ge j a.length with hj | hj
        · rw [List.getElem?_append_left hj] at e
          have := k3 j u e
          rw [← this]; congr 1; omega
        · rw [List.getElem?_append_right hj] at e
          have := q2 _ u e
          rw [← this]; congr 1; omega
    obtain ⟨us, k1, k2⟩ := key xs off h3
    exact ⟨us, h1, h2, k1, k2⟩
theorem FlatS.row {xs : List α} {us : List Value} {β off cap : Nat} (h : FlatS size R xs us) (hK : ∀ j u, us[j]? = some u → K β (off + j) = some u) (hc : xs.length ≤ cap) : RowS K size R xs (.slice (some ⟨β, off, none⟩) xs.length cap) := by
  refine .inr ⟨β, off, cap, rfl, hc, fun i x e => ?_⟩
  obtain ⟨a, k1, k2, k3⟩ := h.get e
  exact ⟨a, k1, k2, fun j u hj => hK _ _ (k3 j u hj)⟩
theorem FlatS.all {p : Value → Prop} (hp : ∀ x us, R x us → ∀ u ∈ us, p u) : ∀ {xs : List α} {us : List Value}, FlatS size R xs us → ∀ u ∈ us, p u
  | [], _, h, u, hu => by simp only [FlatS] at h; subst h; cases hu
  | x :: xs, _, ⟨a, r, h1, _, h3, h4⟩, u, hu => by
    subst h1
    rcases List.mem_append.1 hu with hu | hu
    · exact hp _ _ h3 u hu
    · exact h4.all hp u hu
end
mutual
theorem RepS.one {K : Nat → Nat → Option Value} : ∀ {s : Sh} {x : s.T} {us : List Value}, RepS K s x us → ∀ u ∈ us, u.oneCell' = true
  | .int _, _, _, h, u, hu => by simp only [RepS] at h; subst h; simp at hu; subst hu; rfl
  | .bool, _, _, h, u, hu => by simp only [RepS] at h; subst h; simp at hu; subst hu; rfl
  | .str, _, _, h, u, hu => by simp only [RepS] at h; subst h; simp at hu; subst hu; rfl
  | .err _, e, _, h, u, hu => by simp only [RepS] at h; subst h; simp at hu; subst hu; cases e <;> rfl
  | .arr k n, xs, _, h, u, hu => by
    simp only [RepS] at h
    rw [h.2] at hu
    obtain ⟨z, _, rfl⟩ := List.mem_map.1 hu
    rfl
  | .sl l, xs, _, h, u, hu => by
    simp only [RepS] at h
    obtain ⟨v, rfl, hv⟩ := h
    obtain rfl := List.mem_singleton.1 hu
    rcases hv with ⟨_, _, _, rfl⟩ | ⟨β, o, c, rfl, _⟩ <;> rfl
theorem RepSL.one {K : Nat → Nat → Option Value} : ∀ {l : List Sh} {x : TL l} {us : List Value}, RepSL K l x us → ∀ u ∈ us, u.oneCell' = true
  | [], _, _, h, u, hu => by simp only [RepSL] at h; subst h; cases hu
  | [s], x, us, h, u, hu => by simp only [RepSL] at h; exact RepS.one h u hu
  | s :: s' :: r, p, us, h, u, hu => by
    simp only [RepSL] at h
    obtain ⟨a, b, rfl, h1, h2⟩ := h
    rcases List.mem_append.1 hu with hu | hu
    · exact RepS.one h1 u hu
    · exact RepSL.one h2 u hu
end
/-! ### the machine's append -/
section
variable {P : Program} {w : World}
theorem storeOwn (g : Nat) (t : TypeId) (fz : Nat × Nat) (o : Nat) : ∀ (vs : List Value) (i : Nat) (cur : Array Value) (w : World), w.heap[g]? = some (.cells cur t fz) → (fz.2 ≤ fz.1 ∨ cur.size ≤ fz.1) → o + i + vs.length ≤ cur.size → (∀ v ∈ vs, v.oneCell' = true) →
    (storeCells ⟨g, o, none⟩ vs i).run P w = .ok () (w.setRow g (cur.toList.take (o + i) ++ vs ++ cur.toList.drop (o + i + vs.length)).toArray)
  | [], i, cur, w, hg, _, _, _ => by
    simp only [storeCells, List.append_nil, List.length_nil, Nat.add_zero, List.take_append_drop, Array.toArray_toList]
    rw [setRow_self w g cur t fz hg]
    rfl
  | v :: rest, i, cur, w, hg, hfz, hl, h1 => by
    have hi : o + i < cur.size := by simp at hl; omega
    have hadd : (⟨g, o, none⟩ : Addr).add i = ⟨g, o + i, none⟩ := add_off _ _ _
    have hcell : w.cell? ⟨g, o + i, none⟩ = some cur[o + i] := by simp [World.cell?, hg, hi]
    have hfro : w.frozen? ⟨g, o + i, none⟩ = false := by
      obtain ⟨lo, hi'⟩ := fz
      simp only [World.frozen?, hg, Bool.and_eq_false_iff, decide_eq_false_iff_not]
      simp only at hfz
      omega
    have hst : (store ((⟨g, o, none⟩ : Addr).add i) v).run P w = .ok () (w.setRow g (cur.setIfInBounds (o + i) v)) := by
      rw [hadd, run_store P w _ v _ (h1 v (by simp)), hcell]
      simp [hfro, setCell_eq_setRow w g (o + i) cur t fz v hg]
    have ih := storeOwn g t fz o rest (i + 1) (cur.setIfInBounds (o + i) v) (w.setRow g (cur.setIfInBounds (o + i) v)) (setRow_heap w g cur _ t _ hg) (by simpa using hfz) (by simp at hl ⊢; omega) (fun x hx => h1 x (by simp [hx]))
    simp only [storeCells, Sem.run_bind, hst, Result.andThen_ok, ih, setRow_setRow]
    congr 3
    have e := list_seg_step cur.toList (o + i) v rest (by simp at hl ⊢; omega)
    simpa [Array.toList_setIfInBounds, Nat.add_assoc] using e
/-- The first cells of a slice whose cells are known. -/
def Firsts (P : Program) (w : World) (size n : Nat) (x : Value) (news : List Value) : Prop := ∀ w' : World, w'.heap = w.heap → (Builtin.firstCells size n x).run P w' = .ok news.toArray w'
theorem firsts_row {K : Nat → Nat → Option Value} {α : Type} {size : Nat} {R : α → List Value → Prop} {xs : List α} {v : Value} (hK : ∀ β o u, K β o = some u → w.cell? ⟨β, o, none⟩ = some u) (h : RowS K size R xs v) :
    ∃ us, FlatS size R xs us ∧ Firsts P w size xs.length v us ∧ (∃ a c, v = .slice a xs.length c ∧ xs.length ≤ c) := by
  rcases h.flat with ⟨rfl, ad, c0, rfl⟩ | ⟨β, off, cap, us, rfl, h2, h3, h4⟩
  · refine ⟨[], rfl, fun w' _ => ?_, ad, c0, rfl, Nat.zero_le _⟩
    cases ad with
    | none => simp [Builtin.firstCells]
    | some ad => exact run_firstCells_some w' size 0 ad 0 c0 [] (by simp) (fun j u e => by simp at e)
  · refine ⟨us, h3, fun w' hw => ?_, _, cap, rfl, h2⟩
    refine run_firstCells_some w' size xs.length ⟨β, off, none⟩ xs.length cap us h3.len (fun j u e => ?_)
    rw [add_off]
    have := hK _ _ _ (h4 j u e)
    simpa [World.cell?, hw] using this
theorem append_grows {t ty e : TypeId} {i : TypeInfo} {z : Value} (ht : P.underlying t = some (.slice e)) (hi : P.info? e = some i) (hz : i.zero = some z) {t' : TypeId} {u' : TypeDesc} (ht' : P.underlying t' = some u') (hu' : u' = .string ∨ ∃ e', u' = .slice e') {s : Option Addr} {sLen sCap n : Nat} {vy : Value} (hl : ∀ w', (Builtin.lenOf vy).run P w' = .ok n w') {olds news : List Value}
    (ho : Firsts P w i.size sLen (.slice s sLen sCap) olds) (hn : Firsts P w i.size n vy news) (hg : sCap < sLen + n) (h63 : ((sLen + n : Nat) : Int) ≤ 9223372036854775807) (hfit : Builtin.nextslicecap (sLen + n) sCap * i.bytes ≤ 281474976710656) :
    (Builtin.append_ #[t, t'] ty #[.slice s sLen sCap, vy]).run P w =
      .ok (.slice (some ⟨w.heap.size, 0, none⟩) (sLen + n) (grownCap w (sLen + n) sCap e))
        (w.drew.alloc (.cells (olds.toArray ++ news.toArray ++ Builtin.zeroCells z.cells (grownCap w (sLen + n) sCap e - (sLen + n))) e)) := by
  have hn' : ¬ (sLen + n ≤ sCap) := by omega
  have h63' : ¬ (9223372036854775807 < ((sLen : Int) + (n : Int))) := by omega
  have h48' : ¬ (281474976710656 < Builtin.nextslicecap (sLen + n) sCap * i.bytes) := by omega
  have hf := hn w.drew rfl
  have hfo := ho w.drew rfl
  rcases hu' with rfl | ⟨e', rfl⟩ <;> (
  simp [Builtin.append_, run_underlying ht, run_underlying ht', sizeOf, typeInfo, zeroValue, hi, hz, hl, hn', h63', h48', Question.forced, hf, hfo, newRow, grownCap]
  congr 2
  apply Array.ext'
  simp [List.append_assoc])
theorem append_own {t ty e : TypeId} {i : TypeInfo} (ht : P.underlying t = some (.slice e)) (hi : P.info? e = some i) {t' : TypeId} {u' : TypeDesc} (ht' : P.underlying t' = some u') (hu' : u' = .string ∨ ∃ e', u' = .slice e') {β sLen sCap n : Nat} {vy : Value} (hl : ∀ w', (Builtin.lenOf vy).run P w' = .ok n w') {cur : Array Value} {fz : Nat × Nat} {news : List Value}
    (hg : w.heap[β]? = some (.cells cur e fz)) (hfz : fz.2 ≤ fz.1 ∨ cur.size ≤ fz.1) (hn : Firsts P w i.size n vy news) (h1 : ∀ u ∈ news, u.oneCell' = true)
    (hroom : sLen + n ≤ sCap) (hfit : sLen * i.size + news.length ≤ cur.size) :
    (Builtin.append_ #[t, t'] ty #[.slice (some ⟨β, 0, none⟩) sLen sCap, vy]).run P w =
      .ok (.slice (some ⟨β, 0, none⟩) (sLen + n) sCap) (w.setRow β (cur.toList.take (sLen * i.size) ++ news ++ cur.toList.drop (sLen * i.size + news.length)).toArray) := by
  have hf := hn w rfl
  have hst := storeOwn (P := P) β e fz (sLen * i.size) news 0 cur w hg hfz (by simpa using hfit) h1
  simp only [Nat.add_zero] at hst
  rcases hu' with rfl | ⟨e', rfl⟩ <;> simp [Builtin.append_, run_underlying ht, run_underlying ht', sizeOf, typeInfo, hi, hl, hroom, hf, Addr.add_lit, hst]
theorem append_none {t ty e : TypeId} {i : TypeInfo} (ht : P.underlying t = some (.slice e)) (hi : P.info? e = some i) {t' : TypeId} {u' : TypeDesc} (ht' : P.underlying t' = some u') (hu' : u' = .string ∨ ∃ e', u' = .slice e') {s : Option Addr} {sLen sCap : Nat} {vy : Value} (hl : ∀ w', (Builtin.lenOf vy).run P w' = .ok 0 w')
    (hn : Firsts P w i.size 0 vy []) (hroom : sLen ≤ sCap) :
    (Builtin.append_ #[t, t'] ty #[.slice s sLen sCap, vy]).run P w = .ok (.slice s sLen sCap) w := by
  have hf := hn w rfl
  rcases hu' with rfl | ⟨e', rfl⟩ <;> cases s <;> simp [Builtin.append_, run_underlying ht, run_underlying ht', sizeOf, typeInfo, hi, hl, hroom, hf, storeCells]
end
end Go.Proofs.YtmdnnlfoljdfpaaDoor.Mir
