/- The mirror's operations are right: calls. Nothing here names the program. -/
import Derived.Test.YtkdjfakjnkemiaaDoorMirF
namespace Go.Proofs.YtkdjfakjnkemiaaDoor.Mir
open Go Go.RowKit

section
variable {P : Program} {b : Base} {N : Nat} {g : Gh} {fr : Nat → V} {mem : Nat → Option (List C)} {a : Act} {w : World} {d : Delta} {X : Ctx} {o : Oper} {Q : Exit → Act → World → Prop}
theorem over_append (A B : List (Nat × List C)) : over (A ++ B) mem = over A (over B mem) := by
  funext n
  induction A with
  | nil => rfl
  | cons p r ih =>
    obtain ⟨m, cs⟩ := p
    show (bif Nat.beq n m then some cs else over (r ++ B) mem n) = _
    rw [ih]; rfl
theorem alive_spec {n v E sz : Nat} (h : alive mem n v E sz = true) : mem n = some [.tkt true v E sz] := by
  unfold alive at h
  split at h
  · rename_i a v' E' sz' e
    simp only [Bool.and_eq_true] at h
    obtain ⟨⟨⟨rfl, h2⟩, h3⟩, h4⟩ := h
    obtain rfl := Nat.eq_of_beq_eq_true h2
    obtain rfl := Nat.eq_of_beq_eq_true h3
    obtain rfl := Nat.eq_of_beq_eq_true h4
    exact e
  · cases h
theorem nextV_spec {n v : Nat} (h : nextV mem n = some v) : mem n = none ∧ v = 0 ∨ ∃ al v' E' sz', mem n = some [.tkt al v' E' sz'] ∧ v = v' + 1 := by
  unfold nextV at h
  split at h
  · rename_i e; exact .inl ⟨e, (Option.some.inj h).symm⟩
  · rename_i al v' E sz e; exact .inr ⟨al, v', E, sz, e, (Option.some.inj h).symm⟩
  · cases h
theorem Con.odd (hc : Con b N g fr mem a w) {n v E sz : Nat} {al : Bool} (hm : mem n = some [.tkt al v E sz]) : n % 2 = 1 := by
  rcases Nat.mod_two_eq_zero_or_one n with e | e
  · obtain ⟨β, vs, ty, _, _, hr, _⟩ := hc.blk n _ e hm
    obtain ⟨x, r, _, h2, _⟩ := hr
    exact h2.elim
  · exact e
theorem Con.aliveAt (hc : Con b N g fr mem a w) {n v E sz : Nat} (hm : mem n = some [.tkt true v E sz]) : ∃ τ, g.th n v = some τ ∧ ∀ β e cap, τ = .own β e cap → OwnAt g b w β e cap E sz := by
  obtain ⟨al, v', E', sz', k1, k2⟩ := hc.tkt n _ (hc.odd hm) hm
  injection k1 with k1
  injection k1 with k0 k1 k3 k4
  subst k0; subst k1; subst k3; subst k4
  exact k2 rfl
theorem OwnAt.same {g' : Gh} {β e cap E sz : Nat} (hK : g'.K = g.K) (hj : g'.j = g.j) (O : OwnAt g b w β e cap E sz) : OwnAt g' b w β e cap E sz :=
  ⟨⟨O.row, O.room, O.most, by rw [hK]; exact O.dark, by rw [hj]; exact O.mine⟩, O.new⟩
def killL (us : List (Nat × Nat × Nat × Nat)) : List (Nat × List C) := us.map fun u => (u.1, [C.tkt false u.2.1 u.2.2.1 u.2.2.2])
theorem killL_none {us : List (Nat × Nat × Nat × Nat)} {n : Nat} (h : n ∉ us.map (·.1)) : over (killL us) mem n = mem n :=
  over_none fun p hp e => h (by
    obtain ⟨u, h1, rfl⟩ := List.mem_map.1 hp
    subst e
    exact List.mem_map.2 ⟨u, h1, rfl⟩)
theorem killL_some : ∀ {us : List (Nat × Nat × Nat × Nat)} {n : Nat}, n ∈ us.map (·.1) → ∃ v E sz, over (killL us) mem n = some [.tkt false v E sz]
  | [], _, h => by cases h
  | u :: us, n, h => by
    by_cases e : n = u.1
    · subst e; exact ⟨u.2.1, u.2.2.1, u.2.2.2, by simp [killL, over]⟩
    · have hb : Nat.beq n u.1 = false := by cases hb : Nat.beq n u.1 with | false => rfl | true => exact absurd (Nat.eq_of_beq_eq_true hb) e
      rw [List.map_cons, List.mem_cons] at h
      obtain ⟨v, E, sz, k⟩ := killL_some (us := us) (h.resolve_left e)
      exact ⟨v, E, sz, by
        show (bif Nat.beq n u.1 then _ else over (killL us) mem n) = _
        rw [hb]; exact k⟩
theorem kills (h : Con b N g fr mem a w) : ∀ {us : List (Nat × Nat × Nat × Nat)}, (∀ u ∈ us, mem u.1 = some [.tkt true u.2.1 u.2.2.1 u.2.2.2]) → (us.map (·.1)).Nodup → Con b N g fr (over (killL us) mem) a w
  | [], _, _ => h
  | u :: us, hm, hd => by
    rw [List.map_cons, List.nodup_cons] at hd
    have ih := kills h (us := us) (fun u' hu => hm u' (List.mem_cons_of_mem _ hu)) hd.2
    have hu := hm u List.mem_cons_self
    have e : over (killL us) mem u.1 = some [.tkt true u.2.1 u.2.2.1 u.2.2.2] := by rw [killL_none hd.1]; exact hu
    exact ih.kill e (h.odd hu)
theorem tkWr_cases : ∀ {tl q : List (Nat × Nat)} (m : Nat), tl.length = q.length →
    (∃ (i : Nat) (v E sz : Nat), tl[i]? = some (m, v) ∧ q[i]? = some (E, sz) ∧ over (tkWr tl q) mem m = some [.tkt true v E sz]) ∨ (m ∉ tl.map (·.1) ∧ over (tkWr tl q) mem m = mem m)
  | [], [], m, _ => .inr ⟨by simp, rfl⟩
  | (n, v) :: tl, (E, sz) :: q, m, hl => by
    by_cases e : m = n
    · subst e; exact .inl ⟨0, v, E, sz, rfl, rfl, by simp [tkWr, over]⟩
    · have hb : Nat.beq m n = false := by cases hb : Nat.beq m n with | false => rfl | true => exact absurd (Nat.eq_of_beq_eq_true hb) e
      have eo : over (tkWr ((n, v) :: tl) ((E, sz) :: q)) mem m = over (tkWr tl q) mem m := by
        show (bif Nat.beq m n then _ else over (tkWr tl q) mem m) = _
        rw [hb]; rfl
      rcases tkWr_cases m (show tl.length = q.length by simpa using hl) with ⟨i, v', E', sz', h1, h2, h3⟩ | ⟨h1, h2⟩
      · exact .inl ⟨i + 1, v', E', sz', by simpa using h1, by simpa using h2, eo.trans h3⟩
      · exact .inr ⟨by simp [e] at h1 ⊢; exact h1, eo.trans h2⟩
theorem tickets : ∀ {tl q : List (Nat × Nat)} {g : Gh} {τ : Nat → Tk}, Con b N g fr mem a w → tl.length = q.length → (tl.map (·.1)).Nodup →
    (∀ p ∈ tl, p.1 % 2 = 1 ∧ (mem p.1 = none ∧ p.2 = 0 ∨ ∃ al v' E' sz', mem p.1 = some [.tkt al v' E' sz'] ∧ p.2 = v' + 1)) →
    (∀ i E sz, q[i]? = some (E, sz) → ∀ β e cap, τ i = .own β e cap → OwnAt g b w β e cap E sz) →
    (∀ i k β e e' cap cap', i < tl.length → k < tl.length → τ i = .own β e cap → τ k = .own β e' cap' → i = k) →
    (∀ i β e cap, i < tl.length → τ i = .own β e cap → ∀ m v E sz e' cap', mem m = some [.tkt true v E sz] → g.th m v ≠ some (.own β e' cap')) →
    ∃ g', g.le g' ∧ g'.j = g.j ∧ g'.K = g.K ∧ (∀ i n v, tl[i]? = some (n, v) → g'.th n v = some (τ i)) ∧ Con b N g' fr (over (tkWr tl q) mem) a w
  | [], [], g, τ, h, _, _, _, _, _, _ => ⟨g, Gh.le.refl g, rfl, rfl, fun i n v e => by simp at e, h⟩
  | (n, v) :: tl, (E, sz) :: q, g, τ, h, hl, hd, hn, hO, hi, hf => by
    rw [List.map_cons, List.nodup_cons] at hd
    obtain ⟨g1, k1, k2, k3, k4, k5⟩ := tickets (g := g) (τ := fun i => τ (i + 1)) h (by simpa using hl) hd.2 (fun p hp => hn p (List.mem_cons_of_mem _ hp))
      (fun i E sz e => hO (i + 1) E sz (by simpa using e)) (fun i k β e e' cap cap' h1 h2 e1 e2 => by have := hi (i + 1) (k + 1) β e e' cap cap' (by simp; omega) (by simp; omega) e1 e2; omega)
      (fun i β e cap h1 e1 => hf (i + 1) β e cap (by simp; omega) e1)
    obtain ⟨hodd, hnn⟩ := hn (n, v) List.mem_cons_self
    have e0 : over (tkWr tl q) mem n = mem n := by
      rcases tkWr_cases (mem := mem) n (show tl.length = q.length by simpa using hl) with ⟨i, v', E', sz', h1, _⟩ | ⟨_, h2⟩
      · exact absurd (List.mem_map.2 ⟨(n, v'), List.mem_of_getElem? h1, rfl⟩) hd.1
      · exact h2
    obtain ⟨g2, q1, q2, q3, q4, q5⟩ := k5.ticket (n := n) (v := v) (E := E) (sz := sz) (τ := τ 0) hodd (by rw [e0]; exact hnn) (fun β e cap et => (hO 0 E sz rfl β e cap et).same k3 k2)
      (fun β e cap et m v' E' sz' e' cap' hmn hm ht => by
        rcases tkWr_cases (mem := mem) m (show tl.length = q.length by simpa using hl) with ⟨i, v2, E2, sz2, h1, h2, h3⟩ | ⟨h1, h2⟩
        · rw [h3] at hm
          injection hm with hm
          injection hm with hm _
          injection hm with _ hm _ _
          subst hm
          rw [k4 i m v2 h1] at ht
          have hil : i < tl.length := (List.getElem?_eq_some_iff.1 h1).1
          have := hi 0 (i + 1) β e e' cap cap' (by simp) (by simp; omega) et (Option.some.inj ht)
          omega
        · rw [h2] at hm
          obtain ⟨τ', t1, _⟩ := h.aliveAt hm
          have := k1.th _ _ _ t1
          rw [this] at ht
          exact hf 0 β e cap (by simp) et m v' E' sz' e' cap' hm (t1.trans ht))
    refine ⟨g2, k1.trans q1, q2.trans k2, q3.trans k3, fun i n' v' e => ?_, q5⟩
    cases i with
    | zero => simp at e; obtain ⟨rfl, rfl⟩ := e; exact q4
    | succ i => exact q1.th _ _ _ (k4 i n' v' (by simpa using e))
theorem callTks_spec {dd : Nat} : ∀ {q tl : List (Nat × Nat)} {i : Nat}, callTks mem dd i q = some tl → tl.length = q.length ∧ ∀ (k n v : Nat), tl[k]? = some (n, v) → n = tkN dd (i + k) ∧ nextV mem n = some v
  | [], tl, i, h => by
    obtain rfl := (Option.some.inj h).symm
    exact ⟨rfl, fun k n v e => by simp at e⟩
  | _ :: q, tl, i, h => by
    unfold callTks at h
    split at h
    · rename_i v l e1 e2
      obtain rfl := (Option.some.inj h).symm
      obtain ⟨k1, k2⟩ := callTks_spec e2
      refine ⟨by simp [k1], fun k n v' e => ?_⟩
      cases k with
      | zero => simp at e; obtain ⟨rfl, rfl⟩ := e; exact ⟨rfl, e1⟩
      | succ k =>
        obtain ⟨q1, q2⟩ := k2 k n v' (by simpa using e)
        exact ⟨by rw [q1]; unfold tkN; omega, q2⟩
    · cases h
theorem disjN_spec : ∀ {A B : List Nat}, disjN A B = true → ∀ n ∈ A, n ∉ B
  | [], _, _, n, hn => by cases hn
  | m :: A, B, h, n, hn => by
    simp only [disjN, Bool.and_eq_true, Bool.not_eq_true'] at h
    rcases List.mem_cons.1 hn with rfl | hn
    · intro hb; rw [hasN_iff.2 hb] at h; cases h.1
    · exact disjN_spec h.2 n hn
structure ArgTks (g : Gh) (mem : Nat → Option (List C)) (f : Nat → Nat) (p : Nat) (ts : List (Option (Nat × Nat × List Sh))) (as as' : List A) (xs : List Value) (us : List (Nat × Nat × Nat × Nat)) (thc : Nat → Nat → Option Tk) : Prop where
  rep : ∀ gc : Gh, gc.K = g.K → (∀ n ∈ nameAs as, ∀ β, g.j n = some β → gc.j (f n) = some β) → (∀ n v τ, thc n v = some τ → gc.th n v = some τ) → RepAs gc as' xs
  own : ∀ n v τ, thc n v = some τ → v = 0 ∧ ∃ (q E sz : Nat) (l : List Sh), ts[q]? = some (some (E, sz, l)) ∧ n = 2 * (p + q) + 1 ∧ ∀ β e cap, τ = .own β e cap → ∃ m v', (m, v', E, sz) ∈ us ∧ g.th m v' = some τ
  tot : ∀ (q E sz : Nat) (l : List Sh), ts[q]? = some (some (E, sz, l)) → ∃ τ, thc (2 * (p + q) + 1) 0 = some τ
  inj : ∀ n m β e e' cap cap', thc n 0 = some (.own β e cap) → thc m 0 = some (.own β e' cap') → n = m
  mem : ∀ u ∈ us, mem u.1 = some [.tkt true u.2.1 u.2.2.1 u.2.2.2]
  nd : (us.map (·.1)).Nodup
theorem ArgTks.more {f : Nat → Nat} {p : Nat} {ts : List (Option (Nat × Nat × List Sh))} {y : A} {as as' : List A} {x : Value} {xs : List Value} {us : List (Nat × Nat × Nat × Nat)} {thc : Nat → Nat → Option Tk}
    (h : ArgTks g mem f (p + 1) ts as as' xs us thc) (hx : RepA g y x) : ArgTks g mem f p (none :: ts) (y :: as) (renA f noTk y :: as') (x :: xs) us thc where
  rep gc hK hj ht := ⟨x, xs, rfl, ren_repA (g1 := g) (fun _ _ _ e => by rw [hK]; exact e) noTk_ok (fun n hn => hj n (List.mem_append_left _ hn)) hx, h.rep gc hK (fun n hn => hj n (List.mem_append_right _ hn)) ht⟩
  own n v τ e := by
    obtain ⟨h1, q, E, sz, l, h2, h3, h4⟩ := h.own n v τ e
    exact ⟨h1, q + 1, E, sz, l, by simpa using h2, by omega, h4⟩
  tot q E sz l e := by
    cases q with
    | zero => simp at e
    | succ q =>
      obtain ⟨τ, k⟩ := h.tot q E sz l (by simpa using e)
      exact ⟨τ, by rw [← k]; congr 1; omega⟩
  inj := h.inj
  mem := h.mem
  nd := h.nd
theorem tkArgs_spec (hc : Con b N g fr mem a w) {f : Nat → Nat} : ∀ {as as' : List A} {xs : List Value} {p : Nat} {ts : List (Option (Nat × Nat × List Sh))} {us : List (Nat × Nat × Nat × Nat)}, tkArgs mem f p ts as = some (as', us) → RepAs g as xs →
    ∃ thc, ArgTks g mem f p ts as as' xs us thc
  | [], as', xs, p, [], us, h, hx => by
    simp only [tkArgs, Option.some.injEq, Prod.mk.injEq] at h
    obtain ⟨rfl, rfl⟩ := h
    exact ⟨fun _ _ => none, ⟨fun _ _ _ _ => hx, fun _ _ _ e => (by cases e), fun q _ _ _ e => (by simp at e), fun _ _ _ _ _ _ _ e => (by cases e), fun _ e => (by cases e), List.nodup_nil⟩⟩
  | [], _, _, _, _ :: _, _, h, _ => by simp [tkArgs] at h
  | y :: as, as', xs, p, [], us, h, hx => by
    obtain ⟨x, r, rfl, h1, h2⟩ := hx
    simp only [tkArgs] at h
    split at h
    · rename_i r' us' e
      simp only [Option.some.injEq, Prod.mk.injEq] at h
      obtain ⟨rfl, rfl⟩ := h
      obtain ⟨thc, H⟩ := tkArgs_spec hc e h2
      have H' := H.more h1
      exact ⟨thc, H'.rep, fun n v τ e => by
        obtain ⟨k1, q, E, sz, l, k2, k3⟩ := H'.own n v τ e
        cases q with
        | zero => simp at k2
        | succ q => simp at k2, fun q _ _ _ e => by simp at e, H'.inj, H'.mem, H'.nd⟩
    · cases h
  | y :: as, as', xs, p, none :: ts, us, h, hx => by
    obtain ⟨x, r, rfl, h1, h2⟩ := hx
    simp only [tkArgs] at h
    split at h
    · rename_i r' us' e
      simp only [Option.some.injEq, Prod.mk.injEq] at h
      obtain ⟨rfl, rfl⟩ := h
      obtain ⟨thc, H⟩ := tkArgs_spec hc e h2
      exact ⟨thc, H.more h1⟩
    · cases h
  | y :: as, as', xs, p, some (E, sz, l) :: ts, us, h, hx => by
    obtain ⟨x, r, rfl, h1, h2⟩ := hx
    simp only [tkArgs] at h
    split at h
    · rename_i r' us' e
      obtain ⟨thc, H⟩ := tkArgs_spec hc e h2
      have odd' : ∀ n v τ, thc n v = some τ → n ≠ 2 * p + 1 := fun n v τ e => by
        obtain ⟨_, q, _, _, _, _, k, _⟩ := H.own n v τ e
        omega
      have key : ∀ (c : C) (us2 : List (Nat × Nat × Nat × Nat)) (τ0 : Tk), (∀ gc : Gh, gc.K = g.K → gc.th (2 * p + 1) 0 = some τ0 → RepC gc c x) → (∀ u ∈ us', u ∈ us2) →
          (∀ β e cap, τ0 = .own β e cap → ∃ m v', (m, v', E, sz) ∈ us2 ∧ g.th m v' = some τ0 ∧ mem m = some [.tkt true v' E sz] ∧ m ∉ us'.map (·.1)) →
          (∀ u ∈ us2, mem u.1 = some [.tkt true u.2.1 u.2.2.1 u.2.2.2]) → (us2.map (·.1)).Nodup →
          ∃ thc, ArgTks g mem f p (some (E, sz, l) :: ts) (y :: as) (.one c :: r') (x :: r) us2 thc := by
        intro c us2 τ0 hc1 hsub hown hmem hnd
        have hfree : ∀ m β e e' cap cap', τ0 = .own β e cap → thc m 0 = some (.own β e' cap') → False := fun m β e e' cap cap' e1 e2 => by
          obtain ⟨m1, v1, _, z2, z3, z4⟩ := hown β e cap e1
          obtain ⟨_, q, E2, sz2, _, _, _, k⟩ := H.own m 0 _ e2
          obtain ⟨m2, v2, k1, k2⟩ := k β e' cap' rfl
          rw [e1] at z2
          have := hc.tinj m1 m2 v1 v2 _ _ _ _ β e e' cap cap' z3 (H.mem _ k1) z2 k2
          subst this
          exact z4 (List.mem_map.2 ⟨_, k1, rfl⟩)
        have th0 : ∀ n v, n ≠ 2 * p + 1 → (if n = 2 * p + 1 ∧ v = 0 then some τ0 else thc n v) = thc n v := fun n v hne => if_neg (fun e => hne e.1)
        refine ⟨fun n v => if n = 2 * p + 1 ∧ v = 0 then some τ0 else thc n v, fun gc hK hj ht => ?_, fun n v τ e => ?_, fun q E' sz' l' e => ?_, fun n m β e e' cap cap' e1 e2 => ?_, hmem, hnd⟩
        · exact ⟨x, r, rfl, hc1 gc hK (ht (2 * p + 1) 0 τ0 (by simp)), H.rep gc hK (fun n hn => hj n (List.mem_append_right _ hn)) (fun n v τ e => ht n v τ ((th0 n v (odd' n v τ e)).trans e))⟩
        · by_cases en : n = 2 * p + 1 ∧ v = 0
          · rw [if_pos en] at e
            obtain rfl := Option.some.inj e
            refine ⟨en.2, 0, E, sz, l, rfl, by omega, fun β e cap et => ?_⟩
            obtain ⟨m, v', z1, z2, _⟩ := hown β e cap et
            exact ⟨m, v', z1, z2⟩
          · rw [if_neg en] at e
            obtain ⟨k1, q, E', sz', l', k2, k3, k4⟩ := H.own n v τ e
            refine ⟨k1, q + 1, E', sz', l', by simpa using k2, by omega, fun β e cap et => ?_⟩
            obtain ⟨m, v', z1, z2⟩ := k4 β e cap et
            exact ⟨m, v', hsub _ z1, z2⟩
        · cases q with
          | zero => exact ⟨τ0, if_pos ⟨by omega, rfl⟩⟩
          | succ q =>
            obtain ⟨τ, k⟩ := H.tot q E' sz' l' (by simpa using e)
            refine ⟨τ, ?_⟩
            have e2 : 2 * (p + (q + 1)) + 1 = 2 * (p + 1 + q) + 1 := by omega
            show (if 2 * (p + (q + 1)) + 1 = 2 * p + 1 ∧ (0 : Nat) = 0 then some τ0 else thc (2 * (p + (q + 1)) + 1) 0) = _
            rw [if_neg (by omega), e2]; exact k
        · by_cases en : n = 2 * p + 1 <;> by_cases em : m = 2 * p + 1
          · rw [en, em]
          · rw [if_pos ⟨en, rfl⟩] at e1
            rw [if_neg (fun e => em e.1)] at e2
            exact (hfree m β e e' cap cap' (Option.some.inj e1) e2).elim
          · rw [if_pos ⟨em, rfl⟩] at e2
            rw [if_neg (fun e => en e.1)] at e1
            exact (hfree n β e' e cap' cap (Option.some.inj e2) e1).elim
          · rw [if_neg (fun e => en e.1)] at e1
            rw [if_neg (fun e => em e.1)] at e2
            exact H.inj n m β e e' cap cap' e1 e2
      split at h
      · simp only [Option.some.injEq, Prod.mk.injEq] at h
        obtain ⟨rfl, rfl⟩ := h
        obtain rfl : x = _ := h1
        refine key (.sl (some (2 * p + 1, 0)) l []) us' .none (fun gc hK ht => ⟨.inl ⟨rfl, rfl⟩, fun n v e => ?_⟩) (fun _ h => h) (fun _ _ _ e => by cases e) H.mem H.nd
        obtain ⟨rfl, rfl⟩ := Prod.mk.inj (Option.some.inj e)
        exact ⟨_, ht, rfl, rfl⟩
      · rename_i n v l' ys
        cases hb : (alive mem n v E sz && !hasN n (us'.map (·.1))) with
        | false => rw [hb] at h; cases h
        | true =>
          rw [hb] at h
          simp only [cond_true, Option.some.injEq, Prod.mk.injEq] at h
          obtain ⟨rfl, rfl⟩ := h
          simp only [Bool.and_eq_true, Bool.not_eq_true'] at hb
          have hal := alive_spec hb.1
          have hnot : n ∉ us'.map (·.1) := fun h => by rw [hasN_iff.2 h] at hb; cases hb.2
          obtain ⟨τ, t1, _⟩ := hc.aliveAt hal
          obtain ⟨τ2, t2, t3⟩ := h1.2 n v rfl
          obtain rfl := Option.some.inj (t1.symm.trans t2)
          refine key (.sl (some (2 * p + 1, 0)) l' ys) _ τ (fun gc hK ht => ⟨h1.1.mono (fun _ _ _ e => by rw [hK]; exact e) (fun x us => RepSL.mono (fun _ _ _ e => by rw [hK]; exact e)), fun n2 v2 e => ?_⟩) (fun _ h => List.mem_cons_of_mem _ h) (fun β e cap et => ⟨n, v, List.mem_cons_self, t1, hal, hnot⟩) (fun u hu => ?_) ?_
          · obtain ⟨rfl, rfl⟩ := Prod.mk.inj (Option.some.inj e)
            exact ⟨τ, ht, t3⟩
          · rcases List.mem_cons.1 hu with rfl | hu
            · exact hal
            · exact H.mem u hu
          · rw [List.map_cons, List.nodup_cons]
            exact ⟨hnot, H.nd⟩
      · cases h
    · cases h
end
end Go.Proofs.YtkdjfakjnkemiaaDoor.Mir
