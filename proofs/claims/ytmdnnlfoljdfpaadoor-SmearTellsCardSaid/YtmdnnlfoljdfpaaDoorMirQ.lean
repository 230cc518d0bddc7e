/- The mirror's operations are right: calls. Nothing here names the program. -/
import Derived.Test.YtmdnnlfoljdfpaaDoorMirF
namespace Go.Proofs.YtmdnnlfoljdfpaaDoor.Mir
open Go Go.RowKit

section
variable {P : Program} {b : Base} {N : Nat} {g : Gh} {fr : Nat → V} {mem : Nat → Option (List C)} {a : Act} {w : World} {d : Delta} {X : Ctx} {o : Oper} {Q : Exit → Act → World → Prop}
theorem over_append (A B : List (Nat × List C)) : over (A ++ B) mem = over A (over B mem) := by
  funext n
  induction A with
  | nil => rfl
  | cons p r ih =>
    obtain ⟨m, cs⟩ := p
    show (bif Nat.beq n m then some cs else over (r ++ B) mem n) = _
    rw [ih]; rfl
theorem over_at {wr : List (Nat × List C)} {m m' : Nat → Option (List C)} {n : Nat} (h : m n = m' n) : over wr m n = over wr m' n := by
  induction wr with
  | nil => exact h
  | cons p r ih => obtain ⟨k, cs⟩ := p; simp only [over]; rw [ih]
theorem alive_spec {n v E sz : Nat} (h : alive mem n v E sz = true) : mem n = some [.tkt true v E sz] := by
  unfold alive at h
  split at h
  · rename_i a v' E' sz' e
    simp only [Bool.and_eq_true] at h
    obtain ⟨⟨⟨rfl, h2⟩, h3⟩, h4⟩ := h
    obtain rfl := Nat.eq_of_beq_eq_true h2
    obtain rfl := Nat.eq_of_beq_eq_true h3
    obtain rfl := Nat.eq_of_beq_eq_true h4
    exact e
  · cases h
theorem nextV_spec {n v : Nat} (h : nextV mem n = some v) : (mem n = none ∨ ∃ al v' E' sz', mem n = some [.tkt al v' E' sz'] ∧ v' < v) ∧ v % 2 = 0 := by
  unfold nextV at h
  split at h
  · rename_i e; exact ⟨.inl e, by have := Option.some.inj h; omega⟩
  · rename_i al v' E sz e; exact ⟨.inr ⟨al, v', E, sz, e, by have := Option.some.inj h; omega⟩, by have := Option.some.inj h; omega⟩
  · cases h
theorem nextO_spec {n v : Nat} (h : nextO mem n = some v) : (mem n = none ∨ ∃ al v' E' sz', mem n = some [.tkt al v' E' sz'] ∧ v' < v) := by
  unfold nextO at h
  split at h
  · rename_i e; exact .inl e
  · rename_i al v' E sz e; exact .inr ⟨al, v', E, sz, e, by have := Option.some.inj h; omega⟩
  · cases h
theorem Con.odd (hc : Con b N g fr mem a w) {n v E sz : Nat} {al : Bool} (hm : mem n = some [.tkt al v E sz]) : n % 2 = 1 := by
  rcases Nat.mod_two_eq_zero_or_one n with e | e
  · obtain ⟨β, vs, ty, _, _, hr, _⟩ := hc.blk n _ e hm
    obtain ⟨x, r, _, h2, _⟩ := hr
    exact h2.elim
  · exact e
theorem Con.aliveAt (hc : Con b N g fr mem a w) {n v E sz : Nat} (hm : mem n = some [.tkt true v E sz]) : ∃ τ, g.th n v = some τ ∧ ∀ β e cap, τ = .own β e cap → OwnAt g b w β e cap E sz := by
  obtain ⟨al, v', E', sz', k1, k2⟩ := hc.tkt n _ (hc.odd hm) hm
  injection k1 with k1
  injection k1 with k0 k1 k3 k4
  subst k0; subst k1; subst k3; subst k4
  exact k2 rfl
theorem OwnAt.same {g' : Gh} {β e cap E sz : Nat} (hK : g'.K = g.K) (hj : g'.j = g.j) (O : OwnAt g b w β e cap E sz) : OwnAt g' b w β e cap E sz :=
  ⟨⟨O.row, O.room, O.most, by rw [hK]; exact O.dark, by rw [hj]; exact O.mine⟩, O.new⟩
def killL (us : List (Nat × Nat × Nat × Nat)) : List (Nat × List C) := us.map fun u => (u.1, [C.tkt false u.2.1 u.2.2.1 u.2.2.2])
theorem killL_none {us : List (Nat × Nat × Nat × Nat)} {n : Nat} (h : n ∉ us.map (·.1)) : over (killL us) mem n = mem n :=
  over_none fun p hp e => h (by
    obtain ⟨u, h1, rfl⟩ := List.mem_map.1 hp
    subst e
    exact List.mem_map.2 ⟨u, h1, rfl⟩)
theorem killL_some : ∀ {us : List (Nat × Nat × Nat × Nat)} {n : Nat}, n ∈ us.map (·.1) → ∃ v E sz, over (killL us) mem n = some [.tkt false v E sz]
  | [], _, h => by cases h
  | u :: us, n, h => by
    by_cases e : n = u.1
    · subst e; exact ⟨u.2.1, u.2.2.1, u.2.2.2, by simp [killL, over]⟩
    · have hb : Nat.beq n u.1 = false := by cases hb : Nat.beq n u.1 with | false => rfl | true => exact absurd (Nat.eq_of_beq_eq_true hb) e
      rw [List.map_cons, List.mem_cons] at h
      obtain ⟨v, E, sz, k⟩ := killL_some (us := us) (h.resolve_left e)
      exact ⟨v, E, sz, by
        show (bif Nat.beq n u.1 then _ else over (killL us) mem n) = _
        rw [hb]; exact k⟩
theorem kills (h : Con b N g fr mem a w) : ∀ {us : List (Nat × Nat × Nat × Nat)}, (∀ u ∈ us, mem u.1 = some [.tkt true u.2.1 u.2.2.1 u.2.2.2]) → (us.map (·.1)).Nodup → Con b N g fr (over (killL us) mem) a w
  | [], _, _ => h
  | u :: us, hm, hd => by
    rw [List.map_cons, List.nodup_cons] at hd
    have ih := kills h (us := us) (fun u' hu => hm u' (List.mem_cons_of_mem _ hu)) hd.2
    have hu := hm u List.mem_cons_self
    have e : over (killL us) mem u.1 = some [.tkt true u.2.1 u.2.2.1 u.2.2.2] := by rw [killL_none hd.1]; exact hu
    exact ih.kill e (h.odd hu)
theorem tkWr_cases : ∀ {tl q : List (Nat × Nat)} (m : Nat), tl.length = q.length →
    (∃ (i : Nat) (v E sz : Nat), tl[i]? = some (m, v) ∧ q[i]? = some (E, sz) ∧ over (tkWr tl q) mem m = some [.tkt true v E sz]) ∨ (m ∉ tl.map (·.1) ∧ over (tkWr tl q) mem m = mem m)
  | [], [], m, _ => .inr ⟨by simp, rfl⟩
  | (n, v) :: tl, (E, sz) :: q, m, hl => by
    by_cases e : m = n
    · subst e; exact .inl ⟨0, v, E, sz, rfl, rfl, by simp [tkWr, over]⟩
    · have hb : Nat.beq m n = false := by cases hb : Nat.beq m n with | false => rfl | true => exact absurd (Nat.eq_of_beq_eq_true hb) e
      have eo : over (tkWr ((n, v) :: tl) ((E, sz) :: q)) mem m = over (tkWr tl q) mem m := by
        show (bif Nat.beq m n then _ else over (tkWr tl q) mem m) = _
        rw [hb]; rfl
      rcases tkWr_cases m (show tl.length = q.length by simpa using hl) with ⟨i, v', E', sz', h1, h2, h3⟩ | ⟨h1, h2⟩
      · exact .inl ⟨i + 1, v', E', sz', by simpa using h1, by simpa using h2, eo.trans h3⟩
      · exact .inr ⟨by simp [e] at h1 ⊢; exact h1, eo.trans h2⟩
theorem tickets : ∀ {tl q : List (Nat × Nat)} {g : Gh} {τ : Nat → Tk}, Con b N g fr mem a w → tl.length = q.length → (tl.map (·.1)).Nodup →
    (∀ p ∈ tl, p.1 % 2 = 1 ∧ ((mem p.1 = none ∨ ∃ al v' E' sz', mem p.1 = some [.tkt al v' E' sz'] ∧ v' < p.2) ∧ p.2 % 2 = 0)) →
    (∀ i E sz, q[i]? = some (E, sz) → ∀ β e cap, τ i = .own β e cap → OwnAt g b w β e cap E sz) →
    (∀ i k β e e' cap cap', i < tl.length → k < tl.length → τ i = .own β e cap → τ k = .own β e' cap' → i = k) →
    (∀ i β e cap, i < tl.length → τ i = .own β e cap → ∀ m v E sz e' cap', mem m = some [.tkt true v E sz] → g.th m v ≠ some (.own β e' cap')) →
    ∃ g', g.le g' ∧ g'.j = g.j ∧ g'.K = g.K ∧ (∀ i n v, tl[i]? = some (n, v) → g'.th n v = some (τ i)) ∧ Con b N g' fr (over (tkWr tl q) mem) a w
  | [], [], g, τ, h, _, _, _, _, _, _ => ⟨g, Gh.le.refl g, rfl, rfl, fun i n v e => by simp at e, h⟩
  | (n, v) :: tl, (E, sz) :: q, g, τ, h, hl, hd, hn, hO, hi, hf => by
    rw [List.map_cons, List.nodup_cons] at hd
    obtain ⟨g1, k1, k2, k3, k4, k5⟩ := tickets (g := g) (τ := fun i => τ (i + 1)) h (by simpa using hl) hd.2 (fun p hp => hn p (List.mem_cons_of_mem _ hp))
      (fun i E sz e => hO (i + 1) E sz (by simpa using e)) (fun i k β e e' cap cap' h1 h2 e1 e2 => by have := hi (i + 1) (k + 1) β e e' cap cap' (by simp; omega) (by simp; omega) e1 e2; omega)
      (fun i β e cap h1 e1 => hf (i + 1) β e cap (by simp; omega) e1)
    obtain ⟨hodd, hnn⟩ := hn (n, v) List.mem_cons_self
    have e0 : over (tkWr tl q) mem n = mem n := by
      rcases tkWr_cases (mem := mem) n (show tl.length = q.length by simpa using hl) with ⟨i, v', E', sz', h1, _⟩ | ⟨_, h2⟩
      · exact absurd (List.mem_map.2 ⟨(n, v'), List.mem_of_getElem? h1, rfl⟩) hd.1
      · exact h2
    obtain ⟨g2, q1, q2, q3, q4, q5⟩ := k5.ticket (n := n) (v := v) (E := E) (sz := sz) (τ := τ 0) hodd (by rw [e0]; exact hnn.1) (fun h => by have := hnn.2; simp only at this; omega) (fun β e cap et => (hO 0 E sz rfl β e cap et).same k3 k2)
      (fun β e cap et m v' E' sz' e' cap' hmn hm ht => by
        rcases tkWr_cases (mem := mem) m (show tl.length = q.length by simpa using hl) with ⟨i, v2, E2, sz2, h1, h2, h3⟩ | ⟨h1, h2⟩
        · rw [h3] at hm
          injection hm with hm
          injection hm with hm _
          injection hm with _ hm _ _
          subst hm
          rw [k4 i m v2 h1] at ht
          have hil : i < tl.length := (List.getElem?_eq_some_iff.1 h1).1
          have := hi 0 (i + 1) β e e' cap cap' (by simp) (by simp; omega) et (Option.some.inj ht)
          omega
        · rw [h2] at hm
          obtain ⟨τ', t1, _⟩ := h.aliveAt hm
          have := k1.th _ _ _ t1
          rw [this] at ht
          exact hf 0 β e cap (by simp) et m v' E' sz' e' cap' hm (t1.trans ht))
    refine ⟨g2, k1.trans q1, q2.trans k2, q3.trans k3, fun i n' v' e => ?_, q5⟩
    cases i with
    | zero => simp at e; obtain ⟨rfl, rfl⟩ := e; exact q4
    | succ i => exact q1.th _ _ _ (k4 i n' v' (by simpa using e))
theorem callTks_spec {dd : Nat} : ∀ {q tl : List (Nat × Nat)} {i : Nat}, callTks mem dd i q = some tl → tl.length = q.length ∧ ∀ (k n v : Nat), tl[k]? = some (n, v) → n = tkN dd (i + k) ∧ nextV mem n = some v
  | [], tl, i, h => by
    obtain rfl := (Option.some.inj h).symm
    exact ⟨rfl, fun k n v e => by simp at e⟩
  | _ :: q, tl, i, h => by
    unfold callTks at h
    split at h
    · rename_i v l e1 e2
      obtain rfl := (Option.some.inj h).symm
      obtain ⟨k1, k2⟩ := callTks_spec e2
      refine ⟨by simp [k1], fun k n v' e => ?_⟩
      cases k with
      | zero => simp at e; obtain ⟨rfl, rfl⟩ := e; exact ⟨rfl, e1⟩
      | succ k =>
        obtain ⟨q1, q2⟩ := k2 k n v' (by simpa using e)
        exact ⟨by rw [q1]; unfold tkN; omega, q2⟩
    · cases h
theorem disjN_spec : ∀ {A B : List Nat}, disjN A B = true → ∀ n ∈ A, n ∉ B
  | [], _, _, n, hn => by cases hn
  | m :: A, B, h, n, hn => by
    simp only [disjN, Bool.and_eq_true, Bool.not_eq_true'] at h
    rcases List.mem_cons.1 hn with rfl | hn
    · intro hb; rw [hasN_iff.2 hb] at h; cases h.1
    · exact disjN_spec h.2 n hn
/-- What is known of the tickets that are handed over: 'q' says which, the first one is number p. -/
structure TkInv (g : Gh) (mem : Nat → Option (List C)) (p : Nat) (q : List (Nat × Nat × List Sh)) (us : List (Nat × Nat × Nat × Nat)) (thc : Nat → Nat → Option Tk) : Prop where
  own : ∀ n v τ, thc n v = some τ → v = 0 ∧ ∃ (k E sz : Nat) (l : List Sh), q[k]? = some (E, sz, l) ∧ n = 2 * (p + k) + 1 ∧ ∀ β e cap, τ = .own β e cap → ∃ m v', (m, v', E, sz) ∈ us ∧ g.th m v' = some τ
  tot : ∀ (k E sz : Nat) (l : List Sh), q[k]? = some (E, sz, l) → ∃ τ, thc (2 * (p + k) + 1) 0 = some τ
  inj : ∀ n m β e e' cap cap', thc n 0 = some (.own β e cap) → thc m 0 = some (.own β e' cap') → n = m
  mem : ∀ u ∈ us, mem u.1 = some [.tkt true u.2.1 u.2.2.1 u.2.2.2]
  nd : (us.map (·.1)).Nodup
theorem TkInv.nil {p : Nat} : TkInv g mem p [] [] (fun _ _ => none) := ⟨fun _ _ _ e => (by cases e), fun k _ _ _ e => (by simp at e), fun _ _ _ _ _ _ _ e => (by cases e), fun _ e => (by cases e), List.nodup_nil⟩
theorem TkInv.cons (hc : Con b N g fr mem a w) {p : Nat} {q : List (Nat × Nat × List Sh)} {us us2 : List (Nat × Nat × Nat × Nat)} {thc : Nat → Nat → Option Tk} (H : TkInv g mem (p + 1) q us thc) {t : Nat × Nat × List Sh} {c c' : C} {x : Value}
    (h : tkOne mem p t us c = some (c', us2)) (hx : RepC g c x) : ∃ thc', TkInv g mem p (t :: q) us2 thc' ∧ (∀ n v τ, thc n v = some τ → thc' n v = some τ) ∧ ∀ gc : Gh, gc.K = g.K → (∀ n v τ, thc' n v = some τ → gc.th n v = some τ) → RepC gc c' x := by
  obtain ⟨E, sz, l⟩ := t
  have odd' : ∀ n v τ, thc n v = some τ → n ≠ 2 * p + 1 := fun n v τ e => by
    obtain ⟨_, k, _, _, _, _, k2, _⟩ := H.own n v τ e
    omega
  have key : ∀ (τ0 : Tk), (∀ gc : Gh, gc.K = g.K → gc.th (2 * p + 1) 0 = some τ0 → RepC gc c' x) → (∀ u ∈ us, u ∈ us2) →
      (∀ β e cap, τ0 = .own β e cap → ∃ m v', (m, v', E, sz) ∈ us2 ∧ g.th m v' = some τ0 ∧ mem m = some [.tkt true v' E sz] ∧ m ∉ us.map (·.1)) →
      (∀ u ∈ us2, mem u.1 = some [.tkt true u.2.1 u.2.2.1 u.2.2.2]) → (us2.map (·.1)).Nodup →
      ∃ thc', TkInv g mem p ((E, sz, l) :: q) us2 thc' ∧ (∀ n v τ, thc n v = some τ → thc' n v = some τ) ∧ ∀ gc : Gh, gc.K = g.K → (∀ n v τ, thc' n v = some τ → gc.th n v = some τ) → RepC gc c' x := by
    intro τ0 hc1 hsub hown hmem hnd
    have hfree : ∀ m β e e' cap cap', τ0 = .own β e cap → thc m 0 = some (.own β e' cap') → False := fun m β e e' cap cap' e1 e2 => by
      obtain ⟨m1, v1, _, z2, z3, z4⟩ := hown β e cap e1
      obtain ⟨_, k, E2, sz2, _, _, _, k4⟩ := H.own m 0 _ e2
      obtain ⟨m2, v2, k1, k2⟩ := k4 β e' cap' rfl
      rw [e1] at z2
      have := hc.tinj m1 m2 v1 v2 _ _ _ _ β e e' cap cap' z3 (H.mem _ k1) z2 k2
      subst this
      exact z4 (List.mem_map.2 ⟨_, k1, rfl⟩)
    have th0 : ∀ n v, n ≠ 2 * p + 1 → (if n = 2 * p + 1 ∧ v = 0 then some τ0 else thc n v) = thc n v := fun n v hne => if_neg (fun e => hne e.1)
    have hsubt : ∀ n v τ, thc n v = some τ → (if n = 2 * p + 1 ∧ v = 0 then some τ0 else thc n v) = some τ := fun n v τ e => (th0 n v (odd' n v τ e)).trans e
    refine ⟨fun n v => if n = 2 * p + 1 ∧ v = 0 then some τ0 else thc n v, ⟨fun n v τ e => ?_, fun k E' sz' l' e => ?_, fun n m β e e' cap cap' e1 e2 => ?_, hmem, hnd⟩, hsubt, fun gc hK ht => hc1 gc hK (ht (2 * p + 1) 0 τ0 (if_pos ⟨rfl, rfl⟩))⟩
    · by_cases en : n = 2 * p + 1 ∧ v = 0
      · rw [if_pos en] at e
        obtain rfl := Option.some.inj e
        refine ⟨en.2, 0, E, sz, l, rfl, by omega, fun β e cap et => ?_⟩
        obtain ⟨m, v', z1, z2, _⟩ := hown β e cap et
        exact ⟨m, v', z1, z2⟩
      · rw [if_neg en] at e
        obtain ⟨k1, k, E', sz', l', k2, k3, k4⟩ := H.own n v τ e
        refine ⟨k1, k + 1, E', sz', l', by simpa using k2, by omega, fun β e cap et => ?_⟩
        obtain ⟨m, v', z1, z2⟩ := k4 β e cap et
        exact ⟨m, v', hsub _ z1, z2⟩
    · cases k with
      | zero => exact ⟨τ0, if_pos ⟨by omega, rfl⟩⟩
      | succ k =>
        obtain ⟨τ, k1⟩ := H.tot k E' sz' l' (by simpa using e)
        refine ⟨τ, ?_⟩
        have e2 : 2 * (p + (k + 1)) + 1 = 2 * (p + 1 + k) + 1 := by omega
        show (if 2 * (p + (k + 1)) + 1 = 2 * p + 1 ∧ (0 : Nat) = 0 then some τ0 else thc (2 * (p + (k + 1)) + 1) 0) = _
        rw [if_neg (by omega), e2]; exact k1
    · by_cases en : n = 2 * p + 1 <;> by_cases em : m = 2 * p + 1
      · rw [en, em]
      · rw [if_pos ⟨en, rfl⟩] at e1
        rw [if_neg (fun e => em e.1)] at e2
        exact (hfree m β e e' cap cap' (Option.some.inj e1) e2).elim
      · rw [if_pos ⟨em, rfl⟩] at e2
        rw [if_neg (fun e => en e.1)] at e1
        exact (hfree n β e' e cap' cap (Option.some.inj e2) e1).elim
      · rw [if_neg (fun e => en e.1)] at e1
        rw [if_neg (fun e => em e.1)] at e2
        exact H.inj n m β e e' cap cap' e1 e2
  unfold tkOne at h
  split at h
  · simp only [Option.some.injEq, Prod.mk.injEq] at h
    obtain ⟨rfl, rfl⟩ := h
    obtain rfl : x = _ := hx
    refine key .none (fun gc hK ht => ⟨.inl ⟨rfl, none, 0, rfl⟩, fun n v e => ?_⟩) (fun _ h => h) (fun _ _ _ e => by cases e) H.mem H.nd
    obtain ⟨rfl, rfl⟩ := Prod.mk.inj (Option.some.inj e)
    exact ⟨_, ht, rfl, rfl⟩
  · rename_i n v l' ys
    cases hb : (alive mem n v E sz && !hasN n (us.map (·.1))) with
    | false => simp only [hb, cond_false] at h; cases h
    | true =>
      simp only [hb, cond_true, Option.some.injEq, Prod.mk.injEq] at h
      obtain ⟨rfl, rfl⟩ := h
      simp only [Bool.and_eq_true, Bool.not_eq_true'] at hb
      have hal := alive_spec hb.1
      have hnot : n ∉ us.map (·.1) := fun h => by rw [hasN_iff.2 h] at hb; cases hb.2
      obtain ⟨τ, t1, _⟩ := hc.aliveAt hal
      obtain ⟨τ2, t2, t3⟩ := hx.2 n v rfl
      obtain rfl := Option.some.inj (t1.symm.trans t2)
      refine key τ (fun gc hK ht => ⟨hx.1.mono (fun _ _ _ e => by rw [hK]; exact e) (fun x us => RepSL.mono (fun _ _ _ e => by rw [hK]; exact e)), fun n2 v2 e => ?_⟩) (fun _ h => List.mem_cons_of_mem _ h) (fun β e cap et => ⟨n, v, List.mem_cons_self, t1, hal, hnot⟩) (fun u hu => ?_) ?_
      · obtain ⟨rfl, rfl⟩ := Prod.mk.inj (Option.some.inj e)
        exact ⟨τ, ht, t3⟩
      · rcases List.mem_cons.1 hu with rfl | hu
        · exact hal
        · exact H.mem u hu
      · rw [List.map_cons, List.nodup_cons]
        exact ⟨hnot, H.nd⟩
  · cases h
theorem tkC_spec (hc : Con b N g fr mem a w) {f : Nat → Nat} : ∀ {cs cs' : List C} {xs : List Value} {p : Nat} {ts : Tks} {q : List (Nat × Nat × List Sh)} {us us2 : List (Nat × Nat × Nat × Nat)} {thc : Nat → Nat → Option Tk},
    tkC mem f p ts cs us = some (cs', us2) → TkInv g mem (p + cntT ts) q us thc → RepL g cs xs →
    ∃ thc', TkInv g mem p (specs ts ++ q) us2 thc' ∧ (∀ n v τ, thc n v = some τ → thc' n v = some τ) ∧ ∀ gc : Gh, gc.K = g.K → (∀ n ∈ nameL cs, ∀ β, g.j n = some β → gc.j (f n) = some β) → (∀ n v τ, thc' n v = some τ → gc.th n v = some τ) → RepL gc cs' xs
  | [], cs', xs, p, [], q, us, us2, thc, h, H, hx => by
    simp only [tkC, Option.some.injEq, Prod.mk.injEq] at h
    obtain ⟨rfl, rfl⟩ := h
    exact ⟨thc, H, fun _ _ _ e => e, fun gc _ _ _ => hx⟩
  | [], _, _, _, _ :: _, _, _, _, _, h, _, _ => by simp [tkC] at h
  | c :: cs, cs', xs, p, [], q, us, us2, thc, h, H, hx => by
    simp only [tkC] at h
    split at h
    · rename_i r us' e
      simp only [Option.some.injEq, Prod.mk.injEq] at h
      obtain ⟨rfl, rfl⟩ := h
      obtain ⟨ys, z, rfl, _, h2, h3⟩ := hx.cons
      obtain ⟨thc', k1, k2, k3⟩ := tkC_spec hc e H h3
      refine ⟨thc', k1, k2, fun gc hK hj ht => RepL.mk ?_ (k3 gc hK (fun n hn => hj n (by simp [nameL, hn])) ht)⟩
      have := ren_repL (g1 := g) (g2 := gc) (cs := [c]) (f := f) (fun _ _ _ e => by rw [hK]; exact e) noTk_ok (fun n hn => hj n (by simp [nameL] at hn ⊢; exact .inl hn)) h2
      exact this
    · cases h
  | c :: cs, cs', xs, p, none :: ts, q, us, us2, thc, h, H, hx => by
    simp only [tkC] at h
    split at h
    · rename_i r us' e
      simp only [Option.some.injEq, Prod.mk.injEq] at h
      obtain ⟨rfl, rfl⟩ := h
      obtain ⟨ys, z, rfl, _, h2, h3⟩ := hx.cons
      obtain ⟨thc', k1, k2, k3⟩ := tkC_spec hc e H h3
      refine ⟨thc', k1, k2, fun gc hK hj ht => RepL.mk ?_ (k3 gc hK (fun n hn => hj n (by simp [nameL, hn])) ht)⟩
      have := ren_repL (g1 := g) (g2 := gc) (cs := [c]) (f := f) (fun _ _ _ e => by rw [hK]; exact e) noTk_ok (fun n hn => hj n (by simp [nameL] at hn ⊢; exact .inl hn)) h2
      exact this
    · cases h
  | c :: cs, cs', xs, p, some t :: ts, q, us, us2, thc, h, H, hx => by
    simp only [tkC] at h
    split at h
    · rename_i r us' e
      split at h
      · rename_i c' us'' e2
        simp only [Option.some.injEq, Prod.mk.injEq] at h
        obtain ⟨rfl, rfl⟩ := h
        obtain ⟨ys, z, rfl, _, h2, h3⟩ := hx.cons
        obtain ⟨thc1, k1, k2, k3⟩ := tkC_spec hc e (by have e3 : p + 1 + cntT ts = p + cntT (some t :: ts) := by (simp only [cntT]; omega)
                                                       rw [e3]; exact H) h3
        have ha : isArr c = false := by
          cases c <;> first
            | rfl
            | simp [tkOne] at e2
        obtain ⟨y, rfl, hy⟩ := repl_one ha h2
        obtain ⟨thc2, m1, m2, m3⟩ := TkInv.cons hc k1 e2 hy
        exact ⟨thc2, m1, fun n v τ e => m2 _ _ _ (k2 _ _ _ e), fun gc hK hj ht => RepL.mk (one_repl (m3 gc hK ht)) (k3 gc hK (fun n hn => hj n (by simp [nameL, hn])) (fun n v τ e => ht _ _ _ (m2 _ _ _ e)))⟩
      · cases h
    · cases h
theorem cellsA_rep {y : A} {x : Value} (h : RepA g y x) : ∃ vs : List Value, RepL g (cellsA y) vs ∧ ∀ (gc : Gh) (cs' : List C) (y' : A), reA y cs' = some y' → RepL gc cs' vs → RepA gc y' x := by
  cases y with
  | one c =>
    refine ⟨[x], one_repl h, fun gc cs' y' e h1 => ?_⟩
    unfold reA at e
    split at e
    · rename_i d _
      cases ha : isArr d with
      | true => rw [ha] at e; cases e
      | false =>
        rw [ha] at e
        obtain rfl := (Option.some.inj e).symm
        obtain ⟨z, e2, hz⟩ := repl_one ha h1
        obtain rfl := (List.cons.inj e2).1
        exact hz
    · cases e
    · rename_i e3; cases e3
  | agg cs =>
    obtain ⟨vs, rfl, h2⟩ := h
    refine ⟨vs, h2, fun gc cs' y' e h1 => ?_⟩
    obtain rfl := (Option.some.inj e).symm
    exact ⟨vs, rfl, h1⟩
theorem nameA_cells (y : A) : nameL (cellsA y) = nameA y := by cases y <;> simp [cellsA, nameA, nameL]
theorem tkAs_spec (hc : Con b N g fr mem a w) {f : Nat → Nat} : ∀ {as as' : List A} {xs : List Value} {p : Nat} {tss : List Tks} {us : List (Nat × Nat × Nat × Nat)}, tkAs mem f p tss as = some (as', us) → RepAs g as xs →
    ∃ thc, TkInv g mem p (specsL tss) us thc ∧ ∀ gc : Gh, gc.K = g.K → (∀ n ∈ nameAs as, ∀ β, g.j n = some β → gc.j (f n) = some β) → (∀ n v τ, thc n v = some τ → gc.th n v = some τ) → RepAs gc as' xs
  | [], as', xs, p, [], us, h, hx => by
    simp only [tkAs, Option.some.injEq, Prod.mk.injEq] at h
    obtain ⟨rfl, rfl⟩ := h
    exact ⟨fun _ _ => none, TkInv.nil, fun _ _ _ _ => hx⟩
  | [], _, _, _, _ :: _, _, h, _ => by simp [tkAs] at h
  | y :: as, as', xs, p, [], us, h, hx => by
    obtain ⟨x, r, rfl, h1, h2⟩ := hx
    simp only [tkAs] at h
    split at h
    · rename_i r' us' e
      simp only [Option.some.injEq, Prod.mk.injEq] at h
      obtain ⟨rfl, rfl⟩ := h
      obtain ⟨thc, k1, k2⟩ := tkAs_spec hc e h2
      exact ⟨thc, k1, fun gc hK hj ht => ⟨x, r, rfl, ren_repA (g1 := g) (fun _ _ _ e => by rw [hK]; exact e) noTk_ok (fun n hn => hj n (List.mem_append_left _ hn)) h1, k2 gc hK (fun n hn => hj n (List.mem_append_right _ hn)) ht⟩⟩
    · cases h
  | y :: as, as', xs, p, ts :: tss, us, h, hx => by
    obtain ⟨x, r, rfl, h1, h2⟩ := hx
    simp only [tkAs] at h
    split at h
    · rename_i r' us' e
      split at h
      · rename_i cs' us'' e2
        split at h
        · rename_i y' e3
          simp only [Option.some.injEq, Prod.mk.injEq] at h
          obtain ⟨rfl, rfl⟩ := h
          obtain ⟨thc, k1, k2⟩ := tkAs_spec hc e h2
          obtain ⟨vs, m1, m2⟩ := cellsA_rep h1
          obtain ⟨thc', n1, n2, n3⟩ := tkC_spec hc e2 k1 m1
          exact ⟨thc', n1, fun gc hK hj ht => ⟨x, r, rfl, m2 gc _ _ e3 (n3 gc hK (fun n hn => hj n (List.mem_append_left _ (by rw [nameA_cells] at hn; exact hn))) ht), k2 gc hK (fun n hn => hj n (List.mem_append_right _ hn)) (fun n v τ e => ht _ _ _ (n2 _ _ _ e))⟩⟩
        · cases h
      · cases h
    · cases h
theorem tkC_len {f : Nat → Nat} : ∀ {cs cs' : List C} {p : Nat} {ts : Tks} {us us2 : List (Nat × Nat × Nat × Nat)}, tkC mem f p ts cs us = some (cs', us2) → cs'.length = cs.length
  | [], cs', p, [], us, us2, h => by
    simp only [tkC, Option.some.injEq, Prod.mk.injEq] at h
    rw [← h.1]
  | [], _, _, _ :: _, _, _, h => by simp [tkC] at h
  | c :: cs, cs', p, [], us, us2, h => by
    simp only [tkC] at h
    split at h
    · rename_i e
      simp only [Option.some.injEq, Prod.mk.injEq] at h
      rw [← h.1, List.length_cons, tkC_len e, List.length_cons]
    · cases h
  | c :: cs, cs', p, none :: ts, us, us2, h => by
    simp only [tkC] at h
    split at h
    · rename_i e
      simp only [Option.some.injEq, Prod.mk.injEq] at h
      rw [← h.1, List.length_cons, tkC_len e, List.length_cons]
    · cases h
  | c :: cs, cs', p, some t :: ts, us, us2, h => by
    simp only [tkC] at h
    split at h
    · rename_i e
      split at h
      · simp only [Option.some.injEq, Prod.mk.injEq] at h
        rw [← h.1, List.length_cons, tkC_len e, List.length_cons]
      · cases h
    · cases h
theorem reA_agg {cs cs' : List C} {a' : A} (h : reA (.agg cs) cs' = some a') : a' = .agg cs' := by simpa [reA] using h.symm
theorem tkAs_get {f : Nat → Nat} : ∀ {as as' : List A} {p : Nat} {tss : List Tks} {us : List (Nat × Nat × Nat × Nat)}, tkAs mem f p tss as = some (as', us) →
    as'.length = as.length ∧ ∀ (i : Nat) (cs : List C), as[i]? = some (.agg cs) → ∃ cs', as'[i]? = some (.agg cs')
  | [], as', p, [], us, h => by
    simp only [tkAs, Option.some.injEq, Prod.mk.injEq] at h
    obtain ⟨rfl, rfl⟩ := h
    exact ⟨rfl, fun i cs e => by simp at e⟩
  | [], _, _, _ :: _, _, h => by simp [tkAs] at h
  | y :: as, as', p, [], us, h => by
    simp only [tkAs] at h
    split at h
    · rename_i r us' e
      simp only [Option.some.injEq, Prod.mk.injEq] at h
      obtain ⟨rfl, rfl⟩ := h
      obtain ⟨h1, h2⟩ := tkAs_get e
      refine ⟨by simp [h1], fun i cs e => ?_⟩
      cases i with
      | zero => simp at e; subst e; exact ⟨_, rfl⟩
      | succ i => simpa using h2 i cs (by simpa using e)
    · cases h
  | y :: as, as', p, ts :: tss, us, h => by
    simp only [tkAs] at h
    split at h
    · rename_i r us' e
      obtain ⟨h1, h2⟩ := tkAs_get e
      split at h
      · rename_i cs us'' e2
        split at h
        · rename_i y' e3
          simp only [Option.some.injEq, Prod.mk.injEq] at h
          obtain ⟨rfl, rfl⟩ := h
          refine ⟨by simp [h1], fun i cs0 e => ?_⟩
          cases i with
          | zero => simp at e; subst e; exact ⟨cs, by rw [reA_agg e3]; rfl⟩
          | succ i => simpa using h2 i cs0 (by simpa using e)
        · cases h
      · cases h
    · cases h
/-- Other cells for the same values. -/
theorem Con.relabel (h : Con b N g fr mem a w) {mem' : Nat → Option (List C)} (ho : ∀ n, n % 2 = 1 → mem' n = mem n)
    (hr : ∀ n, n % 2 = 0 → (mem n = none ∧ mem' n = none) ∨ ∃ cs cs', mem n = some cs ∧ mem' n = some cs' ∧ ∀ β vs ty, g.j n = some β → w.heap[β]? = some (.cells vs ty (0, 0)) → RepL g cs vs.toList → RepL g cs' vs.toList) : Con b N g fr mem' a w := by
  refine { h with blk := fun n cs e2 e => ?_, dom := fun n e => ?_, tkt := fun n cs e1 e => h.tkt n cs e1 (by rw [← ho n e1]; exact e), tdom := fun n v τ e => ?_, tinj := fun n m v v' E E' sz sz' β e e' cap cap' q1 q2 q3 q4 => ?_ }
  · rcases hr n e2 with ⟨_, k2⟩ | ⟨cs0, cs', k1, k2, k3⟩
    · rw [k2] at e; cases e
    · rw [k2] at e
      obtain rfl := Option.some.inj e
      obtain ⟨β, vs, ty, q1, q2, q3, q4⟩ := h.blk n cs0 e2 k1
      exact ⟨β, vs, ty, q1, q2, k3 β vs ty q1 q2 q3, q4⟩
  · rcases Nat.mod_two_eq_zero_or_one n with e2 | e2
    · rcases e with e | e
      · rcases hr n e2 with ⟨k1, _⟩ | ⟨_, _, _, k2, _⟩
        · exact h.dom n (.inl k1)
        · rw [k2] at e; cases e
      · omega
    · exact h.dom n (.inr e2)
  · obtain ⟨k1, al, v', E, sz, k2, k3⟩ := h.tdom n v τ e
    exact ⟨k1, al, v', E, sz, by rw [ho n k1]; exact k2, k3⟩
  · rw [ho n (h.tdom _ _ _ q3).1] at q1
    rw [ho m (h.tdom _ _ _ q4).1] at q2
    exact h.tinj n m v v' E E' sz sz' β e e' cap cap' q1 q2 q3 q4
theorem RepAs.append {g : Gh} : ∀ {as bs : List A} {xs ys : List Value}, RepAs g as xs → RepAs g bs ys → RepAs g (as ++ bs) (xs ++ ys)
  | [], _, _, _, h, h' => by have h : _ = [] := h; subst h; exact h'
  | _ :: _, _, _, _, ⟨x, r, h1, h2, h3⟩, h' => ⟨x, r ++ _, by rw [h1]; rfl, h2, h3.append h'⟩
theorem RepAs.take {g : Gh} : ∀ {as : List A} {xs ys : List Value} {n : Nat}, RepAs g as (xs ++ ys) → xs.length = n → RepAs g (as.take n) xs ∧ RepAs g (as.drop n) ys
  | as, [], ys, n, h, e => by obtain rfl : n = 0 := by simpa using e.symm
                              exact ⟨rfl, h⟩
  | [], x :: xs, ys, n, h, e => by have h : _ = [] := h; simp at h
  | a :: as, x :: xs, ys, n, ⟨x', r, h1, h2, h3⟩, e => by
    obtain ⟨rfl, rfl⟩ := List.cons.inj h1
    cases n with
    | zero => simp at e
    | succ n =>
      obtain ⟨k1, k2⟩ := RepAs.take h3 (by simpa using e)
      exact ⟨⟨x, _, rfl, h2, k1⟩, k2⟩
theorem RepAs.length : ∀ {as : List A} {vs : List Value} {g : Gh}, RepAs g as vs → as.length = vs.length
  | [], vs, g, h => by have h : vs = [] := h; simp [h]
  | _ :: _, _, _, ⟨_, _, h1, _, h3⟩ => by subst h1; simp [h3.length]
/-- The blocks' values. -/
theorem blksOf_vals (hc : Con b N g fr mem a w) : ∀ {ns : List Nat} {bs : List A}, blksOf mem ns = some bs → (∀ n ∈ ns, n % 2 = 0) →
    ∃ ys : List Value, RepAs g bs ys ∧ ∀ i n : Nat, ns[i]? = some n → ∃ β vs ty, g.j n = some β ∧ w.heap[β]? = some (.cells vs ty (0, 0)) ∧ ys[i]? = some (.agg vs) ∧ ∀ o, g.K β o = none
  | [], bs, h, _ => by
    obtain rfl := (Option.some.inj h).symm
    exact ⟨[], rfl, fun i n e => by simp at e⟩
  | n :: ns, bs, h, he => by
    unfold blksOf at h
    split at h
    · rename_i cs l e1 e2
      split at h
      · obtain rfl := (Option.some.inj h).symm
        obtain ⟨ys, k1, k2⟩ := blksOf_vals hc e2 (fun m hm => he m (by simp [hm]))
        obtain ⟨β, vs, ty, q1, q2, q3, q4, _⟩ := hc.blk n cs (he n (by simp)) e1
        refine ⟨.agg vs :: ys, ⟨_, _, rfl, ⟨vs.toList, by simp, q3⟩, k1⟩, fun i m e => ?_⟩
        cases i with
        | zero => simp at e; subst e; exact ⟨β, vs, ty, q1, q2, rfl, q4⟩
        | succ i => simp at e; simpa using k2 i m e
      · cases h
    · cases h
end
end Go.Proofs.YtmdnnlfoljdfpaaDoor.Mir
