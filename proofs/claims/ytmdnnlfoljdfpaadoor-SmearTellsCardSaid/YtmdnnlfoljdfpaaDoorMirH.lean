/- The mirror's regions: a run in the order of the text, and a run in whatever order. Nothing here names the program. -/
import Derived.Test.YtmdnnlfoljdfpaaDoorMirG
namespace Go.Proofs.YtmdnnlfoljdfpaaDoor.Mir
open Go Go.RowKit

abbrev Ent := Oper × Delta
def StepR (X : Ctx) (N : Nat) (ops : Array Oper) (o : Oper) (fr : Nat → V) (mem : Nat → Option (List C)) (d : Delta) : Prop :=
  (∀ t, o.dst = some t → t < N) ∧ (planG X ops o fr mem).run some = some d
def Seq (X : Ctx) (N : Nat) (ops : Array Oper) : List Ent → (Nat → V) → (Nat → Option (List C)) → Prop
  | [], _, _ => True
  | (o, d) :: r, fr, mem => StepR X N ops o fr mem d ∧ Seq X N ops r (apFr o.dst d.v fr) (over d.wr mem)
def frAll : List Ent → (Nat → V) → Nat → V
  | [], fr => fr
  | (o, d) :: r, fr => frAll r (apFr o.dst d.v fr)
def memAll : List Ent → (Nat → Option (List C)) → Nat → Option (List C)
  | [], mem => mem
  | (_, d) :: r, mem => memAll r (over d.wr mem)
section
variable {P : Program} {b : Base} {N : Nat} {X : Ctx} {Q : Exit → Act → World → Prop} {laid : List (Nat × Nat × Value)} {ops : Array Oper}
theorem seq_ok (hX : CtxOk P laid X) (hl : Laid laid b.K0) : ∀ (es : List Ent) (k : Nat) (g : Gh) (fr : Nat → V) (mem : Nat → Option (List C)) (a : Act) (w : World),
    (∀ (i : Nat) (e : Ent), es[i]? = some e → ops[k + i]? = some e.1) → Seq X N ops es fr mem → Con b N g fr mem a w →
    (∀ g' a' w', Con b N g' (frAll es fr) (memAll es mem) a' w' → Q .normal a' w') → wpOps P ops Q (List.range' k es.length) a w
  | [], k, g, fr, mem, a, w, _, _, hc, hQ => hQ g a w hc
  | (o, d) :: es, k, g, fr, mem, a, w, hi, hs, hc, hQ => by
    rw [List.length_cons, List.range'_succ, wpOps_cons]
    refine wpOp_mono ?_ (planG_ok hX hl hc hs.1.1 (hi 0 _ rfl) hs.1.2)
    rintro a' w' ⟨g', hc'⟩
    exact seq_ok hX hl es (k + 1) g' _ _ a' w' (fun i e h => by rw [Nat.add_assoc, Nat.add_comm 1]; exact hi (i + 1) e h) hs.2 hc' hQ
end

/-! ### some of the operations, in the order of the text -/
def frSel : List Ent → Nat → (Nat → Bool) → (Nat → V) → Nat → V
  | [], _, _, fr => fr
  | (o, d) :: r, k, s, fr => frSel r (k + 1) s (if s k then apFr o.dst d.v fr else fr)
def memSel : List Ent → Nat → (Nat → Bool) → (Nat → Option (List C)) → Nat → Option (List C)
  | [], _, _, mem => mem
  | (_, d) :: r, k, s, mem => memSel r (k + 1) s (if s k then over d.wr mem else mem)
def wrN (d : Delta) : List Nat := d.wr.map (·.1)
theorem apFr_ne {dst : Option Nat} {v : V} {fr : Nat → V} {t : Nat} (h : dst ≠ some t) : apFr dst v fr t = fr t := by
  cases dst with
  | none => rfl
  | some u =>
    simp only [apFr]
    have : Nat.beq t u = false := by cases hb : Nat.beq t u with | false => rfl | true => exact absurd (Nat.eq_of_beq_eq_true hb) (fun e => h (by rw [e]))
    rw [this]; rfl
theorem apFr_eq {v : V} {fr : Nat → V} {t : Nat} : apFr (some t) v fr t = v := by simp [apFr]
theorem over_ne {wr : List (Nat × List C)} {mem : Nat → Option (List C)} {n : Nat} (h : n ∉ wr.map (·.1)) : over wr mem n = mem n :=
  over_none fun _ hp e => h (e ▸ List.mem_map_of_mem hp)
theorem over_in {wr : List (Nat × List C)} {mem mem' : Nat → Option (List C)} {n : Nat} (h : n ∈ wr.map (·.1)) : over wr mem n = over wr mem' n := by
  induction wr with
  | nil => cases h
  | cons p r ih =>
    obtain ⟨m, cs⟩ := p
    unfold over
    cases hb : Nat.beq n m with
    | true => rfl
    | false =>
      simp only [cond_false]
      refine ih ?_
      simp only [List.map_cons, List.mem_cons] at h
      rcases h with rfl | h
      · simp at hb
      · exact h
theorem frSel_same : ∀ (es : List Ent) (k : Nat) (s s' : Nat → Bool) (fr fr' : Nat → V) (t : Nat), fr t = fr' t →
    (∀ (i : Nat) (e : Ent), es[i]? = some e → s (k + i) ≠ s' (k + i) → e.1.dst ≠ some t) → frSel es k s fr t = frSel es k s' fr' t
  | [], _, _, _, _, _, _, h, _ => h
  | (o, d) :: r, k, s, s', fr, fr', t, h, hd => by
    unfold frSel
    refine frSel_same r (k + 1) s s' _ _ t ?_ (fun i e he hne => hd (i + 1) e he (by rwa [show k + (i + 1) = k + 1 + i by omega]))
    by_cases hs : s k = s' k
    · rw [← hs]
      cases s k with
      | false => exact h
      | true =>
        simp only [if_true]
        by_cases e : o.dst = some t
        · rw [e, apFr_eq, apFr_eq]
        · rw [apFr_ne e, apFr_ne e]; exact h
    · have e := hd 0 _ rfl hs
      have l1 : ∀ (c : Bool) (f : Nat → V), (if c then apFr o.dst d.v f else f) t = f t := fun c f => by
        cases c
        · rfl
        · exact apFr_ne e
      rw [l1, l1]; exact h
theorem memSel_same : ∀ (es : List Ent) (k : Nat) (s s' : Nat → Bool) (m m' : Nat → Option (List C)) (n : Nat), m n = m' n →
    (∀ (i : Nat) (e : Ent), es[i]? = some e → s (k + i) ≠ s' (k + i) → n ∉ wrN e.2) → memSel es k s m n = memSel es k s' m' n
  | [], _, _, _, _, _, _, h, _ => h
  | (o, d) :: r, k, s, s', m, m', n, h, hd => by
    unfold memSel
    refine memSel_same r (k + 1) s s' _ _ n ?_ (fun i e he hne => hd (i + 1) e he (by rwa [show k + (i + 1) = k + 1 + i by omega]))
    by_cases hs : s k = s' k
    · rw [← hs]
      cases s k with
      | false => exact h
      | true =>
        simp only [if_true]
        by_cases e : n ∈ d.wr.map (·.1)
        · exact over_in e
        · rw [over_ne e, over_ne e]; exact h
    · have e := hd 0 _ rfl hs
      have l1 : ∀ (c : Bool) (f : Nat → Option (List C)), (if c then over d.wr f else f) n = f n := fun c f => by
        cases c
        · rfl
        · exact over_ne e
      rw [l1, l1]; exact h
theorem frSel_last : ∀ (es : List Ent) (k i : Nat) (s : Nat → Bool) (fr : Nat → V) (t : Nat) (e : Ent), es[i]? = some e → s (k + i) = true → e.1.dst = some t →
    (∀ (j : Nat) (e' : Ent), i < j → es[j]? = some e' → s (k + j) = true → e'.1.dst ≠ some t) → frSel es k s fr t = e.2.v
  | [], _, i, _, _, _, _, h, _, _, _ => by simp at h
  | (o, d) :: r, k, 0, s, fr, t, e, h, hs, hd, hl => by
    simp at h; subst h
    unfold frSel
    simp only [Nat.add_zero] at hs
    rw [hs, if_pos rfl]
    have e1 : o.dst = some t := hd
    rw [frSel_same r (k + 1) s (fun _ => false) _ (apFr o.dst d.v fr) t rfl (fun i e he hne => hl (i + 1) e (by omega) he (by
      rw [show k + (i + 1) = k + 1 + i by omega]; cases hq : s (k + 1 + i) with | true => rfl | false => exact absurd hq hne))]
    have : ∀ (es : List Ent) k (fr : Nat → V), frSel es k (fun _ => false) fr = fr := by
      intro es
      induction es with
      | nil => intro k fr; rfl
      | cons p r ih => intro k fr; exact ih _ _
    rw [this, e1, apFr_eq]
  | (o, d) :: r, k, i + 1, s, fr, t, e, h, hs, hd, hl => by
    unfold frSel
    exact frSel_last r (k + 1) i s _ t e (by simpa using h) (by rwa [show k + 1 + i = k + (i + 1) by omega]) hd (fun j e' hj he hsj => hl (j + 1) e' (by omega) (by simpa using he) (by rwa [show k + (j + 1) = k + 1 + j by omega]))
theorem memSel_last : ∀ (es : List Ent) (k i : Nat) (s : Nat → Bool) (m m' : Nat → Option (List C)) (n : Nat) (e : Ent), es[i]? = some e → s (k + i) = true → n ∈ wrN e.2 →
    (∀ (j : Nat) (e' : Ent), i < j → es[j]? = some e' → s (k + j) = true → n ∉ wrN e'.2) → memSel es k s m n = over e.2.wr m' n
  | [], _, i, _, _, _, _, _, h, _, _, _ => by simp at h
  | (o, d) :: r, k, 0, s, m, m', n, e, h, hs, hd, hl => by
    simp at h; subst h
    unfold memSel
    simp only [Nat.add_zero] at hs
    rw [hs, if_pos rfl]
    rw [memSel_same r (k + 1) s (fun _ => false) _ (over d.wr m) n rfl (fun i e he hne => hl (i + 1) e (by omega) he (by
      rw [show k + (i + 1) = k + 1 + i by omega]; cases hq : s (k + 1 + i) with | true => rfl | false => exact absurd hq hne))]
    have : ∀ (es : List Ent) k (m : Nat → Option (List C)), memSel es k (fun _ => false) m = m := by
      intro es
      induction es with
      | nil => intro k m; rfl
      | cons p r ih => intro k m; exact ih _ _
    rw [this]
    exact over_in hd
  | (o, d) :: r, k, i + 1, s, m, m', n, e, h, hs, hd, hl => by
    unfold memSel
    exact memSel_last r (k + 1) i s _ m' n e (by simpa using h) (by rwa [show k + 1 + i = k + (i + 1) by omega]) hd (fun j e' hj he hsj => hl (j + 1) e' (by omega) (by simpa using he) (by rwa [show k + (j + 1) = k + 1 + j by omega]))
theorem sel_all : ∀ (es : List Ent) (k : Nat) (s : Nat → Bool), (∀ i, i < es.length → s (k + i) = true) → (∀ fr, frSel es k s fr = frAll es fr) ∧ ∀ m, memSel es k s m = memAll es m
  | [], _, _, _ => ⟨fun _ => rfl, fun _ => rfl⟩
  | (o, d) :: r, k, s, h => by
    have h0 : s k = true := h 0 (by simp)
    obtain ⟨h1, h2⟩ := sel_all r (k + 1) s (fun i hi => by rw [show k + 1 + i = k + (i + 1) by omega]; exact h (i + 1) (by simp; omega))
    refine ⟨fun fr => ?_, fun m => ?_⟩
    · unfold frSel frAll; rw [h0, if_pos rfl, h1]
    · unfold memSel memAll; rw [h0, if_pos rfl, h2]
theorem seq_at {X : Ctx} {N : Nat} {ops : Array Oper} : ∀ (es : List Ent) (k i : Nat) (fr : Nat → V) (m : Nat → Option (List C)) (e : Ent), Seq X N ops es fr m → es[i]? = some e →
    StepR X N ops e.1 (frSel es k (fun j => decide (j < k + i)) fr) (memSel es k (fun j => decide (j < k + i)) m) e.2
  | [], _, i, _, _, _, _, h => by simp at h
  | (o, d) :: r, k, 0, fr, m, e, hs, h => by
    simp at h; subst h
    have e1 : ∀ (es : List Ent) (q : Nat) (fr : Nat → V), k ≤ q → frSel es q (fun j => decide (j < k + 0)) fr = fr := by
      intro es
      induction es with
      | nil => intro q fr _; rfl
      | cons p r ih => intro q fr hq; unfold frSel; rw [if_neg (by simp; omega)]; exact ih _ _ (by omega)
    have e2 : ∀ (es : List Ent) (q : Nat) (m : Nat → Option (List C)), k ≤ q → memSel es q (fun j => decide (j < k + 0)) m = m := by
      intro es
      induction es with
      | nil => intro q m _; rfl
      | cons p r ih => intro q m hq; unfold memSel; rw [if_neg (by simp; omega)]; exact ih _ _ (by omega)
    rw [e1 _ _ _ (Nat.le_refl _), e2 _ _ _ (Nat.le_refl _)]
    exact hs.1
  | (o, d) :: r, k, i + 1, fr, m, e, hs, h => by
    have := seq_at r (k + 1) i _ _ e hs.2 (by simpa using h)
    unfold frSel memSel
    rw [if_pos (by simp), if_pos (by simp)]
    rwa [show k + 1 + i = k + (i + 1) by omega] at this

/-! ### operations that don't touch each other -/
def disj : List Nat → List Nat → Bool
  | [], _ => true
  | n :: r, l => bif hasN n l then false else disj r l
def optOut (t : Option Nat) (l : List Nat) : Bool := match t with | some t => !hasN t l | none => true
def indep (ops : Array Oper) (x y : Ent) : Bool :=
  optOut x.1.dst (y.1.looksAt ops) && optOut y.1.dst (x.1.looksAt ops) && optOut x.1.dst y.1.dst.toList && disj (wrN x.2) y.2.rd && disj (wrN y.2) x.2.rd && disj (wrN x.2) (wrN y.2)
theorem disj_spec : ∀ {a l : List Nat}, disj a l = true → ∀ n, n ∈ a → n ∉ l
  | [], _, _, n, h => by cases h
  | m :: r, l, h, n, hn => by
    unfold disj at h
    cases hb : hasN m l with
    | true => rw [hb] at h; cases h
    | false =>
      rw [hb] at h
      rcases List.mem_cons.1 hn with rfl | hn
      · exact fun e => by rw [hasN_iff.2 e] at hb; cases hb
      · exact disj_spec h n hn
theorem optOut_spec {t : Option Nat} {l : List Nat} (h : optOut t l = true) (n : Nat) (hn : n ∈ l) : t ≠ some n := by
  rintro rfl
  simp only [optOut, hasN_iff.2 hn] at h
  cases h
structure Indep (ops : Array Oper) (x y : Ent) : Prop where
  a : ∀ t ∈ y.1.looksAt ops, x.1.dst ≠ some t
  b : ∀ t ∈ x.1.looksAt ops, y.1.dst ≠ some t
  c : ∀ t, x.1.dst = some t → y.1.dst ≠ some t
  d : ∀ n ∈ y.2.rd, n ∉ wrN x.2
  e : ∀ n ∈ x.2.rd, n ∉ wrN y.2
  f : ∀ n ∈ wrN x.2, n ∉ wrN y.2
theorem indep_spec {ops : Array Oper} {x y : Ent} (h : indep ops x y = true) : Indep ops x y := by
  simp only [indep, Bool.and_eq_true] at h
  obtain ⟨⟨⟨⟨⟨h1, h2⟩, h3⟩, h4⟩, h5⟩, h6⟩ := h
  exact ⟨optOut_spec h1, optOut_spec h2, fun t e1 e2 => optOut_spec h3 t (by simp [e2]) e1, fun n hn hm => disj_spec h4 n hm hn, fun n hn hm => disj_spec h5 n hm hn, disj_spec h6⟩
def befOf (masks : List Nat) : List Edge → Nat
  | [] => 0
  | e :: r => bif Region.binds .any e then (2 ^ e.on ||| masks.getD e.on 0) ||| befOf masks r else befOf masks r
def edgesOk (k : Nat) : List Edge → Bool
  | [] => true
  | e :: r => (!Region.binds .any e || Nat.blt e.on k) && edgesOk k r
def prevOk (ops : Array Oper) (m : Nat) (x : Ent) : List (Nat × Ent) → Bool
  | [] => true
  | (i, e) :: r => (m.testBit i || indep ops e x) && prevOk ops m x r
def drawGo (ops : Array Oper) : List Ent → Nat → List (Nat × Ent) → List Nat → Bool
  | [], _, _, _ => true
  | e :: r, k, prev, masks => edgesOk k e.1.after.toList && prevOk ops (befOf masks e.1.after.toList) e prev && drawGo ops r (k + 1) (prev ++ [(k, e)]) (masks ++ [befOf masks e.1.after.toList])
/-- A set that holds, with an operation, all that it waits for. -/
def Closed (ops : Array Oper) (s : Nat → Bool) : Prop := ∀ (j : Nat) (o : Oper), ops[j]? = some o → s j = true → ∀ e ∈ o.after.toList, Region.binds .any e = true → s e.on = true
theorem befOf_spec {masks : List Nat} {i : Nat} : ∀ {l : List Edge}, (befOf masks l).testBit i = true → ∃ e ∈ l, Region.binds .any e = true ∧ (e.on = i ∨ (masks.getD e.on 0).testBit i = true)
  | [], h => by simp [befOf] at h
  | e :: r, h => by
    unfold befOf at h
    cases hb : Region.binds .any e with
    | false =>
      rw [hb] at h
      obtain ⟨e', h1, h2⟩ := befOf_spec h
      exact ⟨e', by simp [h1], h2⟩
    | true =>
      rw [hb] at h
      simp only [cond_true, Nat.testBit_or, Bool.or_eq_true] at h
      rcases h with (h | h) | h
      · rw [Nat.testBit_two_pow] at h
        exact ⟨e, by simp, hb, .inl (by simpa using h)⟩
      · exact ⟨e, by simp, hb, .inr h⟩
      · obtain ⟨e', h1, h2⟩ := befOf_spec h
        exact ⟨e', by simp [h1], h2⟩
theorem edgesOk_spec {k : Nat} : ∀ {l : List Edge}, edgesOk k l = true → ∀ e ∈ l, Region.binds .any e = true → e.on < k
  | [], _, e, h, _ => by cases h
  | e' :: r, h, e, he, hb => by
    simp only [edgesOk, Bool.and_eq_true] at h
    rcases List.mem_cons.1 he with rfl | he
    · have := h.1
      rw [hb] at this
      simpa using this
    · exact edgesOk_spec h.2 e he hb
/-- i is forced ahead of whatever waits for 'l'. -/
def Forced (ops : Array Oper) (i : Nat) (l : List Edge) : Prop := ∀ s, Closed ops s → (∀ e ∈ l, Region.binds .any e = true → s e.on = true) → s i = true
theorem prevOk_spec {ops : Array Oper} {m : Nat} {x : Ent} : ∀ {l : List (Nat × Ent)}, prevOk ops m x l = true → ∀ p ∈ l, m.testBit p.1 = true ∨ indep ops p.2 x = true
  | [], _, p, h => by cases h
  | (i, e) :: r, h, p, hp => by
    simp only [prevOk, Bool.and_eq_true, Bool.or_eq_true] at h
    rcases List.mem_cons.1 hp with rfl | hp
    · exact h.1
    · exact prevOk_spec h.2 p hp
theorem drawGo_spec {ops : Array Oper} (all : List Ent) (hops : ∀ (i : Nat) (e : Ent), all[i]? = some e → ops[i]? = some e.1) : ∀ (es : List Ent) (k : Nat) (prev : List (Nat × Ent)) (masks : List Nat),
    drawGo ops es k prev masks = true → (∀ (i : Nat) (e : Ent), es[i]? = some e → all[k + i]? = some e) → (∀ (i : Nat) (e : Ent), i < k → all[i]? = some e → (i, e) ∈ prev) → masks.length = k →
    (∀ (j i : Nat) (o : Oper), j < k → ops[j]? = some o → (masks.getD j 0).testBit i = true → Forced ops i o.after.toList) →
    ∀ (j : Nat) (e : Ent), k ≤ j → all[j]? = some e → j < k + es.length → (∀ x ∈ e.1.after.toList, Region.binds .any x = true → x.on < j) ∧ ∀ (i : Nat) (e' : Ent), i < j → all[i]? = some e' → Forced ops i e.1.after.toList ∨ indep ops e' e = true
  | [], k, _, _, _, _, _, _, _, j, e, h1, _, h2 => by simp at h2; omega
  | x :: r, k, prev, masks, h, hall, hprev, hml, hf, j, e, hj, he, hlt => by
    simp only [drawGo, Bool.and_eq_true] at h
    obtain ⟨⟨h1, h2⟩, h3⟩ := h
    have hx : all[k]? = some x := hall 0 x rfl
    have hforced : ∀ i, (befOf masks x.1.after.toList).testBit i = true → Forced ops i x.1.after.toList := fun i hi s hs hp => by
      obtain ⟨e', k1, k2, k3⟩ := befOf_spec hi
      have hse := hp e' k1 k2
      rcases k3 with rfl | k3
      · exact hse
      · have hlt' : e'.on < k := edgesOk_spec h1 e' k1 k2
        have hk : k < all.length := (List.getElem?_eq_some_iff.1 hx).1
        have hal : all[e'.on]? = some all[e'.on] := List.getElem?_eq_getElem (by omega)
        have hop := hops _ _ hal
        exact hf e'.on i _ hlt' hop k3 s hs (hs _ _ hop hse)
    rcases Nat.lt_or_ge k j with hjk | hjk
    · refine drawGo_spec all hops r (k + 1) _ _ h3 (fun i e' he' => by rw [show k + 1 + i = k + (i + 1) by omega]; exact hall (i + 1) e' (by simpa using he')) ?_ (by simp [hml]) ?_ j e (by omega) he (by simp at hlt; omega)
      · intro i e' hi he'
        rcases Nat.lt_or_ge i k with hik | hik
        · exact List.mem_append_left _ (hprev i e' hik he')
        · obtain rfl : i = k := by omega
          obtain rfl := Option.some.inj (hx.symm.trans he')
          simp
      · intro j' i o hj' ho ht
        rcases Nat.lt_or_ge j' k with hjk' | hjk'
        · rw [List.getD_eq_getElem?_getD, List.getElem?_append_left (by omega), ← List.getD_eq_getElem?_getD] at ht
          exact hf j' i o hjk' ho ht
        · obtain rfl : j' = k := by omega
          rw [List.getD_eq_getElem?_getD, List.getElem?_append_right (by omega)] at ht
          simp only [hml, Nat.sub_self, List.getElem?_cons_zero, Option.getD_some] at ht
          have := hops _ _ hx
          obtain rfl := Option.some.inj (ho.symm.trans this)
          exact hforced i ht
    · obtain rfl : j = k := by omega
      obtain rfl := Option.some.inj (hx.symm.trans he)
      refine ⟨edgesOk_spec h1, fun i e' hi he' => ?_⟩
      rcases prevOk_spec h2 _ (hprev i e' hi he') with h | h
      · exact .inl (hforced i h)
      · exact .inr h

/-! ### whatever order -/
def unl (listed : Array Bool) : Nat → Nat
  | 0 => 0
  | n + 1 => unl listed n + (if listed.getD n true = false then 1 else 0)
theorem unl_set {listed : Array Bool} {i : Nat} (hi : listed.getD i true = false) : ∀ n : Nat, unl (listed.setIfInBounds i true) n + (if i < n then 1 else 0) = unl listed n
  | 0 => by simp [unl]
  | n + 1 => by
    have ih := unl_set hi n
    simp only [unl]
    by_cases e : n = i
    · subst e
      have hlt : n < listed.size := by
        rcases Nat.lt_or_ge n listed.size with h | h
        · exact h
        · simp [Array.getElem?_eq_none h] at hi
      have h1 : (listed.setIfInBounds n true).getD n true = true := by simp [hlt]
      rw [h1, hi]
      simp at ih ⊢
      omega
    · rw [getD_set_ne true (fun h => e h.symm)]
      generalize (if listed.getD n true = false then 1 else 0) = q
      by_cases h : i < n
      · rw [if_pos h] at ih; rw [if_pos (show i < n + 1 by omega)]; omega
      · rw [if_neg h] at ih; rw [if_neg (show ¬ i < n + 1 by omega)]; omega
theorem unl_zero {listed : Array Bool} : ∀ {n : Nat}, unl listed n = 0 → ∀ i, i < n → listed.getD i true = true
  | 0, _, i, h => by omega
  | n + 1, h, i, hi => by
    simp only [unl] at h
    by_cases e : i = n
    · subst e
      cases hb : listed.getD i true with
      | true => rfl
      | false => rw [hb] at h; simp at h
    · exact unl_zero (Nat.eq_zero_of_add_eq_zero_right h) i (by omega)
section
variable {P : Program} {b : Base} {N : Nat} {X : Ctx} {Q : Exit → Act → World → Prop} {laid : List (Nat × Nat × Value)} {ops : Array Oper}
theorem getD_two {listed : Array Bool} {i : Nat} (hi : i < listed.size) (d d' : Bool) : listed.getD i d = listed.getD i d' := by simp [Array.getD_eq_getD_getElem?, Array.getElem?_eq_getElem hi]
theorem draw_any (hX : CtxOk P laid X) (hl : Laid laid b.K0) {es : List Ent} (hlen : es.length = ops.size) (hes : ∀ (i : Nat) (e : Ent), es[i]? = some e → ops[i]? = some e.1) {fr : Nat → V} {mem : Nat → Option (List C)}
    (hseq : Seq X N ops es fr mem) (hdraw : drawGo ops es 0 [] [] = true) (hQ : ∀ g' a' w', Con b N g' (frAll es fr) (memAll es mem) a' w' → Q .normal a' w') :
    ∀ (fuel : Nat) (listed : Array Bool) (g : Gh) (a : Act) (w : World), listed.size = ops.size → unl listed ops.size ≤ fuel → Closed ops (fun i => listed.getD i false) →
      Con b N g (frSel es 0 (fun i => listed.getD i false) fr) (memSel es 0 (fun i => listed.getD i false) mem) a w → wpAny P .any ops Q fuel listed a w := by
  have D := drawGo_spec es hes es 0 [] [] hdraw (fun i e h => by simpa using h) (fun i e h _ => by omega) rfl (fun j i o h _ _ => by omega)
  have full : ∀ (listed : Array Bool) (g : Gh) (a : Act) (w : World), listed.size = ops.size → unl listed ops.size = 0 →
      Con b N g (frSel es 0 (fun i => listed.getD i false) fr) (memSel es 0 (fun i => listed.getD i false) mem) a w → Q .normal a w := by
    intro listed g a w hsz hz hc
    obtain ⟨h1, h2⟩ := sel_all es 0 (fun i => listed.getD i false) (fun i hi => by
      have h := unl_zero hz i (by omega)
      rw [Nat.zero_add]
      rw [getD_two (by omega) false true]; exact h)
    rw [h1, h2] at hc
    exact hQ g a w hc
  have empty : ∀ (listed : Array Bool), listed.size = ops.size → Region.ready .any ops listed = [] → unl listed ops.size = 0 := by
    intro listed hsz hr
    rcases Nat.eq_zero_or_pos (unl listed ops.size) with h | h
    · exact h
    · exfalso
      have key : ∀ n, n ≤ ops.size → ∀ i, i < n → listed.getD i true = true := by
        intro n
        induction n with
        | zero => intro _ i hi; omega
        | succ n ih =>
          intro hn i hi
          have ih := ih (by omega)
          by_cases e : i = n
          · subst e
            cases hb : listed.getD i true with
            | true => rfl
            | false =>
              exfalso
              have he : es[i]? = some es[i] := List.getElem?_eq_getElem (by omega)
              obtain ⟨d1, _⟩ := D i _ (by omega) he (by omega)
              have : i ∈ Region.ready .any ops listed := mem_ready.2 ⟨hb, es[i].1, hes _ _ he, fun x hx hbd => by
                have hlt := d1 x (by simpa using hx) hbd
                rw [getD_two (by omega) false true]
                exact ih x.on hlt⟩
              rw [hr] at this; cases this
          · exact ih i (by omega)
      have : ∀ n, n ≤ ops.size → unl listed n = 0 := by
        intro n
        induction n with
        | zero => intro _; rfl
        | succ n ih => intro hn; simp only [unl]; rw [ih (by omega), key ops.size (Nat.le_refl _) n (by omega)]; rfl
      have := this ops.size (Nat.le_refl _)
      omega
  intro fuel
  induction fuel with
  | zero =>
    intro listed g a w hsz hu hcl hc
    have hz : unl listed ops.size = 0 := by omega
    refine ⟨?_, full listed g a w hsz hz hc⟩
    cases hr : Region.ready .any ops listed with
    | nil => rfl
    | cons i l =>
      have hi : i ∈ Region.ready .any ops listed := by rw [hr]; simp
      obtain ⟨h1, o, ho, _⟩ := mem_ready.1 hi
      have := unl_zero hz i (Array.getElem?_eq_some_iff.1 ho).1
      rw [h1] at this; cases this
  | succ fuel ih =>
    intro listed g a w hsz hu hcl hc
    refine ⟨fun hr => full listed g a w hsz (empty listed hsz hr) hc, fun i hi => ?_⟩
    obtain ⟨h1, o, ho, hpre⟩ := mem_ready.1 hi
    have hio : i < ops.size := (Array.getElem?_eq_some_iff.1 ho).1
    have he : es[i]? = some es[i] := List.getElem?_eq_getElem (by omega)
    generalize es[i] = ei at he
    have heo := hes _ _ he
    obtain rfl := Option.some.inj (ho.symm.trans heo)
    have hsi : listed.getD i false = false := by rw [getD_two (by omega) false true]; exact h1
    -- what lies between the order of the text and this one
    have before : ∀ (j : Nat) (e : Ent), j < i → es[j]? = some e → listed.getD j false = false → Indep ops e ei := fun j e hj hej hs => by
      rcases (D i ei (by omega) he (by omega)).2 j e hj hej with h | h
      · have := h _ hcl (fun x hx hb => hpre x (by simpa using hx) hb)
        rw [hs] at this; cases this
      · exact indep_spec h
    have behind : ∀ (j : Nat) (e : Ent), i < j → es[j]? = some e → listed.getD j false = true → Indep ops ei e := fun j e hj hej hs => by
      have hjl : j < es.length := (List.getElem?_eq_some_iff.1 hej).1
      rcases (D j e (by omega) hej (by omega)).2 i ei hj he with h | h
      · have := h _ hcl (hcl j e.1 (hes _ _ hej) hs)
        rw [hsi] at this; cases this
      · exact indep_spec h
    have hstep := seq_at es 0 i fr mem ei hseq he
    simp only [Nat.zero_add] at hstep
    have hplan : (planG X ops ei.1 (frSel es 0 (fun i => listed.getD i false) fr) (memSel es 0 (fun i => listed.getD i false) mem)).run some = some ei.2 := by
      refine planG_same hstep.2 (fun t ht => ?_) (fun n hn => ?_)
      · refine frSel_same es 0 _ _ fr fr t rfl (fun j e hej hne => ?_)
        simp only [Nat.zero_add] at hne
        rcases Nat.lt_trichotomy j i with hji | rfl | hji
        · have : listed.getD j false = false := by cases hb : listed.getD j false with | false => rfl | true => rw [hb] at hne; simp [hji] at hne
          exact (before j e hji hej this).a t ht
        · rw [hsi] at hne; simp at hne
        · have : listed.getD j false = true := by cases hb : listed.getD j false with | true => rfl | false => rw [hb] at hne; simp [show ¬ j < i by omega] at hne
          exact (behind j e hji hej this).b t ht
      · refine memSel_same es 0 _ _ mem mem n rfl (fun j e hej hne => ?_)
        simp only [Nat.zero_add] at hne
        rcases Nat.lt_trichotomy j i with hji | rfl | hji
        · have : listed.getD j false = false := by cases hb : listed.getD j false with | false => rfl | true => rw [hb] at hne; simp [hji] at hne
          exact (before j e hji hej this).d n hn
        · rw [hsi] at hne; simp at hne
        · have : listed.getD j false = true := by cases hb : listed.getD j false with | true => rfl | false => rw [hb] at hne; simp [show ¬ j < i by omega] at hne
          exact (behind j e hji hej this).e n hn
    refine wpOp_mono ?_ (planG_ok hX hl hc hstep.1 ho hplan)
    rintro a' w' ⟨g', hc'⟩
    have hnew : ∀ j, (listed.setIfInBounds i true).getD j false = (if j = i then true else listed.getD j false) := fun j => by
      by_cases e : j = i
      · subst e; simp [show j < listed.size by omega]
      · rw [getD_set_ne false (fun h => e h.symm), if_neg e]
    refine ih _ g' a' w' (by simpa using hsz) ?_ ?_ ?_
    · have := unl_set h1 ops.size
      rw [if_pos hio] at this
      omega
    · intro j o' ho' hs x hx hb
      simp only [hnew] at hs ⊢
      by_cases e : x.on = i
      · rw [if_pos e]
      · rw [if_neg e]
        by_cases e' : j = i
        · subst e'
          obtain rfl := Option.some.inj (ho.symm.trans ho')
          exact hpre x (by simpa using hx) hb
        · rw [if_neg e'] at hs
          exact hcl j o' ho' hs x hx hb
    · have efr : frSel es 0 (fun j => (listed.setIfInBounds i true).getD j false) fr = apFr ei.1.dst ei.2.v (frSel es 0 (fun j => listed.getD j false) fr) := by
        funext t
        by_cases e : ei.1.dst = some t
        · rw [e, apFr_eq]
          refine frSel_last es 0 i _ fr t ei he (by rw [Nat.zero_add]; simp only [hnew, if_true]) e (fun j e' hj hej hs => ?_)
          rw [Nat.zero_add] at hs
          simp only [hnew] at hs
          rw [if_neg (by omega)] at hs
          exact (behind j e' hj hej hs).c t e
        · rw [apFr_ne e]
          refine frSel_same es 0 _ _ fr fr t rfl (fun j e' hej hne => ?_)
          rw [Nat.zero_add] at hne
          simp only [hnew] at hne
          by_cases ej : j = i
          · subst ej
            obtain rfl := Option.some.inj (he.symm.trans hej)
            exact e
          · rw [if_neg ej] at hne; exact absurd rfl hne
      have emem : memSel es 0 (fun j => (listed.setIfInBounds i true).getD j false) mem = over ei.2.wr (memSel es 0 (fun j => listed.getD j false) mem) := by
        funext n
        by_cases e : n ∈ wrN ei.2
        · refine memSel_last es 0 i _ mem _ n ei he (by rw [Nat.zero_add]; simp only [hnew, if_true]) e (fun j e' hj hej hs => ?_)
          rw [Nat.zero_add] at hs
          simp only [hnew] at hs
          rw [if_neg (by omega)] at hs
          exact (behind j e' hj hej hs).f n e
        · rw [over_ne e]
          refine memSel_same es 0 _ _ mem mem n rfl (fun j e' hej hne => ?_)
          rw [Nat.zero_add] at hne
          simp only [hnew] at hne
          by_cases ej : j = i
          · subst ej
            obtain rfl := Option.some.inj (he.symm.trans hej)
            exact e
          · rw [if_neg ej] at hne; exact absurd rfl hne
      rw [efr, emem]
      exact hc'
theorem draw_ok (hX : CtxOk P laid X) (hl : Laid laid b.K0) {id : Nat} {es : List Ent} (hlen : es.length = ops.size) (hes : ∀ (i : Nat) (e : Ent), es[i]? = some e → ops[i]? = some e.1) {g : Gh} {fr : Nat → V} {mem : Nat → Option (List C)} {a : Act} {w : World}
    (hseq : Seq X N ops es fr mem) (hdraw : drawGo ops es 0 [] [] = true) (hc : Con b N g fr mem a w) (hQ : ∀ g' a' w', Con b N g' (frAll es fr) (memAll es mem) a' w' → Q .normal a' w') : (Code.region id ops true).wp P Q a w := by
  refine wp_region_any hX.mixed ?_
  have e0 : ∀ i, (Array.replicate ops.size false).getD i false = false := fun i => getD_replicate_false' ops.size i
  refine draw_any hX hl hlen hes hseq hdraw hQ ops.size _ g a w.drew (by simp) ?_ ?_ ?_
  · have : ∀ n, unl (Array.replicate ops.size false) n ≤ n := by
      intro n
      induction n with
      | zero => exact Nat.le_refl _
      | succ n ih => simp only [unl]; split <;> omega
    exact this _
  · intro j o _ hs
    simp only [e0] at hs; cases hs
  · have h1 : ∀ (es : List Ent) (k : Nat) (fr : Nat → V), frSel es k (fun i => (Array.replicate ops.size false).getD i false) fr = fr := by
      intro es
      induction es with
      | nil => intro k fr; rfl
      | cons p r ih => intro k fr; unfold frSel; rw [if_neg (by simp only [e0]; simp)]; exact ih _ _
    have h2 : ∀ (es : List Ent) (k : Nat) (m : Nat → Option (List C)), memSel es k (fun i => (Array.replicate ops.size false).getD i false) m = m := by
      intro es
      induction es with
      | nil => intro k m; rfl
      | cons p r ih => intro k m; unfold memSel; rw [if_neg (by simp only [e0]; simp)]; exact ih _ _
    rw [h1, h2]
    exact hc.drew
where
  getD_replicate_false' (m j : Nat) : (Array.replicate m false).getD j false = false := by
    simp only [Array.getD_eq_getD_getElem?, Array.getElem?_replicate]
    split <;> rfl
end
end Go.Proofs.YtmdnnlfoljdfpaaDoor.Mir
