/- The mirror's loops. Nothing here names the program. -/
import Derived.Test.YtmdnnlfoljdfpaaDoorMirJ
namespace Go.Proofs.YtmdnnlfoljdfpaaDoor.Mir
open Go Go.RowKit

def blksA (mem : Nat → Option (List C)) : List Nat → Option (List A)
  | [] => some []
  | n :: r => match mem n with
    | some cs => (match blksA mem r with | some l => some (.agg cs :: l) | none => none)
    | none => none
def valsA (fr : Nat → V) : List Nat → Option (List A)
  | [] => some []
  | t :: r => match fr t with
    | .a x => (match valsA fr r with | some l => some (x :: l) | none => none)
    | .tup _ => none
def zipM : List Nat → List A → List (Nat × List C)
  | n :: r, a :: as => (n, cellsA a) :: zipM r as
  | _, _ => []
def addFr (t : Nat) (a : A) (s : St) : St := ⟨(t, .a a) :: s.fr, s.mem⟩
def mkSt : List Nat → List Nat → List A → St
  | [], bl, as => ⟨[], zipM bl as⟩
  | t :: r, bl, a :: as => addFr t a (mkSt r bl as)
  | _ :: _, _, [] => ⟨[], []⟩
def allIn : List Nat → List Nat → Bool
  | [], _ => true
  | n :: r, l => hasN n l && allIn r l
def outs : Nat → List Nat
  | 0 => []
  | n + 1 => outs n ++ [2 * n]
def nodupB : List Nat → Bool
  | [] => true
  | n :: r => !hasN n r && nodupB r
def evensB : List Nat → Bool
  | [] => true
  | n :: r => Nat.beq (n % 2) 0 && evensB r
/-- A state, laid down to what is live. -/
def headOk (nOut : Nat) (live bl : List Nat) (sh : List ShA) (s : St) : Option (TAs sh) :=
  match valsA (frL s.fr) live, blksA (memL s.mem) bl with
  | some as, some bs => (match tkAs (memL s.mem) id 0 (sh.map tsOf) (as ++ bs) with
    | some (as', _) => (match decAs 0 sh as' with
      | some p => bif allIn (nameAs (as ++ bs)) bl && allIn (outs nOut) bl && nodupB bl && evensB bl then some p else none
      | none => none)
    | none => none)
  | _, _ => none
def withTks (s : St) (l : List ShA) : St := ⟨s.fr, s.mem ++ tkCells 0 (specsL (l.map tsOf))⟩
def stOf (live bl : List Nat) (sh : List ShA) (p : TAs sh) : St := withTks (mkSt live bl (encAs 0 sh p)) sh
theorem evensB_spec : ∀ {l : List Nat}, evensB l = true → ∀ n ∈ l, n % 2 = 0
  | [], _, n, h => by cases h
  | m :: r, h, n, hn => by
    simp only [evensB, Bool.and_eq_true] at h
    rcases List.mem_cons.1 hn with rfl | hn
    · exact Nat.eq_of_beq_eq_true h.1
    · exact evensB_spec h.2 n hn
theorem allIn_spec : ∀ {a l : List Nat}, allIn a l = true → ∀ n ∈ a, n ∈ l
  | [], _, _, n, h => by cases h
  | m :: r, l, h, n, hn => by
    simp only [allIn, Bool.and_eq_true] at h
    rcases List.mem_cons.1 hn with rfl | hn
    · exact hasN_iff.1 h.1
    · exact allIn_spec h.2 n hn
theorem outs_spec : ∀ {n i : Nat}, i < n → 2 * i ∈ outs n
  | 0, i, h => by omega
  | n + 1, i, h => by
    simp only [outs, List.mem_append, List.mem_singleton]
    by_cases e : i = n
    · exact .inr (by rw [e])
    · exact .inl (outs_spec (by omega))
theorem nodupB_spec : ∀ {l : List Nat}, nodupB l = true → l.Nodup
  | [], _ => List.nodup_nil
  | n :: r, h => by
    simp only [nodupB, Bool.and_eq_true, Bool.not_eq_true'] at h
    rw [List.nodup_cons]
    exact ⟨fun e => (by rw [hasN_iff.2 e] at h; exact absurd h.1 (by simp)), nodupB_spec h.2⟩
theorem valsA_spec {fr : Nat → V} : ∀ {l : List Nat} {as : List A}, valsA fr l = some as → as.length = l.length ∧ ∀ (i t : Nat), l[i]? = some t → ∃ a, as[i]? = some a ∧ fr t = .a a
  | [], as, h => by obtain rfl := (Option.some.inj h).symm; exact ⟨rfl, fun i t e => by simp at e⟩
  | t :: r, as, h => by
    unfold valsA at h
    split at h
    · rename_i x ex
      split at h
      · rename_i l el
        obtain rfl := (Option.some.inj h).symm
        obtain ⟨h1, h2⟩ := valsA_spec el
        refine ⟨by simp [h1], fun i u e => ?_⟩
        cases i with
        | zero => simp at e; subst e; exact ⟨x, rfl, ex⟩
        | succ i => simp at e; simpa using h2 i u e
      · cases h
    · cases h
theorem blksA_spec {mem : Nat → Option (List C)} : ∀ {l : List Nat} {as : List A}, blksA mem l = some as → as.length = l.length ∧ ∀ (i n : Nat), l[i]? = some n → ∃ cs, as[i]? = some (.agg cs) ∧ mem n = some cs
  | [], as, h => by obtain rfl := (Option.some.inj h).symm; exact ⟨rfl, fun i t e => by simp at e⟩
  | t :: r, as, h => by
    unfold blksA at h
    split at h
    · rename_i x ex
      split at h
      · rename_i l el
        obtain rfl := (Option.some.inj h).symm
        obtain ⟨h1, h2⟩ := blksA_spec el
        refine ⟨by simp [h1], fun i u e => ?_⟩
        cases i with
        | zero => simp at e; subst e; exact ⟨x, rfl, ex⟩
        | succ i => simp at e; simpa using h2 i u e
      · cases h
    · cases h
theorem mkSt_mem : ∀ (live bl : List Nat) (as : List A), live.length ≤ as.length → (mkSt live bl as).mem = zipM bl (as.drop live.length)
  | [], bl, as, _ => rfl
  | t :: r, bl, [], h => by simp at h
  | t :: r, bl, a :: as, h => by
    simp only [mkSt, addFr, List.length_cons, List.drop_succ_cons]
    exact mkSt_mem r bl as (by simpa using h)
theorem mkSt_fr : ∀ (live bl : List Nat) (as : List A) (u : Nat), live.length ≤ as.length → frL (mkSt live bl as).fr u = .a (.one .junk) ∨ ∃ (i : Nat) (a : A), live[i]? = some u ∧ as[i]? = some a ∧ frL (mkSt live bl as).fr u = .a a
  | [], bl, as, u, _ => .inl rfl
  | t :: r, bl, [], u, h => by simp at h
  | t :: r, bl, a :: as, u, h => by
    simp only [mkSt, addFr, frL]
    cases hb : Nat.beq u t with
    | true => exact .inr ⟨0, a, by simp [Nat.eq_of_beq_eq_true hb], rfl, rfl⟩
    | false =>
      rcases mkSt_fr r bl as u (by simpa using h) with h | ⟨i, a', h1, h2, h3⟩
      · exact .inl h
      · exact .inr ⟨i + 1, a', by simpa using h1, by simpa using h2, h3⟩
theorem zipM_get : ∀ {bl : List Nat} {as : List A}, bl.length ≤ as.length → (∀ n, n ∉ bl → memL (zipM bl as) n = none) ∧ (bl.Nodup → ∀ (i n : Nat), bl[i]? = some n → ∃ a, as[i]? = some a ∧ memL (zipM bl as) n = some (cellsA a))
  | [], as, _ => ⟨fun n _ => rfl, fun _ i n e => by simp at e⟩
  | m :: r, [], h => by simp at h
  | m :: r, a :: as, h => by
    obtain ⟨h1, h2⟩ := zipM_get (bl := r) (as := as) (by simpa using h)
    refine ⟨fun n hn => ?_, fun hd i n e => ?_⟩
    · simp only [List.mem_cons, not_or] at hn
      simp only [zipM, memL, over]
      have : Nat.beq n m = false := by cases hb : Nat.beq n m with | false => rfl | true => exact absurd (Nat.eq_of_beq_eq_true hb) hn.1
      rw [this]
      exact h1 n hn.2
    · rw [List.nodup_cons] at hd
      cases i with
      | zero => simp at e; subst e; exact ⟨a, rfl, by simp [zipM, memL, over]⟩
      | succ i =>
        simp at e
        obtain ⟨a', k1, k2⟩ := h2 hd.2 i n e
        refine ⟨a', by simpa using k1, ?_⟩
        have : Nat.beq n m = false := by
          cases hb : Nat.beq n m with
          | false => rfl
          | true => exact absurd (Nat.eq_of_beq_eq_true hb ▸ List.mem_of_getElem? e) hd.1
        simp only [zipM, memL, over, this, cond_false]
        exact k2
theorem RepAs.mk : ∀ {as : List A} {vs : List Value} {g : Gh}, as.length = vs.length → (∀ (i : Nat) (a : A), as[i]? = some a → ∃ x, vs[i]? = some x ∧ RepA g a x) → RepAs g as vs
  | [], [], _, _, _ => rfl
  | [], _ :: _, _, h, _ => by simp at h
  | _ :: _, [], _, h, _ => by simp at h
  | a :: as, v :: vs, g, h, hr => by
    obtain ⟨x, e1, e2⟩ := hr 0 a rfl
    simp at e1; subst e1
    exact ⟨v, vs, rfl, e2, RepAs.mk (by simpa using h) (fun i b hb => by simpa using hr (i + 1) b (by simpa using hb))⟩
theorem nameAs_mem : ∀ {as : List A} {i : Nat} {a : A}, as[i]? = some a → ∀ n ∈ nameA a, n ∈ nameAs as
  | [], _, _, e, _, _ => by simp at e
  | b :: as, 0, a, e, n, hn => by simp at e; subst e; simp [nameAs, hn]
  | b :: as, i + 1, a, e, n, hn => by simp at e; simp [nameAs, nameAs_mem e n hn]
theorem zipM_even {bl : List Nat} (hb : ∀ n ∈ bl, n % 2 = 0) {as : List A} (t : List (Nat × Nat × List Sh)) : (∀ n, n % 2 = 1 → memL (zipM bl as ++ tkCells 0 t) n = memL (tkCells 0 t) n) ∧ (∀ n, n % 2 = 0 → memL (zipM bl as ++ tkCells 0 t) n = memL (zipM bl as) n) := by
  have hz : ∀ {bl : List Nat} {as : List A}, (∀ n ∈ bl, n % 2 = 0) → ∀ p ∈ zipM bl as, p.1 % 2 = 0 := by
    intro bl
    induction bl with
    | nil => intro as _ p h; simp [zipM] at h
    | cons m r ih =>
      intro as hb p h
      cases as with
      | nil => simp [zipM] at h
      | cons a as =>
        simp only [zipM, List.mem_cons] at h
        rcases h with rfl | h
        · exact hb m (by simp)
        · exact ih (fun n hn => hb n (by simp [hn])) p h
  have happ : ∀ n, memL (zipM bl as ++ tkCells 0 t) n = over (zipM bl as) (memL (tkCells 0 t)) n := fun n => by
    show over (zipM bl as ++ tkCells 0 t) _ n = _
    rw [over_app]; rfl
  refine ⟨fun n hn => ?_, fun n hn => ?_⟩
  · rw [happ]
    exact over_none fun p hp e => by have := hz hb p hp; omega
  · rw [happ]
    have h0 : memL (tkCells 0 t) n = none := by
      show over (tkCells 0 t) _ n = none
      rw [over_none fun p hp e => by have := tkCells_odd 0 t p hp; omega]
    have : ∀ (l : List (Nat × List C)), over l (memL (tkCells 0 t)) n = over l (fun _ => none) n := by
      intro l
      induction l with
      | nil => exact h0
      | cons p r ih => obtain ⟨m, cs⟩ := p; simp only [over, ih]
    exact this _
section
variable {b : Base} {N nOut : Nat} {g : Gh} {a : Act} {w : World} {laid : List (Nat × Nat × Value)}
theorem head_ok {live bl : List Nat} {sh : List ShA} {s : St} {p : TAs sh} (hb : BaseOk laid nOut b) (h : headOk nOut live bl sh s = some p) (hc : Con b N g (frL s.fr) (memL s.mem) a w) :
    ∃ g', Con b N g' (frL (stOf live bl sh p).fr) (memL (stOf live bl sh p).mem) a w := by
  unfold headOk at h
  split at h
  · rename_i as bs e1 e2
    split at h
    · rename_i as' us e4
      split at h
      · rename_i p' e3
        cases hk : (allIn (nameAs (as ++ bs)) bl && allIn (outs nOut) bl && nodupB bl && evensB bl) with
        | false => rw [hk] at h; cases h
        | true =>
          rw [hk] at h
          obtain rfl := (Option.some.inj h)
          simp only [Bool.and_eq_true] at hk
          obtain ⟨⟨⟨k1, k2⟩, k3⟩, k4⟩ := hk
          have hin := allIn_spec k1
          have hnd := nodupB_spec k3
          have hev := evensB_spec k4
          obtain ⟨va, vb⟩ := valsA_spec e1
          obtain ⟨ba, bb⟩ := blksA_spec e2
          obtain ⟨da, db⟩ := decAs_get e3
          obtain ⟨ta, tb⟩ := tkAs_get e4
          -- the values
          have hvals : ∀ (i : Nat), ∃ x, ∀ a0, (as ++ bs)[i]? = some a0 → RepA g a0 x ∧ (∀ t, live[i]? = some t → x = a.tmps.getD t undef) ∧ (∀ k n, i = live.length + k → bl[k]? = some n → ∃ β vs ty, g.j n = some β ∧ w.heap[β]? = some (.cells vs ty (0, 0)) ∧ x = .agg vs ∧ (∀ o, g.K β o = none) ∧ (b.M β ∨ b.w0.heap.size ≤ β)) := fun i => by
            rcases Nat.lt_or_ge i live.length with hi | hi
            · obtain ⟨a0, r1, r2⟩ := vb i _ (List.getElem?_eq_getElem hi)
              refine ⟨a.tmps.getD live[i] undef, fun a1 h1 => ⟨?_, fun t ht => ?_, fun k n hk => by omega⟩⟩
              · rw [List.getElem?_append_left (by omega), r1] at h1
                obtain rfl := Option.some.inj h1
                have hr := hc.rep live[i]
                rw [r2] at hr
                exact hr
              · rw [List.getElem?_eq_getElem hi] at ht
                rw [Option.some.inj ht]
            · rcases Nat.lt_or_ge (i - live.length) bl.length with hk | hk
              · obtain ⟨cs, r1, r2⟩ := bb _ _ (List.getElem?_eq_getElem hk)
                obtain ⟨β, vs, ty, q1, q2, q3, q4, q5⟩ := hc.blk _ cs (hev _ (List.getElem_mem hk)) r2
                refine ⟨.agg vs, fun a1 h1 => ⟨?_, fun t ht => ?_, fun k n hk' hn => ?_⟩⟩
                · rw [List.getElem?_append_right (by omega), va, r1] at h1
                  obtain rfl := Option.some.inj h1
                  exact ⟨vs.toList, by simp, q3⟩
                · rw [List.getElem?_eq_none hi] at ht; cases ht
                · obtain rfl : k = i - live.length := by omega
                  rw [List.getElem?_eq_getElem hk] at hn
                  obtain rfl := Option.some.inj hn
                  exact ⟨β, vs, ty, q1, q2, rfl, q4, q5⟩
              · refine ⟨undef, fun a1 h1 => ?_⟩
                rw [List.getElem?_append_right (by omega), List.getElem?_eq_none (by omega)] at h1
                cases h1
          let xs : List Value := (List.range (as ++ bs).length).map fun i => Classical.choose (hvals i)
          have xget : ∀ i, i < (as ++ bs).length → xs[i]? = some (Classical.choose (hvals i)) := fun i hi => by
            show ((List.range (as ++ bs).length).map _)[i]? = _
            rw [List.getElem?_map, List.getElem?_range hi]; rfl
          have hxs : RepAs g (as ++ bs) xs := RepAs.mk (by show _ = ((List.range _).map _).length; simp) (fun i a0 e => by
            have hi := (List.getElem?_eq_some_iff.1 e).1
            exact ⟨_, xget i hi, (Classical.choose_spec (hvals i) a0 e).1⟩)
          obtain ⟨thc, HA, HR⟩ := tkAs_spec hc e4 hxs
          let g' : Gh := { K := g.K, j := fun n => if hasN n bl then g.j n else none, th := thc }
          have gin : ∀ n, n ∈ bl → g'.j n = g.j n := fun n hn => by
            show (if hasN n bl then _ else _) = _
            rw [if_pos (hasN_iff.2 hn)]
          have gout : ∀ n, n ∉ bl → g'.j n = none := fun n hn => by
            show (if hasN n bl then _ else _) = _
            rw [if_neg (fun h => hn (hasN_iff.1 h))]
          have gsub : ∀ n β, g'.j n = some β → g.j n = some β := fun n β e => by
            by_cases hn : n ∈ bl
            · rw [gin n hn] at e; exact e
            · rw [gout n hn] at e; cases e
          have hR := HR g' rfl (fun n hn β e => by show g'.j n = some β; rw [gin n (hin n hn)]; exact e) (fun _ _ _ e => e)
          have henc : ∀ (i : Nat) (a0 : A), (as ++ bs)[i]? = some a0 → ∃ a1, (encAs 0 sh p')[i]? = some a1 ∧ RepA g' a1 (Classical.choose (hvals i)) ∧ ∀ cs, a0 = .agg cs → ∃ cs', a1 = .agg cs' := fun i a0 e => by
            have hi := (List.getElem?_eq_some_iff.1 e).1
            have hi' : as'[i]? = some as'[i] := List.getElem?_eq_getElem (by omega)
            obtain ⟨x, y1, y2⟩ := hR.get hi'
            rw [xget i hi] at y1
            obtain rfl := Option.some.inj y1
            obtain ⟨a1, z1, z2, z3⟩ := db i _ hi'
            refine ⟨a1, z1, z2 g' _ y2, fun cs ec => ?_⟩
            subst ec
            obtain ⟨cs', t1⟩ := tb i cs e
            exact z3 cs' (Option.some.inj (hi'.symm.trans t1))
          have hlen : live.length ≤ (encAs 0 sh p').length := by rw [da, ta, List.length_append]; omega
          have hdl : bl.length ≤ ((encAs 0 sh p').drop live.length).length := by rw [List.length_drop, da, ta, List.length_append]; omega
          obtain ⟨z1, z2⟩ := zipM_get hdl
          obtain ⟨m1, m2⟩ := zipM_even (as := (encAs 0 sh p').drop live.length) hev (specsL (sh.map tsOf))
          have hmem : (stOf live bl sh p').mem = zipM bl ((encAs 0 sh p').drop live.length) ++ tkCells 0 (specsL (sh.map tsOf)) := by
            show (mkSt live bl _).mem ++ _ = _
            rw [mkSt_mem live bl _ hlen]
          rw [hmem]
          have htk : ∀ n cs, n % 2 = 1 → memL (tkCells 0 (specsL (sh.map tsOf))) n = some cs → ∃ E sz, cs = [.tkt true 0 E sz] ∧ ∃ τ, thc n 0 = some τ ∧ ∀ β e cap, τ = .own β e cap → OwnAt g' b w β e cap E sz := fun n cs hn e => by
            rcases tkCells_get 0 (specsL (sh.map tsOf)) n with ⟨q, E, sz, t, h1, h2, h3⟩ | ⟨h1, _⟩
            · rw [h3] at e
              obtain rfl := Option.some.inj e
              obtain ⟨τ, ht⟩ := HA.tot q E sz t h2
              refine ⟨E, sz, rfl, τ, by rw [h1]; exact ht, fun β e' cap et => ?_⟩
              subst et
              obtain ⟨_, q', E', sz', t', y1, y2, y3⟩ := HA.own _ 0 _ ht
              have : q' = q := by omega
              subst this
              rw [h2] at y1
              injection y1 with y1
              injection y1 with y1 y4
              injection y4 with y4 _
              subst y1; subst y4
              obtain ⟨m, v', u1, u2⟩ := y3 β e' cap rfl
              obtain ⟨τ2, u3, u4⟩ := hc.aliveAt (HA.mem _ u1)
              obtain rfl := Option.some.inj (u3.symm.trans u2)
              have O := u4 _ _ _ rfl
              exact ⟨⟨O.row, O.room, O.most, O.dark, fun m' em => O.mine m' (gsub m' β em)⟩, O.new⟩
            · rw [h1] at e; cases e
          have htm : ∀ n v τ, thc n v = some τ → v = 0 ∧ n % 2 = 1 ∧ ∃ E sz, memL (tkCells 0 (specsL (sh.map tsOf))) n = some [.tkt true 0 E sz] := fun n v τ e => by
            obtain ⟨h1, q, E, sz, t, h2, h3, _⟩ := HA.own n v τ e
            refine ⟨h1, by omega, ?_⟩
            rcases tkCells_get 0 (specsL (sh.map tsOf)) n with ⟨q', E', sz', t', k1, k2, k3⟩ | ⟨_, k2⟩
            · exact ⟨E', sz', k3⟩
            · exact absurd h3 (k2 q E sz t h2)
          have hblk : ∀ n cs, n % 2 = 0 → memL (zipM bl ((encAs 0 sh p').drop live.length) ++ tkCells 0 (specsL (sh.map tsOf))) n = some cs → n ∈ bl ∧ ∃ β vs ty, g.j n = some β ∧ w.heap[β]? = some (.cells vs ty (0, 0)) ∧ RepL g' cs vs.toList ∧ (∀ o, g.K β o = none) ∧ (b.M β ∨ b.w0.heap.size ≤ β) := fun n cs hn e => by
            rw [m2 n hn] at e
            by_cases hnb : n ∈ bl
            · refine ⟨hnb, ?_⟩
              obtain ⟨i, hi, ei⟩ := List.mem_iff_getElem.1 hnb
              have ei' : bl[i]? = some n := by rw [List.getElem?_eq_getElem hi, ei]
              obtain ⟨a1, q1, q2⟩ := z2 hnd i n ei'
              rw [q2] at e
              obtain rfl := Option.some.inj e
              rw [List.getElem?_drop] at q1
              obtain ⟨cs0, r1, r2⟩ := bb i n ei'
              have e0 : (as ++ bs)[live.length + i]? = some (.agg cs0) := by rw [List.getElem?_append_right (by omega), va, Nat.add_sub_cancel_left]; exact r1
              obtain ⟨a2, s1, s2, s3⟩ := henc _ _ e0
              obtain rfl := Option.some.inj (q1.symm.trans s1)
              obtain ⟨cs', rfl⟩ := s3 cs0 rfl
              obtain ⟨β, vs, ty, y1, y2, y3, y4, y5⟩ := (Classical.choose_spec (hvals (live.length + i)) _ e0).2.2 i n rfl ei'
              rw [y3] at s2
              obtain ⟨us', s4, s5⟩ := s2
              injection s4 with s4
              refine ⟨β, vs, ty, y1, y2, ?_, y4, y5⟩
              rw [s4]; exact s5
            · rw [z1 n hnb] at e; cases e
          refine ⟨g', ⟨fun u => ?_, hc.defers, hc.siz, hc.known, fun n cs hn e => ?_, fun n m β k1' k2' => hc.inj n m β (gsub n β k1') (gsub m β k2'), fun n e => ?_, fun n cs hn e => ?_, fun n v τ e => ?_, fun n m v v' E E' sz sz' β e e' cap cap' q1 q2 q3 q4 => ?_, hc.old, hc.new, fun n β e => ?_, hc.only, fun n v τ e ho => by have := (htm n v τ e).1; omega⟩⟩
          · rcases mkSt_fr live bl (encAs 0 sh p') u hlen with h | ⟨i, a1, h1, h2, h3⟩
            · show RepV g' (frL (mkSt live bl (encAs 0 sh p')).fr u) _
              rw [h]; trivial
            · show RepV g' (frL (mkSt live bl (encAs 0 sh p')).fr u) _
              rw [h3]
              have hi : i < live.length := (List.getElem?_eq_some_iff.1 h1).1
              have hai : (as ++ bs)[i]? = some (as ++ bs)[i] := List.getElem?_eq_getElem (by rw [List.length_append]; omega)
              obtain ⟨a2, s1, s2, _⟩ := henc i _ hai
              obtain rfl := Option.some.inj (h2.symm.trans s1)
              have := (Classical.choose_spec (hvals i) _ hai).2.1 u h1
              rw [this] at s2
              exact s2
          · obtain ⟨hnb, β, vs, ty, q1, q2, q3, q4, q5⟩ := hblk n cs hn e
            exact ⟨β, vs, ty, by rw [gin n hnb]; exact q1, q2, q3, q4, q5⟩
          · rcases e with e | e
            · refine gout n (fun hn => ?_)
              obtain ⟨i, hi, ei⟩ := List.mem_iff_getElem.1 hn
              obtain ⟨a1, q1, q2⟩ := z2 hnd i n (by rw [List.getElem?_eq_getElem hi, ei])
              rw [m2 n (hev n hn), q2] at e
              cases e
            · exact gout n (fun hn => by have := hev n hn; omega)
          · rw [m1 n hn] at e
            obtain ⟨E, sz, h1, τ, h2, h3⟩ := htk n cs hn e
            exact ⟨true, 0, E, sz, h1, fun _ => ⟨τ, h2, h3⟩⟩
          · obtain ⟨rfl, h2, E, sz, h3⟩ := htm n v τ e
            exact ⟨h2, true, 0, E, sz, by rw [m1 n h2]; exact h3, Nat.le_refl _⟩
          · obtain ⟨rfl, _⟩ := htm n v _ q3
            obtain ⟨rfl, _⟩ := htm m v' _ q4
            exact HA.inj n m β e e' cap cap' q3 q4
          · obtain ⟨i, hi, rfl⟩ := hb.2 n β e
            rw [gin _ (allIn_spec k2 _ (outs_spec hi))]
            exact hc.out _ _ e
      · cases h
    · cases h
  · cases h
end
/-- The ways out of a loop. -/
structure OutK (nOut : Nat) (θ : Type) where
  K0 : Ex → St → Option θ
  ends : ∀ {α : Type}, θ → (Ex → St → Option α) → Option α
  ok : ∀ {laid : List (Nat × Nat × Value)} {b : Base} {N : Nat} {g : Gh} {a : Act} {w : World} {ex : Ex} {s : St} {q : θ}, BaseOk laid nOut b → K0 ex s = some q → Con b N g (frL s.fr) (memL s.mem) a w →
    ∃ s' g', Con b N g' (frL s'.fr) (memL s'.mem) a w ∧ ∀ {α : Type} (K : Ex → St → Option α), ends q K = K ex s'
def exEq : Ex → Ex → Bool
  | .normal, .normal => true
  | .exit i, .exit j => Nat.beq i j
  | .ret, .ret => true
  | _, _ => false
theorem exEq_spec {e e' : Ex} (h : exEq e e' = true) : e = e' := by
  cases e <;> cases e' <;> first
    | rfl
    | (simp only [exEq] at h; rw [Nat.eq_of_beq_eq_true h])
    | cases h
def outOne (nOut : Nat) (e : Ex) (live bl : List Nat) (sh : List ShA) : OutK nOut (TAs sh) where
  K0 ex s := bif exEq ex e then headOk nOut live bl sh s else none
  ends q K := K e (stOf live bl sh q)
  ok {laid b N g a w ex s q} hb h hc := by
    cases he : exEq ex e with
    | false => simp only [he, cond_false] at h; cases h
    | true =>
      simp only [he, cond_true] at h
      obtain ⟨g', hc'⟩ := head_ok hb h hc
      obtain rfl := exEq_spec he
      exact ⟨_, g', hc', fun K => rfl⟩
def outTwo {nOut : Nat} {θ₁ θ₂ : Type} (A : OutK nOut θ₁) (B : OutK nOut θ₂) : OutK nOut (θ₁ ⊕ θ₂) where
  K0 ex s := match A.K0 ex s with
    | some q => some (.inl q)
    | none => match B.K0 ex s with
      | some q => some (.inr q)
      | none => none
  ends q K := match q with
    | .inl q => A.ends q K
    | .inr q => B.ends q K
  ok {laid b N g a w ex s q} hb h hc := by
    split at h
    · rename_i q' e
      obtain rfl := Option.some.inj h
      exact A.ok hb e hc
    · split at h
      · rename_i q' e
        obtain rfl := Option.some.inj h
        exact B.ok hb e hc
      · cases h
def loopSum {nOut : Nat} {θ : Type} (live bl : List Nat) (sh : List ShA) (O : OutK nOut θ) (F : TAs sh → Option θ) : LSum where
  run s K := match headOk nOut live bl sh s with
    | some p => (F p).bind fun q => O.ends q K
    | none => none
/-- What a loop's round must come to. -/
def roundK {nOut : Nat} {θ : Type} (live bl : List Nat) (sh : List ShA) (O : OutK nOut θ) (F : TAs sh → Option θ) : Ex → St → Option θ
  | .normal, s => match headOk nOut live bl sh s with
    | some p => F p
    | none => none
  | e, s => O.K0 e s
theorem loop_ok {P : Program} {laid : List (Nat × Nat × Value)} {X : Ctx} {N nOut : Nat} {θ : Type} {live bl : List Nat} {sh : List ShA} {O : OutK nOut θ} {body : Code} {cur : Nat} {lp : Nat → Option LSum} (hX : CtxOk P laid X) (F : Nat → TAs sh → Option θ)
    (h0 : ∀ p, F 0 p = none) (hs : ∀ n p, F (n + 1) p = exec X N lp body cur (roundK live bl sh O (F n)) (stOf live bl sh p))
    (hl : ∀ p ∈ loopsIn cur body, ∀ L, lp p.1 = some L → SegOk P laid nOut N p.2 L) (n : Nat) : SegOk P laid nOut N (.loop body) (loopSum live bl sh O (F n)) := by
  intro b hb α K s r h g a w hc
  have key : ∀ (n : Nat) (p : TAs sh) (q : θ) (g : Gh) (a : Act) (w : World), F n p = some q → Con b N g (frL (stOf live bl sh p).fr) (memL (stOf live bl sh p).mem) a w →
      Code.rounds P body (fun e a' w' => ∃ ex s' g', exm ex e ∧ Con b N g' (frL s'.fr) (memL s'.mem) a' w' ∧ O.K0 ex s' = some q) n a w := by
    intro n
    induction n with
    | zero => intro p q g a w h _; rw [h0] at h; cases h
    | succ n ih =>
      intro p q g a w h hc
      rw [hs] at h
      have hr := exec_ok hX hb body cur _ _ q h hl g a w hc
      refine wp_mono hr ?_
      rintro e a' w' ⟨ex, s', g', hm, hc', hK⟩
      cases ex with
      | normal =>
        cases e <;> first | exact hm.elim | skip
        simp only [roundK] at hK
        split at hK
        · rename_i p' e1
          obtain ⟨g2, hc2⟩ := head_ok hb e1 hc'
          exact ih p' q g2 a' w' hK hc2
        · cases hK
      | exit i =>
        cases e <;> first | exact hm.elim | skip
        exact ⟨.exit i, s', g', hm, hc', hK⟩
      | ret =>
        cases e <;> first | exact hm.elim | skip
        exact ⟨.ret, s', g', trivial, hc', hK⟩
  simp only [loopSum] at h
  split at h
  · rename_i p e1
    cases hF : F n p with
    | none => rw [hF] at h; cases h
    | some q =>
      rw [hF] at h
      simp only [Option.bind_some] at h
      obtain ⟨g2, hc2⟩ := head_ok hb e1 hc
      refine wp_mono (wp_loop_rounds n (key n p q g2 a w hF hc2)) ?_
      rintro e a' w' ⟨ex, s', g', hm, hc', hK⟩
      obtain ⟨s2, g3, hc3, hE⟩ := O.ok hb hK hc'
      exact ⟨ex, s2, g3, hm, hc3, (hE K).symm.trans h⟩
  · cases h
/-- A piece of code by itself. -/
theorem seg_ok {P : Program} {laid : List (Nat × Nat × Value)} {X : Ctx} {N nOut : Nat} {θ : Type} {live bl : List Nat} {sh : List ShA} {O : OutK nOut θ} {body : Code} {cur : Nat} {lp : Nat → Option LSum} (hX : CtxOk P laid X) (F : TAs sh → Option θ)
    (hs : ∀ p, F p = exec X N lp body cur O.K0 (stOf live bl sh p))
    (hl : ∀ p ∈ loopsIn cur body, ∀ L, lp p.1 = some L → SegOk P laid nOut N p.2 L) : SegOk P laid nOut N body (loopSum live bl sh O F) := by
  intro b hb α K s r h g a w hc
  simp only [loopSum] at h
  split at h
  · rename_i p e1
    cases hF : F p with
    | none => rw [hF] at h; cases h
    | some q =>
      rw [hF] at h
      simp only [Option.bind_some] at h
      obtain ⟨g2, hc2⟩ := head_ok hb e1 hc
      rw [hs] at hF
      refine wp_mono (exec_ok hX hb body cur _ _ q hF hl g2 a w hc2) ?_
      rintro e a' w' ⟨ex, s', g', hm, hc', hK⟩
      obtain ⟨s2, g3, hc3, hE⟩ := O.ok hb hK hc'
      exact ⟨ex, s2, g3, hm, hc3, (hE K).symm.trans h⟩
  · cases h
end Go.Proofs.YtmdnnlfoljdfpaaDoor.Mir
