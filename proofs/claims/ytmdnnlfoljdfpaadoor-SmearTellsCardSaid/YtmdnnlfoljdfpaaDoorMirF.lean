/- The mirror's operations are right: literals of structs, calls. Nothing here names the program. -/
import Derived.Test.YtmdnnlfoljdfpaaDoorMirE
namespace Go.Proofs.YtmdnnlfoljdfpaaDoor.Mir
open Go Go.RowKit

section
variable {P : Program} {w : World} {g : Gh} {d : Delta} {X : Ctx}
def szF (P : Program) (f : Field) : Nat := ((P.info? f.type).map (·.size)).getD 0
theorem run_places_list : ∀ (fs : List Field), (∀ f ∈ fs, (P.info? f.type).isSome = true) →
    (fs.mapM (fun f => (do pure (f.offset, ← sizeOf f.type) : Sem (Nat × Nat)))).run P w = .ok (fs.map fun f => (f.offset, szF P f)) w
  | [], _ => rfl
  | f :: fs, h => by
    have h1 := h f (by simp)
    obtain ⟨i, hi⟩ := Option.isSome_iff_exists.1 h1
    have ih := run_places_list fs (fun q hq => h q (by simp [hq]))
    simp only [List.mapM_cons, Sem.run_bind, sizeOf, typeInfo, run_program, Result.andThen_ok, hi, Sem.run_pure] at ih ⊢
    rw [ih]
    simp [szF, hi]
theorem run_places (fs : Array Field) (h : ∀ f ∈ fs.toList, (P.info? f.type).isSome = true) :
    (fs.mapM (fun f => (do pure (f.offset, ← sizeOf f.type) : Sem (Nat × Nat)))).run P w = .ok (fs.map fun f => (f.offset, szF P f)) w := by
  rw [Array.mapM_eq_mapM_toList, Sem.run_map, run_places_list _ h]
  simp only [Result.andThen_ok]
  congr 1
  apply Array.ext'
  simp
theorem fold_list : ∀ (v : List Value) (k off : Nat) (cs : Array Value), off + k + v.length ≤ cs.size →
    ((v.zipIdx k).foldl (fun cs p => cs.setIfInBounds (off + p.2) p.1) cs).toList = cs.toList.take (off + k) ++ v ++ cs.toList.drop (off + k + v.length)
  | [], k, off, cs, _ => by simp
  | x :: v, k, off, cs, h => by
    simp only [List.length_cons] at h
    rw [List.zipIdx_cons, List.foldl_cons, fold_list v (k + 1) off _ (by simp; omega)]
    have e := list_seg_step cs.toList (off + k) x v (by simp; omega)
    simpa [Array.toList_setIfInBounds, Nat.add_assoc] using e
theorem fold_set (v cs : Array Value) (off : Nat) (h : off + v.size ≤ cs.size) :
    v.zipIdx.foldl (fun cs (c, j) => cs.setIfInBounds (off + j) c) cs = (cs.toList.take off ++ v.toList ++ cs.toList.drop (off + v.size)).toArray := by
  apply Array.ext'
  have := fold_list v.toList 0 off cs (by simpa using h)
  rw [← Array.foldl_toList, Array.toList_zipIdx]
  simpa using this
/-- Parts by their values. -/
def RepPs (g : Gh) : List (Nat × V) → List (Nat × Value) → Prop
  | [], qs => qs = []
  | (j, v) :: ps, qs => ∃ x r, qs = (j, x) :: r ∧ RepV g v x ∧ RepPs g ps r
theorem build_go (hT : TyOk P X.ty) {fs : Array Field} : ∀ {ps : List (Nat × V)} {qs : List (Nat × Value)} {cs : List C} {vs : Array Value}, RepL g cs vs.toList → RepPs g ps qs → (pbuild.go X fs cs ps).run some = some d →
    ∃ us : Array Value, Instr.fill ((fs.map fun f => (f.offset, szF P f))[·]?) vs qs = some us ∧ RepV g d.v (.agg us) ∧ d.wr = []
  | [], qs, cs, vs, hr, hp, h => by
    simp only [RepPs] at hp
    subst hp
    obtain rfl := (Option.some.inj h).symm
    exact ⟨vs, rfl, ⟨vs.toList, by simp, hr⟩, rfl⟩
  | (_, .tup _) :: _, _, _, _, _, _, h => (no_inv h).elim
  | (i, .a y) :: ps, qs, cs, vs, hr, hp, h => by
    obtain ⟨x, r, rfl, hx, hp⟩ := hp
    unfold pbuild.go at h
    split at h
    · exact (no_inv h).elim
    · rename_i fd e1
      split at h
      · exact (no_inv h).elim
      · rename_i ti e2
        cases hok : (okA y && Nat.beq (widL (cellsA y)) ti.size) with
        | false => rw [hok] at h; exact (no_inv h).elim
        | true =>
          rw [hok] at h
          simp only [Bool.and_eq_true] at hok
          simp only [cond_true] at h
          split at h
          · exact (no_inv h).elim
          · rename_i es e3
            have hcr := cells_rep hok.1 hx
            have hw := Nat.eq_of_beq_eq_true hok.2
            have hl := hcr.length
            obtain ⟨k1, k2⟩ := hr.putC hcr e3
            have hsz : x.cells.size = ti.size := by rw [← hw, ← hl]; simp
            obtain ⟨f, z, q1, q2, _⟩ := hT.inf _ _ e2
            have hpl : (fs.map fun f => (f.offset, szF P f))[i]? = some (fd.offset, ti.size) := by simp [e1, szF, q1, q2]
            have hle : fd.offset + x.cells.size ≤ vs.size := by simpa using k1
            obtain ⟨us, r1, r2⟩ := build_go hT (vs := (vs.toList.take fd.offset ++ x.cells.toList ++ vs.toList.drop (fd.offset + x.cells.size)).toArray) (by simpa using k2) hp h
            refine ⟨us, ?_, r2⟩
            unfold Instr.fill
            rw [hpl]
            simp only
            rw [if_neg (by simp only [hsz, ne_eq, not_true, Bool.or_eq_true, decide_eq_true_eq, false_or]; omega), fold_set _ _ _ hle]
            exact r1
theorem build_arr {k : IntKind} {n : Nat} : ∀ {ps : List (Nat × V)} {qs : List (Nat × Value)} {xs : List Int}, xs.length = n → RepPs g ps qs → (pbuildArr k n xs ps).run some = some d →
    ∃ ys : List Int, Instr.fill (fun i => some (i * 1, 1)) (xs.map (Value.int k)).toArray qs = some (ys.map (Value.int k)).toArray ∧ RepV g d.v (.agg (ys.map (Value.int k)).toArray) ∧ d.wr = []
  | [], qs, xs, hx, hp, h => by
    simp only [RepPs] at hp
    subst hp
    obtain rfl := (Option.some.inj h).symm
    exact ⟨xs, rfl, ⟨_, rfl, ⟨[], hx, by simp, rfl⟩⟩, rfl⟩
  | (i, v) :: ps, qs, xs, hx, hp, h => by
    obtain ⟨x, r, rfl, hv, hp⟩ := hp
    unfold pbuildArr at h
    split at h
    · rename_i e; cases e
    · rename_i i' k' z r' e
      injection e with e1 e2
      injection e1 with e3 e4
      subst e3; subst e4; subst e2
      obtain rfl : x = _ := hv
      cases hk : (decide (k = k') && Nat.blt i n) with
      | false => rw [hk] at h; exact (no_inv h).elim
      | true =>
        rw [hk] at h
        simp only [Bool.and_eq_true] at hk
        obtain rfl := of_decide_eq_true hk.1
        have hi : i < n := by simpa using hk.2
        obtain ⟨ys, h1, h2⟩ := build_arr (xs := xs.set i z) (by simpa using hx) hp h
        refine ⟨ys, ?_, h2⟩
        unfold Instr.fill
        simp only [Nat.mul_one]
        have : (Value.int k z).cells = #[Value.int k z] := rfl
        rw [if_neg (by rw [this]; simp; omega), this]
        have e5 : (#[Value.int k z].zipIdx.foldl (fun cs (c, j) => cs.setIfInBounds (i + j) c) (xs.map (Value.int k)).toArray) = ((xs.set i z).map (Value.int k)).toArray := by
          rw [List.map_set]
          apply Array.ext'
          simp
        rw [e5]
        simpa using h1
    · exact (no_inv h).elim
theorem pbuild_ok (hT : TyOk P X.ty) {t : TypeId} {ps : List (Nat × V)} {qs : Array (Nat × Value)} (hp : RepPs g ps qs.toList) (h : (pbuild X t ps).run some = some d) : Pure P w g d (Instr.build t qs) := by
  unfold pbuild at h
  split at h
  · rename_i fs sz by_ z _ e1
    obtain ⟨v, h1, h2⟩ := run_zero hT e1 w
    obtain ⟨us, k1, k2, k3⟩ := build_go hT (rep_conc g h2) hp h
    refine ⟨.agg us, ?_, k2, k3⟩
    have hu := hT.und _ _ e1
    simp only [Instr.build, Sem.run_bind, h1, Result.andThen_ok, run_underlying hu, run_places _ (hT.fields _ _ _ e1 rfl), k1, Sem.run_pure]
  · rename_i n e sz by_ z _ e1
    split at h
    · rename_i _ _ k _ _ _ k' m xs e2
      cases hk : (decide (k = k') && Nat.beq n m) with
      | false => rw [hk] at h; exact (no_inv h).elim
      | true =>
        rw [hk] at h
        simp only [Bool.and_eq_true] at hk
        obtain rfl := of_decide_eq_true hk.1
        obtain rfl := Nat.eq_of_beq_eq_true hk.2
        obtain ⟨v, h1, h2⟩ := run_zero hT e1 w
        obtain ⟨r, q1, q2, q3⟩ := rep_conc g h2
        simp only [RepL] at q3
        subst q3
        obtain ⟨ys, k1, k2, k3⟩ := build_arr q1 hp h
        refine ⟨_, ?_, k2, k3⟩
        have hu := hT.und _ _ e1
        have hc : v.cells = (xs.map (Value.int k)).toArray := by
          apply Array.ext'; simpa using q2
        simp only [Instr.build, Sem.run_bind, h1, Result.andThen_ok, run_underlying hu, run_sizeOf hT e2, hc, k1, Sem.run_pure]
    · exact (no_inv h).elim
  · exact (no_inv h).elim
theorem evps_ok {fr : Nat → V} {a : Act} (hr : ∀ x, RepV g (ev fr x) (a.eval x)) : ∀ l : List (Nat × Operand), RepPs g (evps fr l) (l.map fun p => (p.1, a.eval p.2))
  | [] => rfl
  | (_, x) :: l => ⟨a.eval x, _, rfl, hr x, evps_ok hr l⟩
end

/-! ### calls -/
theorem hasN_iff {n : Nat} : ∀ {l : List Nat}, hasN n l = true ↔ n ∈ l
  | [] => by simp [hasN]
  | m :: r => by
    unfold hasN
    cases hb : Nat.beq n m with
    | true => simp [Nat.eq_of_beq_eq_true hb]
    | false =>
      have : n ≠ m := fun e => by subst e; simp at hb
      simp [this, hasN_iff]
theorem dedup_spec : ∀ (l acc : List Nat), acc.Nodup → (dedup l acc).Nodup ∧ ∀ n, n ∈ dedup l acc ↔ n ∈ l ∨ n ∈ acc
  | [], acc, h => ⟨h, fun n => by simp [dedup]⟩
  | m :: l, acc, h => by
    unfold dedup
    cases hb : hasN m acc with
    | true =>
      have hm := hasN_iff.1 hb
      obtain ⟨k1, k2⟩ := dedup_spec l acc h
      refine ⟨k1, fun n => ?_⟩
      simp only [cond_true, k2, List.mem_cons]
      constructor
      · rintro (h | h) <;> simp [h]
      · rintro ((rfl | h) | h) <;> simp [*]
    | false =>
      have hm : m ∉ acc := fun e => by rw [hasN_iff.2 e] at hb; cases hb
      obtain ⟨k1, k2⟩ := dedup_spec l (acc ++ [m]) (by
        rw [List.nodup_append]
        exact ⟨h, by simp, fun a ha b hb => by simp at hb; subst hb; exact fun e => hm (e ▸ ha)⟩)
      refine ⟨k1, fun n => ?_⟩
      simp only [cond_false, k2, List.mem_cons, List.mem_append, List.not_mem_nil, or_false]
      constructor
      · rintro (h | h | h) <;> simp [h]
      · rintro ((h | h) | h) <;> simp [h]
theorem idxN_spec {n : Nat} : ∀ {l : List Nat}, n ∈ l → l[idxN n l]? = some n
  | [], h => by cases h
  | m :: r, h => by
    unfold idxN
    cases hb : Nat.beq n m with
    | true => simp [Nat.eq_of_beq_eq_true hb]
    | false =>
      have hne : n ≠ m := fun e => by subst e; simp at hb
      have : n ∈ r := by simpa [hne] using h
      simpa using idxN_spec this
section
variable {g1 g2 : Gh} {f : Nat → Nat} {h : Nat → Option (Nat × Nat)}
theorem ren_repC (hK : ∀ β o v, g1.K β o = some v → g2.K β o = some v) (ht : ∀ n v n' v' τ, h n = some (n', v') → g1.th n v = some τ → g2.th n' v' = some τ) {c : C} {x : Value} (hj : ∀ n ∈ nameC c, ∀ β, g1.j n = some β → g2.j (f n) = some β) (hx : RepC g1 c x) : RepC g2 (renC f h c) x := by
  cases c with
  | ptr n o => obtain ⟨β, h1, h2⟩ := hx; exact ⟨β, hj n (by simp [nameC]) _ h1, h2⟩
  | pel n o l i => obtain ⟨β, h1, h2⟩ := hx; exact ⟨β, hj n (by simp [nameC]) _ h1, h2⟩
  | ifp t n o => obtain ⟨β, h1, h2⟩ := hx; exact ⟨β, hj n (by simp [nameC]) _ h1, h2⟩
  | kpd l y off => obtain ⟨β, o, us, h1, h2, h3⟩ := hx; exact ⟨β, o, us, h1, h2.mono hK, fun j u e => hK _ _ _ (h3 j u e)⟩
  | sl tk l xs =>
    refine ⟨hx.1.mono hK (fun x us => RepSL.mono hK), fun n' v' e => ?_⟩
    cases tk with
    | none => cases e
    | some p =>
      obtain ⟨n, v⟩ := p
      obtain ⟨τ, h1, h2⟩ := hx.2 n v rfl
      exact ⟨τ, ht n v n' v' τ e h1, h2⟩
  | junk => trivial
  | lit v => exact hx
  | err t e => exact hx
  | arr k n xs => exact hx.elim
  | tkt => exact hx.elim
theorem ren_repL (hK : ∀ β o v, g1.K β o = some v → g2.K β o = some v) (ht : ∀ n v n' v' τ, h n = some (n', v') → g1.th n v = some τ → g2.th n' v' = some τ) : ∀ {cs : List C} {vs : List Value}, (∀ n ∈ nameL cs, ∀ β, g1.j n = some β → g2.j (f n) = some β) → RepL g1 cs vs → RepL g2 (renL f h cs) vs
  | [], _, _, h => h
  | c :: cs, vs, hj, hx => by
    obtain ⟨xs, r, rfl, _, h2, h3⟩ := hx.cons
    have ih := ren_repL hK ht (fun n hn => hj n (by simp [nameL, hn])) h3
    refine RepL.mk ?_ ih
    cases ha : isArr c with
    | false =>
      obtain ⟨y, rfl, hy⟩ := repl_one ha h2
      exact one_repl (ren_repC hK ht (fun n hn => hj n (by simp [nameL, hn])) hy)
    | true =>
      cases c with
      | arr k n xs => exact h2
      | _ => cases ha
theorem ren_repA (hK : ∀ β o v, g1.K β o = some v → g2.K β o = some v) (ht : ∀ n v n' v' τ, h n = some (n', v') → g1.th n v = some τ → g2.th n' v' = some τ) {a : A} {x : Value} (hj : ∀ n ∈ nameA a, ∀ β, g1.j n = some β → g2.j (f n) = some β) (hx : RepA g1 a x) : RepA g2 (renA f h a) x := by
  cases a with
  | one c => exact ren_repC hK ht hj hx
  | agg cs => obtain ⟨vs, h1, h2⟩ := hx; exact ⟨vs, h1, ren_repL hK ht hj h2⟩
theorem ren_repAs (hK : ∀ β o v, g1.K β o = some v → g2.K β o = some v) (ht : ∀ n v n' v' τ, h n = some (n', v') → g1.th n v = some τ → g2.th n' v' = some τ) : ∀ {as : List A} {vs : List Value}, (∀ n ∈ nameAs as, ∀ β, g1.j n = some β → g2.j (f n) = some β) → RepAs g1 as vs → RepAs g2 (renAs f h as) vs
  | [], _, _, h => h
  | a :: as, _, hj, ⟨x, r, h1, h2, h3⟩ => ⟨x, r, h1, ren_repA hK ht (fun n hn => hj n (by simp [nameAs, hn])) h2, ren_repAs hK ht (fun n hn => hj n (by simp [nameAs, hn])) h3⟩
theorem ren_repV (hK : ∀ β o v, g1.K β o = some v → g2.K β o = some v) (ht : ∀ n v n' v' τ, h n = some (n', v') → g1.th n v = some τ → g2.th n' v' = some τ) {v : V} {x : Value} (hj : ∀ n β, g1.j n = some β → g2.j (f n) = some β) (hx : RepV g1 v x) : RepV g2 (renV f h v) x := by
  cases v with
  | a y => exact ren_repA hK ht (fun n _ => hj n) hx
  | tup l => obtain ⟨vs, h1, h2⟩ := hx; exact ⟨vs, h1, ren_repAs hK ht (fun n _ => hj n) h2⟩
theorem noTk_ok {g1 g2 : Gh} : ∀ n v n' v' τ, noTk n = some (n', v') → g1.th n v = some τ → g2.th n' v' = some τ := fun _ _ _ _ _ e => by cases e
theorem names_C {g : Gh} {c : C} {x : Value} (hx : RepC g c x) : ∀ n ∈ nameC c, ∃ β, g.j n = some β := by
  intro n hn
  cases c <;> simp only [nameC, List.mem_singleton, List.not_mem_nil] at hn <;> subst hn <;> (obtain ⟨β, h1, _⟩ := hx; exact ⟨β, h1⟩)
theorem names_L {g : Gh} : ∀ {cs : List C} {vs : List Value}, RepL g cs vs → ∀ n ∈ nameL cs, ∃ β, g.j n = some β
  | [], _, _, n, hn => by cases hn
  | c :: cs, vs, hx, n, hn => by
    obtain ⟨xs, r, rfl, _, h2, h3⟩ := hx.cons
    rcases List.mem_append.1 hn with hn | hn
    · cases ha : isArr c with
      | false =>
        obtain ⟨y, rfl, hy⟩ := repl_one ha h2
        exact names_C hy n hn
      | true =>
        cases c with
        | arr k n xs => cases hn
        | _ => cases ha
    · exact names_L h3 n hn
theorem names_A {g : Gh} {a : A} {x : Value} (hx : RepA g a x) : ∀ n ∈ nameA a, ∃ β, g.j n = some β := by
  cases a with
  | one c => exact names_C hx
  | agg cs => obtain ⟨vs, h1, h2⟩ := hx; exact names_L h2
theorem names_As {g : Gh} : ∀ {as : List A} {vs : List Value}, RepAs g as vs → ∀ n ∈ nameAs as, ∃ β, g.j n = some β
  | [], _, _, n, hn => by cases hn
  | a :: as, _, ⟨x, r, h1, h2, h3⟩, n, hn => by
    rcases List.mem_append.1 hn with hn | hn
    · exact names_A h2 n hn
    · exact names_As h3 n hn
end
/-- Blocks that were handed over, by their places. -/
structure Blks (g : Gh) (w : World) (bs : List (List C)) : Prop where
  blk : ∀ i cs, bs[i]? = some cs → ∃ β vs ty, g.j (2 * i) = some β ∧ w.heap[β]? = some (.cells vs ty (0, 0)) ∧ RepL g cs vs.toList ∧ ∀ o, g.K β o = none
  inj : ∀ i k β, g.j (2 * i) = some β → g.j (2 * k) = some β → i = k
  dom : ∀ n β, g.j n = some β → ∃ i, n = 2 * i ∧ i < bs.length
def Knows (g : Gh) (w : World) : Prop := ∀ β o v, g.K β o = some v → w.cell? ⟨β, o, none⟩ = some v
/-- What lies in the laid variables. -/
def Laid (l : List (Nat × Nat × Value)) (K : Nat → Nat → Option Value) : Prop := ∀ p ∈ l, K p.1 p.2.1 = some p.2.2
def Invokes (P : Program) (f : FuncId) (vs : Array Value) (w : World) (R : Value → World → Prop) : Prop :=
  match (callFunc f vs).run P w with
  | .ok (.value v) w' => R v w'
  | .ok (.enter f' args) w' => Calls P f' args w' fun e w'' => ∃ v, e = .returned v ∧ R v w''
  | _ => False
/-- Tickets by their places. -/
structure TksAt (g : Gh) (w : World) (q : Nat → Option (Nat × Nat)) : Prop where
  tot : ∀ p E sz, q p = some (E, sz) → ∃ τ, g.th (2 * p + 1) 0 = some τ ∧ ∀ β e cap, τ = .own β e cap → OwnIn g w β e cap E sz
  inj : ∀ n m β e e' cap cap', g.th n 0 = some (.own β e cap) → g.th m 0 = some (.own β e' cap') → n = m
  dom : ∀ n v τ, g.th n v = some τ → v = 0 ∧ ∃ p E sz, n = 2 * p + 1 ∧ q p = some (E, sz)
def tinQ (l : List Tks) (p : Nat) : Option (Nat × Nat) := ((specsL l)[p]?).map fun t => (t.1, t.2.1)
def Handed (g : Gh) (β : Nat) : Prop := ∃ n e cap, g.th n 0 = some (.own β e cap)
structure Ends (S : Sum) (as : List A) (bs : List (List C)) (r : S.ρ) (g : Gh) (w : World) (v : Value) (w' : World) (g' : Gh) : Prop where
  K : ∀ β o v, g.K β o = some v → g'.K β o = some v
  new : ∀ β o v, g'.K β o = some v → g.K β o = some v ∨ Handed g β ∨ w.heap.size ≤ β
  known : Knows g' w'
  rep : RepV g' (S.out as bs r).1 v
  blks : Blks g' w' (S.out as bs r).2
  more : bs.length ≤ (S.out as bs r).2.length
  j : ∀ i, i < bs.length → g'.j (2 * i) = g.j (2 * i)
  fresh : ∀ i β, bs.length ≤ i → g'.j (2 * i) = some β → w.heap.size ≤ β
  tks : TksAt g' w' (fun i => S.tks[i]?)
  tnew : ∀ β, Handed g' β → Handed g β ∨ w.heap.size ≤ β
  only : Only (fun β => (∃ i, i < bs.length ∧ g.j (2 * i) = some β) ∨ Handed g β) w w'
def SumOk (P : Program) (laid : List (Nat × Nat × Value)) (f : FuncId) (S : Sum) : Prop :=
  ∀ (as : List A) (bs : List (List C)) (r : S.ρ), S.run as bs = some r → ∀ (g : Gh) (w : World) (vs : List Value), Laid laid g.K → Knows g w → RepAs g as vs → Blks g w bs → TksAt g w (tinQ S.tin) →
    Invokes P f vs.toArray w fun v w' => ∃ g', Ends S as bs r g w v w' g'
section
variable {P : Program} {b : Base} {N : Nat} {g : Gh} {fr : Nat → V} {mem : Nat → Option (List C)} {a : Act} {w : World} {d : Delta} {X : Ctx} {o : Oper} {Q : Exit → Act → World → Prop}
theorem blksOf_spec : ∀ {ns : List Nat} {bs : List A}, blksOf mem ns = some bs → bs.length = ns.length ∧ ∀ i n : Nat, ns[i]? = some n → ∃ cs, mem n = some cs ∧ nameL cs = [] ∧ bs[i]? = some (.agg cs)
  | [], bs, h => by
    obtain rfl := (Option.some.inj h).symm
    exact ⟨rfl, fun i n e => by simp at e⟩
  | n :: ns, bs, h => by
    unfold blksOf at h
    split at h
    · rename_i cs l e1 e2
      split at h
      · rename_i e3
        obtain rfl := (Option.some.inj h).symm
        obtain ⟨h1, h2⟩ := blksOf_spec e2
        refine ⟨by simp [h1], fun i m e => ?_⟩
        cases i with
        | zero => simp at e; subst e; exact ⟨cs, e1, e3, rfl⟩
        | succ i => simp at e; simpa using h2 i m e
      · cases h
    · cases h
theorem asAs_spec : ∀ {vs : List V} {as : List A} {xs : List Value}, asAs vs = some as → (∀ (i : Nat) v, vs[i]? = some v → ∃ x, xs[i]? = some x ∧ RepV g v x) → vs.length = xs.length → RepAs g as xs
  | [], as, xs, h, _, hl => by
    obtain rfl := (Option.some.inj h).symm
    exact List.eq_nil_of_length_eq_zero hl.symm
  | .tup _ :: _, _, _, h, _, _ => by cases h
  | .a y :: vs, as, xs, h, hr, hl => by
    unfold asAs at h
    split at h
    · rename_i l e
      obtain rfl := (Option.some.inj h).symm
      cases xs with
      | nil => simp at hl
      | cons x xs =>
        obtain ⟨x', e1, e2⟩ := hr 0 _ rfl
        simp at e1
        subst e1
        exact ⟨x, xs, rfl, e2, asAs_spec e (fun i v hi => by simpa using hr (i + 1) v (by simpa using hi)) (by simpa using hl)⟩
    · cases h
theorem evs_spec (hr : ∀ x, RepV g (ev fr x) (a.eval x)) : ∀ l : List Operand, (∀ (i : Nat) v, (evs fr l)[i]? = some v → ∃ x, (l.map a.eval)[i]? = some x ∧ RepV g v x) ∧ (evs fr l).length = (l.map a.eval).length
  | [] => ⟨fun i v h => by simp [evs] at h, rfl⟩
  | x :: l => by
    obtain ⟨h1, h2⟩ := evs_spec hr l
    refine ⟨fun i v h => ?_, by simp [evs] at h2 ⊢; exact h2⟩
    cases i with
    | zero => simp [evs] at h; subst h; exact ⟨a.eval x, rfl, hr x⟩
    | succ i => simp [evs] at h; simpa using h1 i v h
theorem newNames_get (dd : Nat) : ∀ (m k i : Nat), i < m → (newNames dd k m)[i]? = some (own dd (k + i))
  | 0, _, _, h => by omega
  | m + 1, k, 0, _ => by simp [newNames]
  | m + 1, k, i + 1, h => by
    simp only [newNames, List.getElem?_cons_succ]
    rw [newNames_get dd m (k + 1) i (by omega)]
    congr 2; omega
theorem newNames_len (dd : Nat) : ∀ (m k : Nat), (newNames dd k m).length = m
  | 0, _ => rfl
  | m + 1, k => by simp [newNames, newNames_len dd m]
theorem noneAt_spec : ∀ {l : List Nat}, noneAt mem l = true → ∀ n ∈ l, mem n = none
  | [], _, n, h => by cases h
  | m :: r, h, n, hn => by
    unfold noneAt at h
    split at h
    · rename_i e
      rcases List.mem_cons.1 hn with rfl | hn
      · exact e
      · exact noneAt_spec h n hn
    · cases h
theorem over_none {wr : List (Nat × List C)} {n : Nat} (h : ∀ p ∈ wr, p.1 ≠ n) : over wr mem n = mem n := by
  induction wr with
  | nil => rfl
  | cons p r ih =>
    obtain ⟨m, cs⟩ := p
    unfold over
    have : Nat.beq n m = false := by cases hb : Nat.beq n m with | false => rfl | true => exact absurd (Nat.eq_of_beq_eq_true hb).symm (h (m, cs) (by simp))
    rw [this]
    exact ih (fun q hq => h q (by simp [hq]))
theorem zipN_names (q : Nat → Nat) {ht : Nat → Option (Nat × Nat)} : ∀ {ns : List Nat} {bs : List (List C)}, ns.length = bs.length → (zipN q ht ns bs).map (·.1) = ns
  | [], [], _ => rfl
  | n :: ns, b :: bs, h => by simp [zipN, zipN_names q (by simpa using h)]
theorem over_zipN (q : Nat → Nat) {ht : Nat → Option (Nat × Nat)} : ∀ {ns : List Nat} {bs : List (List C)} {i n : Nat} {cs : List C}, ns.Nodup → ns[i]? = some n → bs[i]? = some cs → over (zipN q ht ns bs) mem n = some (renL q ht cs)
  | [], _, i, n, cs, _, h, _ => by simp at h
  | m :: ns, [], i, n, cs, _, _, h => by simp at h
  | m :: ns, b :: bs, 0, n, cs, _, h1, h2 => by simp at h1 h2; subst h1; subst h2; simp [zipN, over]
  | m :: ns, b :: bs, i + 1, n, cs, hd, h1, h2 => by
    simp at h1 h2
    rw [List.nodup_cons] at hd
    have : Nat.beq n m = false := by
      cases hb : Nat.beq n m with
      | false => rfl
      | true => exact absurd (Nat.eq_of_beq_eq_true hb ▸ List.mem_of_getElem? h1) hd.1
    simp only [zipN, over, this, cond_false]
    exact over_zipN q hd.2 h1 h2
theorem over_cases (q : Nat → Nat) {ht : Nat → Option (Nat × Nat)} {ns : List Nat} {bs : List (List C)} {n : Nat} (hl : ns.length = bs.length) (hd : ns.Nodup) :
    (∃ (i : Nat) (cs : List C), ns[i]? = some n ∧ bs[i]? = some cs ∧ over (zipN q ht ns bs) mem n = some (renL q ht cs)) ∨ (n ∉ ns ∧ over (zipN q ht ns bs) mem n = mem n) := by
  by_cases hn : n ∈ ns
  · obtain ⟨i, hi, e⟩ := List.mem_iff_getElem.1 hn
    have e' : ns[i]? = some n := by rw [List.getElem?_eq_getElem hi, e]
    have hb : bs[i]? = some bs[i] := List.getElem?_eq_getElem (by omega)
    exact .inl ⟨i, _, e', hb, over_zipN q hd e' hb⟩
  · refine .inr ⟨hn, over_none fun p hp e => hn ?_⟩
    have := zipN_names q (ht := ht) hl
    rw [← this, ← e]
    exact List.mem_map_of_mem hp
theorem own_inj {dd k k' : Nat} (h : own dd k = own dd k') : k = k' := by unfold own at h; omega
end
end Go.Proofs.YtmdnnlfoljdfpaaDoor.Mir
