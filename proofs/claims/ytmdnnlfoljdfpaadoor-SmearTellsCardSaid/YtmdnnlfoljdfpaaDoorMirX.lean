/- The mirror: functions whose contracts are proved elsewhere. Nothing here names the program. -/
import Derived.Test.YtmdnnlfoljdfpaaDoorMirN
namespace Go.Proofs.YtmdnnlfoljdfpaaDoor.Mir
open Go Go.RowKit

theorem Only.of_below {w w' : World} {M : Nat → Prop} (h : Below w.heap.size w w') : Only M w w' := ⟨h.os, h.tape, h.output, h.size, fun k hk _ => h.block k hk⟩
theorem noTks {g : Gh} (hg : ∀ n v, g.th n v = none) {w : World} {q : Nat → Option (Nat × Nat)} (hq : ∀ p, q p = none) : TksAt g w q :=
  ⟨fun p E sz e => (by rw [hq p] at e; cases e), fun n m β e e' cap cap' h => (by rw [hg] at h; cases h), fun n v τ h => (by rw [hg] at h; cases h)⟩
/-- A contract in plain values, as a summary. -/
theorem bridge {P : Program} {laid : List (Nat × Nat × Value)} {f : FuncId} {n nr : Nat} {PS RS : List ShA} {F : TAs PS → Option (TAs RS)} (htk : tksOf RS = []) (hRS : ∀ r, (encAs 0 RS r).drop nr = [])
    (h : ∀ p r, F p = some r → ∀ (g : Gh) (w : World) (vs : List Value), (∀ q ∈ laid, w.cell? ⟨q.1, q.2.1, none⟩ = some q.2.2) → RepAs g (encAs 0 PS p) vs →
      Invokes P f vs.toArray w fun v w' => RepV { K := g.K, j := fun _ => none, th := fun _ _ => none } (retV nr (encAs 0 RS r)) v ∧ Below w.heap.size w w') : SumOk P laid f (fnSum n 0 nr PS RS F) := by
  intro as bs r hr g w vs hlaid hknown hA hB hTk
  simp only [fnSum] at hr
  cases hk : (Nat.beq as.length n && Nat.beq bs.length 0) with
  | false => rw [hk] at hr; cases hr
  | true =>
    rw [hk] at hr
    simp only [cond_true] at hr
    simp only [Bool.and_eq_true] at hk
    obtain rfl : bs = [] := List.eq_nil_of_length_eq_zero (Nat.eq_of_beq_eq_true hk.2)
    split at hr
    · rename_i p ep
      have hA' : RepAs g (encAs 0 PS p) vs := by
        obtain ⟨d1, d2⟩ := decAs_get ep
        simp only [List.map_nil, List.append_nil] at d1 d2
        refine RepAs.mk (by rw [d1]; exact hA.len) (fun i a e => ?_)
        have hi : i < as.length := by rw [← d1]; exact (List.getElem?_eq_some_iff.1 e).1
        obtain ⟨x, h1, h2⟩ := hA.get (List.getElem?_eq_getElem hi)
        obtain ⟨a', h3, h4, _⟩ := d2 i _ (List.getElem?_eq_getElem hi)
        obtain rfl := Option.some.inj (e.symm.trans h3)
        exact ⟨x, h1, h4 g x h2⟩
      have hI := h p r hr g w vs (fun q hq => hknown _ _ _ (hlaid q hq)) hA'
      have fin : ∀ v w', RepV { K := g.K, j := fun _ => none, th := fun _ _ => none } (retV nr (encAs 0 RS r)) v ∧ Below w.heap.size w w' → ∃ g', Ends (fnSum n 0 nr PS RS F) as [] r g w v w' g' := by
        rintro v w' ⟨h1, h2⟩
        have ho : ((fnSum n 0 nr PS RS F).out as [] r).2 = [] := by exact congrArg (List.map cellsA) (hRS r)
        refine ⟨{ K := g.K, j := fun _ => none, th := fun _ _ => none }, ⟨fun _ _ _ e => e, fun _ _ _ e => .inl e, fun β o v e => ?_, h1, ⟨fun i cs e => ?_, fun i k β e => (by cases e), fun n β e => (by cases e)⟩, Nat.zero_le _, fun i hi => (by simp at hi), fun i β _ e => (by cases e), noTks (fun _ _ => rfl) (fun p => ?_), fun β ⟨n, e, cap, hh⟩ => (by cases hh), Only.of_below h2⟩⟩
        · have := hknown β o v e
          rw [← this]
          exact h2.cell (p := ⟨β, o, none⟩) (block_lt_of_cell this)
        · rw [ho] at e; simp at e
        · show (tksOf RS)[p]? = none
          rw [htk]; rfl
      unfold Invokes at hI ⊢
      split at hI
      · exact fin _ _ hI
      · refine Calls.mono hI ?_
        rintro e w'' ⟨v, rfl, hE⟩
        exact ⟨v, rfl, fin v w'' hE⟩
      · exact hI.elim
    · cases hr
theorem invokes_of_calls {P : Program} {f : FuncId} {fn : Func} {vs : Array Value} {w : World} {R : Value → World → Prop} (hf : P.funcs[f]? = some fn) (hname : (fn.name == "runtime.NumGoroutine") = false) (hb : fn.body.isNone = false)
    (h : Calls P f vs w fun e w' => ∃ v, e = .returned v ∧ R v w') : Invokes P f vs w R := by
  unfold Invokes
  have hcf : (callFunc f vs).run P w = .ok (.enter f vs) w := by
    unfold callFunc
    rw [Sem.run_bind, run_program]
    simp only [Result.andThen_ok, hf, hname, hb, Bool.false_eq_true, if_false]
    rfl
  rw [hcf]
  exact h
theorem invokes_of_run {P : Program} {f : FuncId} {vs : Array Value} {w w' : World} {v : Value} {R : Value → World → Prop} (hr : (callFunc f vs).run P w = .ok (.value v) w') (h : R v w') : Invokes P f vs w R := by
  unfold Invokes
  rw [hr]
  exact h
/-! ### a function that calls itself -/
theorem sum_none {P : Program} {laid : List (Nat × Nat × Value)} {f : FuncId} {n nOut nr : Nat} {PS RS : List ShA} : SumOk P laid f (fnSum n nOut nr PS RS (fun _ => none)) := by
  intro as bs r hr
  simp only [fnSum] at hr
  cases hk : (Nat.beq as.length n && Nat.beq bs.length nOut) with
  | false => rw [hk] at hr; cases hr
  | true =>
    rw [hk] at hr
    simp only [cond_true] at hr
    split at hr <;> cases hr
/-! ### errors.As at an api.Errno -/
def asVal (old : Int) : Option Int → Int
  | none => old
  | some n => n
def asSum (E PE : Nat) : Sum where
  ρ := Option Int × Int
  run as bs := match as, bs with
    | [.one (.err t e), .one (.ifp p 0 0)], [[.lit (.int .i64 old)]] => bif Nat.beq t E && Nat.beq p PE then some (e, old) else none
    | [.one (.lit .nilIface), .one (.ifp p 0 0)], [[.lit (.int .i64 old)]] => bif Nat.beq p PE then some (none, old) else none
    | _, _ => none
  out _ _ r := (.a (.one (boolC r.1.isSome)), [[.lit (.int .i64 (asVal r.2 r.1))]])
  tin := []
  tks := []
theorem asSum_run {E PE : Nat} {as : List A} {bs : List (List C)} {r : Option Int × Int} (h : (asSum E PE).run as bs = some r) :
    bs = [[.lit (.int .i64 r.2)]] ∧ ∃ c, as = [.one c, .one (.ifp PE 0 0)] ∧ ((c = .err E r.1) ∨ (r.1 = none ∧ c = .lit .nilIface)) := by
  simp only [asSum] at h
  split at h
  · rename_i t e p old
    cases hk : (Nat.beq t E && Nat.beq p PE) with
    | false => rw [hk] at h; cases h
    | true =>
      rw [hk] at h
      simp only [Bool.and_eq_true] at hk
      obtain rfl := Nat.eq_of_beq_eq_true hk.1
      obtain rfl := Nat.eq_of_beq_eq_true hk.2
      obtain rfl := Option.some.inj h
      exact ⟨rfl, _, rfl, .inl rfl⟩
  · rename_i p old
    cases hk : Nat.beq p PE with
    | false => rw [hk] at h; cases h
    | true =>
      rw [hk] at h
      obtain rfl := Nat.eq_of_beq_eq_true hk
      obtain rfl := Option.some.inj h
      exact ⟨rfl, _, rfl, .inr ⟨rfl, rfl⟩⟩
  · cases h
theorem as_ok {P : Program} {laid : List (Nat × Nat × Value)} {f : FuncId} {fn : Func} {E PE : Nat} (hf : P.funcs[f]? = some fn) (hname : (fn.name == "runtime.NumGoroutine") = false) (hb : fn.body.isNone = false)
    (hnil : ∀ (t : Value) (w : World), Calls P f #[.nilIface, t] w fun e w' => e = .returned (.bool false) ∧ w' = w)
    (hhit : ∀ (n : Int) (t : Addr) (old : Value) (w : World), (∀ q ∈ laid, w.cell? ⟨q.1, q.2.1, none⟩ = some q.2.2) → w.cell? t = some old → w.frozen? t = false →
      Calls P f #[.iface E (.int .i64 n), .iface PE (.pointer (some t))] w fun e w' => e = .returned (.bool true) ∧ ∃ wm, Below w.heap.size w wm ∧ w' = wm.setCell t (.int .i64 n)) : SumOk P laid f (asSum E PE) := by
  intro as bs r hr g w vs hlaid hknown hA hB hTk
  obtain ⟨rfl, c, rfl, hc⟩ := asSum_run hr
  obtain ⟨x, q, rfl, hx, y, q', rfl, hy, rfl⟩ := hA
  obtain ⟨β, hj, rfl⟩ := hy
  obtain ⟨β', cells, ty, k1, k2, k3, k4⟩ := hB.blk 0 _ rfl
  obtain rfl := Option.some.inj (hj.symm.trans k1)
  obtain ⟨_, _, hcs, rfl, rfl⟩ := k3
  have hcs' : cells = #[.int .i64 r.2] := by apply Array.ext'; simpa using hcs
  subst hcs'
  have hx' : x = errV E r.1 := by
    rcases hc with rfl | ⟨h1, rfl⟩
    · exact hx
    · rw [h1]; exact hx
  subst hx'
  have hlt : β < w.heap.size := (Array.getElem?_eq_some_iff.1 k2).1
  refine invokes_of_calls hf hname hb ?_
  have hdom : ∀ n β', g.j n = some β' → n = 0 := fun n β' e => by
    obtain ⟨i, rfl, hi⟩ := hB.dom n β' e
    simp at hi; omega
  cases he : r.1 with
  | none =>
    refine (hnil _ w).mono ?_
    rintro e w' ⟨rfl, rfl⟩
    refine ⟨_, rfl, { K := g.K, j := g.j, th := fun _ _ => none }, ⟨fun _ _ _ e => e, fun _ _ _ e => .inl e, hknown, ?_, ⟨fun i cs e => ?_, hB.inj, fun n β' e => ?_⟩, Nat.le_refl _, fun _ _ => rfl, fun i β' hi e => ?_, noTks (fun _ _ => rfl) (fun p => rfl), fun β ⟨n, e, cap, hh⟩ => (by cases hh), Only.refl _ _⟩⟩
    · show RepC { K := g.K, j := g.j, th := fun _ _ => none } (boolC r.1.isSome) _
      rw [he]; rfl
    · cases i with
      | zero =>
        have e' : [C.lit (.int .i64 (asVal r.2 r.1))] = cs := Option.some.inj e
        rw [he] at e'
        subst e'
        exact ⟨β, _, ty, hj, k2, ⟨_, [], rfl, rfl, rfl⟩, k4⟩
      | succ i => simp [asSum] at e
    · obtain rfl := hdom n β' e
      exact ⟨0, rfl, Nat.zero_lt_one⟩
    · have := hdom _ _ e
      simp at hi; omega
  | some n =>
    have hcell : w.cell? ⟨β, 0, none⟩ = some (.int .i64 r.2) := by rw [cell_row k2]; rfl
    have hfro : w.frozen? ⟨β, 0, none⟩ = false := by simp [World.frozen?, k2]
    refine (hhit n ⟨β, 0, none⟩ _ w (fun q hq => hknown _ _ _ (hlaid q hq)) hcell hfro).mono ?_
    rintro e w' ⟨rfl, wm, hbm, rfl⟩
    have k2m : wm.heap[β]? = some (.cells #[.int .i64 r.2] ty (0, 0)) := by rw [hbm.block β hlt]; exact k2
    have hset : wm.setCell ⟨β, 0, none⟩ (.int .i64 n) = wm.setRow β #[.int .i64 n] := by
      rw [setCell_eq_setRow wm β 0 _ ty (0, 0) _ k2m]; rfl
    rw [hset]
    have hoth : ∀ k, k ≠ β → (wm.setRow β #[.int .i64 n]).heap[k]? = wm.heap[k]? := fun k hk => setRow_other wm β k _ hk
    refine ⟨_, rfl, { K := g.K, j := g.j, th := fun _ _ => none }, ⟨fun _ _ _ e => e, fun _ _ _ e => .inl e, fun β' o v e => ?_, ?_, ⟨fun i cs e => ?_, hB.inj, fun n β' e => ?_⟩, Nat.le_refl _, fun _ _ => rfl, fun i β' hi e => ?_, noTks (fun _ _ => rfl) (fun p => rfl), fun β ⟨n, e, cap, hh⟩ => (by cases hh), ?_⟩⟩
    · have hne : β' ≠ β := fun e' => by subst e'; have e2 : g.K β' o = some v := e; rw [k4 o] at e2; cases e2
      have h1 := hknown β' o v e
      have h2 := block_lt_of_cell h1
      rw [← h1]
      simp only [World.cell?]
      rw [hoth β' hne, hbm.block β' h2]
    · show RepC { K := g.K, j := g.j, th := fun _ _ => none } (boolC r.1.isSome) _
      rw [he]; rfl
    · cases i with
      | zero =>
        have e' : [C.lit (.int .i64 (asVal r.2 r.1))] = cs := Option.some.inj e
        rw [he] at e'
        subst e'
        exact ⟨β, _, ty, hj, setRow_heap wm β _ _ ty _ k2m, ⟨_, [], rfl, rfl, rfl⟩, k4⟩
      | succ i => simp [asSum] at e
    · obtain rfl := hdom n β' e
      exact ⟨0, rfl, Nat.zero_lt_one⟩
    · have := hdom _ _ e
      simp at hi; omega
    · refine ⟨hbm.os, hbm.tape, hbm.output, by simpa using hbm.size, fun k hk hm => ?_⟩
      have hne : k ≠ β := fun e' => by subst e'; exact hm (.inl ⟨0, by simp, hj⟩)
      rw [hoth k hne, hbm.block k hk]
/-! ### a contract, as a partial function on its arguments' data -/
open Classical in
noncomputable def relF {α T R : Type} (enc : α → T) (cond : α → Prop) (res : α → R) (p : T) : Option R := if h : ∃ a, cond a ∧ enc a = p then some (res (Classical.choose h)) else none
theorem relF_inv {α T R : Type} {enc : α → T} {cond : α → Prop} {res : α → R} {p : T} {r : R} (h : relF enc cond res p = some r) : ∃ a, cond a ∧ enc a = p ∧ r = res a := by
  unfold relF at h
  split at h
  · rename_i hx
    exact ⟨_, (Classical.choose_spec hx).1, (Classical.choose_spec hx).2, (Option.some.inj h).symm⟩
  · cases h
theorem relF_at {α T R : Type} {enc : α → T} {cond : α → Prop} {res : α → R} (inj : ∀ a b, cond a → cond b → enc a = enc b → res a = res b) {a : α} (ha : cond a) : relF enc cond res (enc a) = some (res a) := by
  have hx : ∃ b, cond b ∧ enc b = enc a := ⟨a, ha, rfl⟩
  unfold relF
  rw [dif_pos hx]
  exact congrArg some (inj _ _ (Classical.choose_spec hx).1 ha (Classical.choose_spec hx).2)
theorem rel_ok {α : Type} {P : Program} {laid : List (Nat × Nat × Value)} {f : FuncId} {fn : Func} {n nr : Nat} {PS RS : List ShA} (enc : α → TAs PS) (cond : α → Prop) (res : α → TAs RS) (vals : α → List Value) (out : α → Value)
    (hf : P.funcs[f]? = some fn) (hname : (fn.name == "runtime.NumGoroutine") = false) (hb : fn.body.isNone = false) (htk : tksOf RS = []) (hRS : ∀ r, (encAs 0 RS r).drop nr = [])
    (hv : ∀ a g vs, cond a → RepAs g (encAs 0 PS (enc a)) vs → vs = vals a) (ho : ∀ a g, cond a → RepV g (retV nr (encAs 0 RS (res a))) (out a))
    (hc : ∀ a w, cond a → (∀ q ∈ laid, w.cell? ⟨q.1, q.2.1, none⟩ = some q.2.2) → Calls P f (vals a).toArray w fun e w' => e = .returned (out a) ∧ Below w.heap.size w w') : SumOk P laid f (fnSum n 0 nr PS RS (relF enc cond res)) := by
  refine bridge htk hRS (fun p r h g w vs hl hA => ?_)
  obtain ⟨a, h1, rfl, rfl⟩ := relF_inv h
  obtain rfl := hv a g vs h1 hA
  refine invokes_of_calls hf hname hb ((hc a w h1 hl).mono ?_)
  rintro e w' ⟨rfl, hw⟩
  exact ⟨_, rfl, ho a _ h1, hw⟩
end Go.Proofs.YtmdnnlfoljdfpaaDoor.Mir
