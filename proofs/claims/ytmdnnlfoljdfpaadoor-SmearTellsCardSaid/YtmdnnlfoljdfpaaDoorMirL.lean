/- The mirror's functions. Nothing here names the program. -/
import Derived.Test.YtmdnnlfoljdfpaaDoorMirK
namespace Go.Proofs.YtmdnnlfoljdfpaaDoor.Mir
open Go Go.RowKit

/-- The results' values. -/
def retsA (X : Ctx) (s : St) : List ResultVar → Option (List A)
  | [] => some []
  | .tmp t :: r => match frL s.fr t with
    | .a x => (match retsA X s r with | some l => some (x :: l) | none => none)
    | .tup _ => none
  | .cell p ty :: r => match X.ty ty, frL s.fr p with
    | some i, .a (.one (.ptr n off)) => (match memL s.mem n with
      | some cs => (match subC cs off i.size with
        | some es => (match retsA X s r with
          | some l => bif aggD i.desc then some (.agg es :: l) else (match es with
            | [c] => bif isArr c then none else some (.one c :: l)
            | _ => none)
          | none => none)
        | none => none)
      | none => none)
    | _, _ => none
def notIn (l : List Nat) : List Nat → List Nat
  | [] => []
  | n :: r => bif hasN n l then notIn l r else n :: notIn l r
def blksAll (all : List Nat) (mem : Nat → Option (List C)) : List Nat → Option (List A)
  | [] => some []
  | n :: r => match mem n, blksAll all mem r with
    | some cs, some l => bif allIn (nameL cs) all then some (.agg cs :: l) else none
    | _, _ => none
/-- What a function hands back: its results, and the blocks that they and its arguments lead to. -/
def fin (X : Ctx) (rv : List ResultVar) (ts : List Tks) (nOut : Nat) (s : St) : Option (List A) :=
  match retsA X s rv with
  | some as =>
    let all := outs nOut ++ notIn (outs nOut) (dedup (nameAs as) [])
    (match blksAll all (memL s.mem) all with
    | some bs => (match tkAs (memL s.mem) (fun n => 2 * idxN n all) 0 ts (as ++ bs) with
      | some (l, _) => some l
      | none => none)
    | none => none)
  | none => none
def fnK (X : Ctx) (rv : List ResultVar) (nOut : Nat) (RS : List ShA) (ex : Ex) (s : St) : Option (TAs RS) :=
  match ex with
  | .exit _ => none
  | _ => match fin X rv (RS.map tsOf) nOut s with
    | some l => decAs 0 RS l
    | none => none
def tksOf (l : List ShA) : List (Nat × Nat) := (specsL (l.map tsOf)).map fun t => (t.1, t.2.1)
def retV (n : Nat) (es : List A) : V :=
  match n, es with
  | 1, e :: _ => .a e
  | n, es => .tup (es.take n)
def argsR : Nat → Nat → List Nat
  | _, 0 => []
  | k, n + 1 => k :: argsR (k + 1) n
/-- A function's summary: PS the shapes of its n parameters and of the nOut blocks that they lead to, RS those of its nr results and of the blocks that these lead to. -/
def fnSum (n nOut nr : Nat) (PS RS : List ShA) (F : TAs PS → Option (TAs RS)) : Sum where
  ρ := TAs RS
  run as bs := bif Nat.beq as.length n && Nat.beq bs.length nOut then
    (match decAs 0 PS (as ++ bs.map .agg) with | some p => F p | none => none) else none
  out _ _ r := let es := encAs 0 RS r; (retV nr es, (es.drop nr).map cellsA)
  tin := PS.map tsOf
  tks := tksOf RS
/-- The state at a function's begin. -/
def fnSt (n nOut : Nat) (PS : List ShA) (p : TAs PS) : St := withTks (mkSt (argsR 0 n) (outs nOut) (encAs 0 PS p)) PS

theorem tksOf_get {l : List ShA} {i E sz : Nat} {t : List Sh} (h : (specsL (l.map tsOf))[i]? = some (E, sz, t)) : (tksOf l)[i]? = some (E, sz) := by
  unfold tksOf; rw [List.getElem?_map, h]; rfl
theorem tinQ_iff {l : List Tks} {p E sz : Nat} : tinQ l p = some (E, sz) ↔ ∃ t, (specsL l)[p]? = some (E, sz, t) := by
  unfold tinQ
  constructor
  · intro h
    obtain ⟨⟨E', sz', t⟩, h1, h2⟩ := Option.map_eq_some_iff.1 h
    obtain ⟨rfl, rfl⟩ := Prod.mk.inj h2
    exact ⟨t, h1⟩
  · rintro ⟨t, h⟩
    rw [h]; rfl
theorem argsR_get : ∀ (n k i : Nat), i < n → (argsR k n)[i]? = some (k + i)
  | 0, _, _, h => by omega
  | n + 1, k, 0, _ => by simp [argsR]
  | n + 1, k, i + 1, h => by simp only [argsR, List.getElem?_cons_succ]; rw [argsR_get n (k + 1) i (by omega)]; congr 1; omega
theorem argsR_len : ∀ (n k : Nat), (argsR k n).length = n
  | 0, _ => rfl
  | n + 1, k => by simp [argsR, argsR_len n]
theorem outs_len : ∀ n : Nat, (outs n).length = n
  | 0 => rfl
  | n + 1 => by simp [outs, outs_len n]
theorem outs_get : ∀ (n i : Nat), i < n → (outs n)[i]? = some (2 * i)
  | 0, _, h => by omega
  | n + 1, i, h => by
    simp only [outs]
    rcases Nat.lt_or_ge i n with h1 | h1
    · rw [List.getElem?_append_left (by rw [outs_len]; exact h1)]; exact outs_get n i h1
    · obtain rfl : i = n := by omega
      rw [List.getElem?_append_right (by rw [outs_len]; exact h1), outs_len]; simp
theorem outs_nodup (n : Nat) : (outs n).Nodup := by
  rw [List.Nodup, List.pairwise_iff_getElem]
  intro i j hi hj hij e
  have e1 := outs_get n i (by rw [outs_len] at hi; exact hi)
  have e2 := outs_get n j (by rw [outs_len] at hj; exact hj)
  rw [List.getElem?_eq_getElem hi] at e1
  rw [List.getElem?_eq_getElem hj, ← e] at e2
  have := Option.some.inj (e1.symm.trans e2)
  omega
theorem notIn_mem {l : List Nat} : ∀ {r : List Nat} {n : Nat}, n ∈ notIn l r ↔ n ∈ r ∧ n ∉ l
  | [], n => by simp [notIn]
  | m :: r, n => by
    unfold notIn
    cases hb : hasN m l with
    | true =>
      have := hasN_iff.1 hb
      simp only [cond_true, notIn_mem, List.mem_cons]
      constructor
      · rintro ⟨h1, h2⟩; exact ⟨.inr h1, h2⟩
      · rintro ⟨rfl | h1, h2⟩
        · exact absurd this h2
        · exact ⟨h1, h2⟩
    | false =>
      have : m ∉ l := fun e => by rw [hasN_iff.2 e] at hb; cases hb
      simp only [cond_false, List.mem_cons, notIn_mem]
      constructor
      · rintro (rfl | ⟨h1, h2⟩)
        · exact ⟨.inl rfl, this⟩
        · exact ⟨.inr h1, h2⟩
      · rintro ⟨rfl | h1, h2⟩
        · exact .inl rfl
        · exact .inr ⟨h1, h2⟩
theorem notIn_nodup {l : List Nat} : ∀ {r : List Nat}, r.Nodup → (notIn l r).Nodup
  | [], _ => List.nodup_nil
  | m :: r, h => by
    rw [List.nodup_cons] at h
    unfold notIn
    cases hasN m l with
    | true => exact notIn_nodup h.2
    | false => exact List.nodup_cons.2 ⟨fun e => h.1 (notIn_mem.1 e).1, notIn_nodup h.2⟩
theorem RepAs.len : ∀ {as : List A} {vs : List Value} {g : Gh}, RepAs g as vs → as.length = vs.length
  | [], vs, g, h => by have h : vs = [] := h; simp [h]
  | a :: as, vs, g, ⟨x, r, h1, _, h3⟩ => by subst h1; simp [h3.len]
section
variable {P : Program} {b : Base} {N nOut : Nat} {g : Gh} {a : Act} {w : World} {X : Ctx} {laid : List (Nat × Nat × Value)}
def rvSem (tmps : Array Value) : ResultVar → Sem Value
  | .tmp t => pure (tmps.getD t undef)
  | .cell p t => do loadVar t (← asAddr (tmps.getD p undef))
theorem results_eq (fn : Func) (tmps : Array Value) : results fn tmps = (do let vs ← fn.results.mapM (rvSem tmps); pure (if h : vs.size = 1 then vs[0] else .tuple vs)) := by
  unfold results
  congr 1
theorem rets_ok (hT : TyOk P X.ty) {s : St} (hc : Con b N g (frL s.fr) (memL s.mem) a w) : ∀ {rv : List ResultVar} {as : List A}, retsA X s rv = some as →
    ∃ vs : List Value, (rv.mapM (rvSem a.tmps)).run P w = .ok vs w ∧ RepAs g as vs
  | [], as, h => by
    obtain rfl := (Option.some.inj h).symm
    exact ⟨[], rfl, rfl⟩
  | .tmp t :: r, as, h => by
    unfold retsA at h
    split at h
    · rename_i x ex
      split at h
      · rename_i l el
        obtain rfl := (Option.some.inj h).symm
        obtain ⟨vs, h1, h2⟩ := rets_ok hT hc el
        have hx := hc.rep t
        rw [ex] at hx
        refine ⟨a.tmps.getD t undef :: vs, ?_, ⟨_, _, rfl, hx, h2⟩⟩
        rw [List.mapM_cons, Sem.run_bind]
        simp only [rvSem, Sem.run_pure, Result.andThen_ok, Sem.run_bind, h1]
      · cases h
    · cases h
  | .cell p ty :: r, as, h => by
    unfold retsA at h
    split at h
    · rename_i i n off ei ep
      split at h
      · rename_i cs ecs
        split at h
        · rename_i es ees
          split at h
          · rename_i l el
            obtain ⟨vs, h1, h2⟩ := rets_ok hT hc el
            have hp := hc.rep p
            rw [ep] at hp
            obtain ⟨β, hj, hv⟩ := hp
            have run : ∀ (d : Delta), (pload i (memL s.mem) (.a (.one (.ptr n off)))).run some = some d → ∃ x, (loadVar ty ⟨β, off, none⟩).run P w = .ok x w ∧ RepV g d.v x := fun d hd => by
              obtain ⟨x, q1, q2, _⟩ := pload_ok (P := P) hT ei hc (x := .a (.one (.ptr n off))) (vx := .pointer (some ⟨β, off, none⟩)) ⟨β, hj, rfl⟩ hd
              refine ⟨x, ?_, q2⟩
              simpa [Instr.loadAt, Instr.sureAddr] using q1
            have fin' : ∀ x0 : A, (∃ x, (loadVar ty ⟨β, off, none⟩).run P w = .ok x w ∧ RepA g x0 x) → as = x0 :: l → ∃ vs : List Value, ((ResultVar.cell p ty :: r).mapM (rvSem a.tmps)).run P w = .ok vs w ∧ RepAs g as vs := fun x0 ⟨x, q1, q2⟩ e => by
              subst e
              refine ⟨x :: vs, ?_, ⟨_, _, rfl, q2, h2⟩⟩
              rw [List.mapM_cons, Sem.run_bind]
              simp only [rvSem, Sem.run_bind, hv, asAddr, Sem.run_pure, Result.andThen_ok, q1, h1]
            cases hd : aggD i.desc with
            | true =>
              rw [hd] at h
              obtain rfl := (Option.some.inj h).symm
              exact fin' (.agg es) (run ⟨.a (.agg es), [], [n]⟩ (by simp [pload, ploadAt, ecs, ees, hd, Pl.run])) rfl
            | false =>
              rw [hd] at h
              simp only [cond_false] at h
              cases es with
              | nil => cases h
              | cons c q =>
                cases q with
                | cons _ _ => cases h
                | nil =>
                  simp only at h
                  cases hq : isArr c with
                  | true => rw [hq] at h; cases h
                  | false =>
                    rw [hq] at h
                    obtain rfl := (Option.some.inj h).symm
                    exact fin' (.one c) (run ⟨one c, [], [n]⟩ (by simp [pload, ploadAt, ecs, ees, hd, hq, Pl.run])) rfl
          · cases h
        · cases h
      · cases h
    · cases h
theorem blksAll_vals {fr : Nat → V} {mem : Nat → Option (List C)} {all : List Nat} (hc : Con b N g fr mem a w) : ∀ {l : List Nat} {bs : List A}, blksAll all mem l = some bs → (∀ n ∈ l, n % 2 = 0) →
    bs.length = l.length ∧ (∀ (i n : Nat), l[i]? = some n → ∃ cs, mem n = some cs ∧ bs[i]? = some (.agg cs)) ∧ (∀ m ∈ nameAs bs, m ∈ all) ∧
    ∃ ys : List Value, RepAs g bs ys ∧ ∀ (i n : Nat), l[i]? = some n → ∃ β vs ty, g.j n = some β ∧ w.heap[β]? = some (.cells vs ty (0, 0)) ∧ ys[i]? = some (.agg vs) ∧ (∀ o, g.K β o = none) ∧ (b.M β ∨ b.w0.heap.size ≤ β)
  | [], bs, h, _ => by
    obtain rfl := (Option.some.inj h).symm
    exact ⟨rfl, fun i n e => (by simp at e), fun m hm => (by cases hm), [], rfl, fun i n e => (by simp at e)⟩
  | n :: ns, bs, h, he => by
    unfold blksAll at h
    split at h
    · rename_i cs l e1 e2
      cases ha : allIn (nameL cs) all with
      | false => rw [ha] at h; cases h
      | true =>
        rw [ha] at h
        obtain rfl := (Option.some.inj h).symm
        obtain ⟨h1, h2, h3, ys, k1, k2⟩ := blksAll_vals hc e2 (fun m hm => he m (by simp [hm]))
        obtain ⟨β, vs, ty, q1, q2, q3, q4, q5⟩ := hc.blk n cs (he n (by simp)) e1
        refine ⟨by simp [h1], fun i m e => ?_, fun m hm => ?_, .agg vs :: ys, ⟨_, _, rfl, ⟨vs.toList, by simp, q3⟩, k1⟩, fun i m e => ?_⟩
        · cases i with
          | zero => simp at e; subst e; exact ⟨cs, e1, rfl⟩
          | succ i => simp at e; simpa using h2 i m e
        · rcases List.mem_append.1 hm with h | h
          · exact allIn_spec ha m h
          · exact h3 m h
        · cases i with
          | zero => simp at e; subst e; exact ⟨β, vs, ty, q1, q2, rfl, q4, q5⟩
          | succ i => simp at e; simpa using k2 i m e
    · cases h
theorem fn_runs {laid : List (Nat × Nat × Value)} (hX : CtxOk P laid X) {f : FuncId} {fn : Func} {c : Code} (hf : P.funcs[f]? = some fn) (hb : fn.body = some c) (hname : (fn.name == "runtime.NumGoroutine") = false)
    {n nOut nr : Nat} {PS RS : List ShA} {F : TAs PS → Option (TAs RS)} (hnr : fn.results.size = nr)
    (hR : ∀ (p : TAs PS) (r : TAs RS), F p = some r → ∀ (b : Base) (g : Gh) (a : Act) (w : World), BaseOk laid nOut b → Con b fn.ntmps g (frL (fnSt n nOut PS p).fr) (memL (fnSt n nOut PS p).mem) a w → Runs P b fn.ntmps c (fnK X fn.results.toList nOut RS) r a w) : SumOk P laid f (fnSum n nOut nr PS RS F) := by
  intro as bs r hr g w vs hlaid hknown hA hB hTk
  simp only [fnSum] at hr
  cases hk : (Nat.beq as.length n && Nat.beq bs.length nOut) with
  | false => rw [hk] at hr; cases hr
  | true =>
    rw [hk] at hr
    simp only [cond_true] at hr
    simp only [Bool.and_eq_true] at hk
    have hn := Nat.eq_of_beq_eq_true hk.1
    have hno := Nat.eq_of_beq_eq_true hk.2
    split at hr
    · rename_i p ep
      obtain ⟨da, db⟩ := decAs_get ep
      have hvl : vs.length = n := by rw [← hn]; exact hA.len.symm
      -- the base
      let b : Base := { w0 := w, M := fun β => ∃ i, i < bs.length ∧ g.j (2 * i) = some β, T := Handed g, K0 := g.K, j0 := g.j }
      have hbase : BaseOk laid nOut b := ⟨hlaid, fun n β e => by
        obtain ⟨i, h1, h2⟩ := hB.dom n β e
        exact ⟨i, by omega, h1⟩⟩
      let a0 : Act := { tmps := vs.toArray ++ Array.replicate (fn.ntmps - vs.toArray.size) undef, defers := [] }
      have hel : (encAs 0 PS p).length = n + nOut := by rw [da, List.length_append, List.length_map]; omega
      have hlen : (argsR 0 n).length ≤ (encAs 0 PS p).length := by rw [argsR_len, hel]; omega
      have hdl : (outs nOut).length ≤ ((encAs 0 PS p).drop (argsR 0 n).length).length := by rw [outs_len, List.length_drop, hel, argsR_len]; omega
      obtain ⟨z1, z2⟩ := zipM_get hdl
      have hoev : ∀ m ∈ outs nOut, m % 2 = 0 := fun m hm => by
        obtain ⟨i, hi, ei⟩ := List.mem_iff_getElem.1 hm
        have := outs_get nOut i (by rw [outs_len] at hi; exact hi)
        rw [List.getElem?_eq_getElem hi, ei] at this
        obtain rfl := Option.some.inj this
        omega
      have hmem0 : (fnSt n nOut PS p).mem = zipM (outs nOut) ((encAs 0 PS p).drop (argsR 0 n).length) ++ tkCells 0 (specsL (PS.map tsOf)) := by
        show (mkSt _ _ _).mem ++ _ = _
        rw [mkSt_mem _ _ _ hlen]
      obtain ⟨mm1, mm2⟩ := zipM_even (as := (encAs 0 PS p).drop (argsR 0 n).length) hoev (specsL (PS.map tsOf))
      have hmemeq : ∀ m, m % 2 = 0 → memL (fnSt n nOut PS p).mem m = memL (zipM (outs nOut) ((encAs 0 PS p).drop (argsR 0 n).length)) m := fun m hm => by rw [hmem0]; exact mm2 m hm
      have hmemodd : ∀ m, m % 2 = 1 → memL (fnSt n nOut PS p).mem m = memL (tkCells 0 (specsL (PS.map tsOf))) m := fun m hm => by rw [hmem0]; exact mm1 m hm
      have hmem : ∀ m cs, m % 2 = 0 → memL (fnSt n nOut PS p).mem m = some cs → ∃ i cs0, i < nOut ∧ m = 2 * i ∧ bs[i]? = some cs0 ∧ ∀ (g : Gh) (xs : List Value), RepL g cs0 xs → RepL g cs xs := fun m cs hm2 e => by
        rw [hmemeq m hm2] at e
        by_cases hm : m ∈ outs nOut
        · obtain ⟨i, hi, ei⟩ := List.mem_iff_getElem.1 hm
          have hi' : i < nOut := by rw [outs_len] at hi; exact hi
          have ei' : (outs nOut)[i]? = some m := by rw [List.getElem?_eq_getElem hi, ei]
          obtain rfl := Option.some.inj ((outs_get nOut i hi').symm.trans ei')
          obtain ⟨a1, q1, q2⟩ := z2 (outs_nodup nOut) i _ ei'
          rw [q2] at e
          obtain rfl := Option.some.inj e
          rw [List.getElem?_drop, argsR_len] at q1
          have hbi : bs[i]? = some bs[i] := List.getElem?_eq_getElem (by omega)
          obtain ⟨a2, s1, s2, s3⟩ := db (n + i) (.agg bs[i]) (by rw [List.getElem?_append_right (by omega), hn, Nat.add_sub_cancel_left, List.getElem?_map, hbi]; rfl)
          obtain rfl := Option.some.inj (q1.symm.trans s1)
          obtain ⟨cs', rfl⟩ := s3 _ rfl
          refine ⟨i, bs[i], hi', rfl, hbi, fun g xs hx => ?_⟩
          obtain ⟨ys, y1, y2⟩ := s2 g (.agg xs.toArray) ⟨xs, rfl, hx⟩
          injection y1 with y1
          have : xs = ys := by simpa using y1
          rw [this]; exact y2
        · rw [z1 m hm] at e; cases e
      have htin : ∀ (q E sz : Nat), tinQ (PS.map tsOf) q = some (E, sz) → ∀ m, m = 2 * q + 1 → ∃ E' sz', memL (tkCells 0 (specsL (PS.map tsOf))) m = some [.tkt true 0 E' sz'] := fun q E sz hq m hm => by
        obtain ⟨t, ht⟩ := tinQ_iff.1 hq
        rcases tkCells_get 0 (specsL (PS.map tsOf)) m with ⟨_, E', sz', _, _, _, k3⟩ | ⟨_, k2⟩
        · exact ⟨E', sz', k3⟩
        · exact absurd hm (by have := k2 q E sz t ht; omega)
      have hCon : Con b fn.ntmps g (frL (fnSt n nOut PS p).fr) (memL (fnSt n nOut PS p).mem) a0 w := by
        refine ⟨fun u => ?_, rfl, ?_, hknown, fun m cs hm2 e => ?_, fun m1 m2 β k1 k2 => ?_, fun m e => ?_, fun m cs hm1 e => ?_, fun m v τ e => ?_, fun m1 m2 v1 v2 E1 E2 sz1 sz2 β e e' cap cap' q1 q2 q3 q4 => ?_, fun _ _ _ e => e, fun _ _ _ e => .inl e, fun _ _ e => e, Only.refl _ _, fun n v τ e ho => by have := (hTk.dom n v τ e).1; omega⟩
        · show RepV g (frL (mkSt (argsR 0 n) (outs nOut) (encAs 0 PS p)).fr u) _
          rcases mkSt_fr (argsR 0 n) (outs nOut) (encAs 0 PS p) u hlen with h | ⟨i, a1, h1, h2, h3⟩
          · rw [h]; trivial
          · rw [h3]
            have hi : i < n := by have := (List.getElem?_eq_some_iff.1 h1).1; rwa [argsR_len] at this
            rw [argsR_get n 0 i hi] at h1
            obtain rfl : u = i := by have := Option.some.inj h1; omega
            have hai : as[u]? = some as[u] := List.getElem?_eq_getElem (by omega)
            obtain ⟨x, hx1, hx2⟩ := hA.get hai
            obtain ⟨a2, s1, s2, _⟩ := db u as[u] (by rw [List.getElem?_append_left (by omega)]; exact hai)
            obtain rfl := Option.some.inj (h2.symm.trans s1)
            have : a0.tmps.getD u undef = x := by
              show (vs.toArray ++ Array.replicate _ undef).getD u undef = x
              rw [Array.getD_eq_getD_getElem?, Array.getElem?_append_left (by simp; omega)]
              simp [hx1]
            rw [this]
            exact s2 g x hx2
        · show fn.ntmps ≤ (vs.toArray ++ Array.replicate _ undef).size
          simp; omega
        · obtain ⟨i, cs0, hi, rfl, e1, e2⟩ := hmem m cs hm2 e
          obtain ⟨β, us, ty, q1, q2, q3, q4⟩ := hB.blk i cs0 e1
          exact ⟨β, us, ty, q1, q2, e2 g _ q3, q4, .inl ⟨i, by omega, q1⟩⟩
        · obtain ⟨i, rfl, _⟩ := hB.dom m1 β k1
          obtain ⟨k, rfl, _⟩ := hB.dom m2 β k2
          rw [hB.inj i k β k1 k2]
        · cases hg : g.j m with
          | none => rfl
          | some β =>
            exfalso
            obtain ⟨i, rfl, hi⟩ := hB.dom m β hg
            rcases e with e | e
            · rw [hmemeq _ (by omega)] at e
              obtain ⟨a1, _, q2⟩ := z2 (outs_nodup nOut) i _ (outs_get nOut i (by omega))
              rw [q2] at e; cases e
            · omega
        · rw [hmemodd m hm1] at e
          rcases tkCells_get 0 (specsL (PS.map tsOf)) m with ⟨q, E, sz, t, k1, k2, k3⟩ | ⟨k1, _⟩
          · rw [k3] at e
            obtain rfl := Option.some.inj e
            obtain ⟨τ, t1, t2⟩ := hTk.tot q E sz (tinQ_iff.2 ⟨t, k2⟩)
            rw [show 2 * q + 1 = m by omega] at t1
            refine ⟨true, 0, E, sz, rfl, fun _ => ⟨τ, t1, fun β e' cap et => ⟨t2 β e' cap et, .inl ⟨m, e', cap, by rw [t1, et]⟩⟩⟩⟩
          · rw [k1] at e; cases e
        · obtain ⟨rfl, q, E, sz, rfl, hq⟩ := hTk.dom m v τ e
          obtain ⟨E', sz', k⟩ := htin q E sz hq _ rfl
          exact ⟨by omega, true, 0, E', sz', by rw [hmemodd _ (by omega)]; exact k, Nat.le_refl _⟩
        · obtain ⟨rfl, _⟩ := hTk.dom m1 v1 _ q3
          obtain ⟨rfl, _⟩ := hTk.dom m2 v2 _ q4
          exact hTk.inj m1 m2 β e e' cap cap' q3 q4
      have hrun := hR p r hr b g a0 w hbase hCon
      -- at the end
      have done : ∀ (ex : Ex) (s' : St) (g' : Gh) (a' : Act) (w' : World), Con b fn.ntmps g' (frL s'.fr) (memL s'.mem) a' w' → fnK X fn.results.toList nOut RS ex s' = some r →
          a'.defers = [] ∧ ∃ v, (results fn a'.tmps).run P w' = .ok v w' ∧ ∃ v', Ending.returned v = .returned v' ∧ ∃ g2, Ends (fnSum n nOut nr PS RS F) as bs r g w v' w' g2 := by
        intro ex s' g' a' w' hc hK
        refine ⟨hc.defers, ?_⟩
        have hfin : ∃ l, fin X fn.results.toList (RS.map tsOf) nOut s' = some l ∧ decAs 0 RS l = some r := by
          unfold fnK at hK
          cases ex <;> first
            | cases hK
            | (simp only at hK
               split at hK
               · exact ⟨_, ‹_›, hK⟩
               · cases hK)
        obtain ⟨l, hl1, hl2⟩ := hfin
        unfold fin at hl1
        split at hl1
        · rename_i ras er
          dsimp only at hl1
          generalize hall : outs nOut ++ notIn (outs nOut) (dedup (nameAs ras) []) = all at hl1
          split at hl1
          · rename_i rbs erb
            split at hl1
            case h_2 => cases hl1
            rename_i al tus era
            obtain rfl := Option.some.inj hl1
            obtain ⟨us, hus, hru⟩ := rets_ok (P := P) hX.ty hc er
            obtain ⟨tra, trb⟩ := tkAs_get era
            obtain ⟨ea, eb⟩ := decAs_get hl2
            obtain ⟨dd1, dd2⟩ := dedup_spec (nameAs ras) [] List.nodup_nil
            have hnd : all.Nodup := by
              rw [← hall, List.nodup_append]
              exact ⟨outs_nodup nOut, notIn_nodup dd1, fun x hx y hy e => (notIn_mem.1 hy).2 (e ▸ hx)⟩
            have hin : ∀ m ∈ nameAs ras, m ∈ all := fun m hm => by
              rw [← hall, List.mem_append]
              by_cases h : m ∈ outs nOut
              · exact .inl h
              · exact .inr (notIn_mem.2 ⟨(dd2 m).2 (.inl hm), h⟩)
            have hallo : ∀ i, i < nOut → all[i]? = some (2 * i) := fun i hi => by
              rw [← hall, List.getElem?_append_left (by rw [outs_len]; exact hi)]; exact outs_get nOut i hi
            have hallno : ∀ i m, nOut ≤ i → all[i]? = some m → m ∉ outs nOut := fun i m hi e => by
              rw [← hall, List.getElem?_append_right (by rw [outs_len]; exact hi)] at e
              exact (notIn_mem.1 (List.mem_of_getElem? e)).2
            have halle : ∀ m, m ∈ all → m % 2 = 0 := fun m hm => by
              rw [← hall, List.mem_append] at hm
              rcases hm with hm | hm
              · exact hoev m hm
              · have h1 := (notIn_mem.1 hm).1
                rw [dd2] at h1
                rcases h1 with h1 | h1
                · obtain ⟨β, hβ⟩ := names_As hru m h1
                  exact hc.even hβ
                · cases h1
            obtain ⟨ra, rb, rn, ys, hys, hyv⟩ := blksAll_vals hc erb halle
            obtain ⟨thc, HA, HR⟩ := tkAs_spec hc era (hru.append hys)
            have hlall : nOut ≤ all.length := by rw [← hall, List.length_append, outs_len]; omega
            -- the caller's view
            let g2 : Gh := { K := g'.K, j := fun m => if m % 2 = 0 then (match all[m / 2]? with | some n => g'.j n | none => none) else none, th := fun m v => if v = 0 ∧ m % 2 = 1 ∧ m / 2 < (tksOf RS).length then some ((thc m 0).getD .none) else none }
            have g2j' : ∀ m β, g2.j m = some β → ∃ n, g'.j n = some β := fun m β e => by
              have e' : (if m % 2 = 0 then (match all[m / 2]? with | some n => g'.j n | none => none) else none) = some β := e
              split at e'
              · split at e'
                · exact ⟨_, e'⟩
                · cases e'
              · cases e'
            have g2th : ∀ n v τ, thc n v = some τ → g2.th n v = some τ := fun n v τ e => by
              obtain ⟨rfl, q, E, sz, t, h1, h2, _⟩ := HA.own n v τ e
              have := (List.getElem?_eq_some_iff.1 (tksOf_get h1)).1
              show (if _ then _ else _) = _
              rw [if_pos ⟨rfl, by omega, by omega⟩, e]; rfl
            have g2th' : ∀ n v β e cap, g2.th n v = some (.own β e cap) → v = 0 ∧ thc n 0 = some (.own β e cap) := fun n v β e cap h => by
              have h' : (if v = 0 ∧ n % 2 = 1 ∧ n / 2 < (tksOf RS).length then some ((thc n 0).getD .none) else none) = some (Tk.own β e cap) := h
              split at h'
              · rename_i hc
                refine ⟨hc.1, ?_⟩
                cases ht : thc n 0 with
                | none => rw [ht] at h'; cases h'
                | some τ => rw [ht] at h'; exact h'
              · cases h'
            have hHm : ∀ n β e cap, thc n 0 = some (.own β e cap) → ∃ (q E sz : Nat) (t : List Sh), (specsL (RS.map tsOf))[q]? = some (E, sz, t) ∧ n = 2 * (0 + q) + 1 ∧ OwnAt g' b w' β e cap E sz := fun n β e cap eh => by
              obtain ⟨_, q, E, sz, t, k1, k2, k3⟩ := HA.own n 0 _ eh
              obtain ⟨m, v, y1, y2⟩ := k3 β e cap rfl
              obtain ⟨τ, u1, u2⟩ := hc.aliveAt (HA.mem _ y1)
              obtain rfl := Option.some.inj (u1.symm.trans y2)
              exact ⟨q, E, sz, t, k1, k2, u2 _ _ _ rfl⟩
            have g2j : ∀ i, g2.j (2 * i) = match all[i]? with | some n => g'.j n | none => none := fun i => by
              show (if 2 * i % 2 = 0 then _ else _) = _
              rw [if_pos (by omega), show 2 * i / 2 = i by omega]
            have hidx : ∀ m ∈ all, ∀ β, g'.j m = some β → g2.j (2 * idxN m all) = some β := fun m hm β e => by
              rw [g2j, idxN_spec hm]; exact e
            have hrlen : us.length = nr := by
              have h1 := hus
              have : us.length = fn.results.toList.length := mapM_len fn.results.toList us w' w' h1
              rw [this, Array.length_toList, hnr]
            have hnas : ras.length = nr := by rw [hru.len, hrlen]
            have hres : (results fn a'.tmps).run P w' = .ok (if h : us.toArray.size = 1 then us.toArray[0] else .tuple us.toArray) w' := by
              rw [results_eq, Sem.run_bind, Array.mapM_eq_mapM_toList, Sem.run_map, hus]
              rfl
            have hesl : (encAs 0 RS r).length = nr + all.length := by rw [ea, tra, List.length_append, ra, hnas]
            have hnap : ∀ {l l' : List A} {m : Nat}, m ∈ nameAs (l ++ l') → m ∈ nameAs l ∨ m ∈ nameAs l' := by
              intro l l' m
              induction l with
              | nil => intro h; exact .inr h
              | cons x l ih =>
                intro h
                simp only [List.cons_append, nameAs, List.mem_append] at h ⊢
                rcases h with h | h
                · exact .inl (.inl h)
                · exact (ih h).imp .inr id
            have hAll : RepAs g2 al (us ++ ys) := HR g2 rfl (fun m hm β e => hidx m ((hnap hm).elim (hin m) (rn m)) β e) g2th
            have hRets : RepAs g2 ((encAs 0 RS r).take nr) us := by
              refine RepAs.mk (by rw [List.length_take, hesl, hrlen]; omega) (fun i x hx => ?_)
              have hi : i < nr := by have := (List.getElem?_eq_some_iff.1 hx).1; rw [List.length_take] at this; omega
              rw [List.getElem?_take, if_pos hi] at hx
              have hri : al[i]? = some al[i] := List.getElem?_eq_getElem (by rw [tra, List.length_append]; omega)
              obtain ⟨y, hy1, hy2⟩ := hAll.get hri
              rw [List.getElem?_append_left (by omega)] at hy1
              obtain ⟨x2, s1, s2, _⟩ := eb i _ hri
              obtain rfl := Option.some.inj (hx.symm.trans s1)
              exact ⟨y, hy1, s2 g2 y hy2⟩
            have hblk : ∀ (i : Nat) (cs : List C), (((encAs 0 RS r).drop nr).map cellsA)[i]? = some cs → ∃ m β vs ty, all[i]? = some m ∧ g'.j m = some β ∧ w'.heap[β]? = some (.cells vs ty (0, 0)) ∧ RepL g2 cs vs.toList ∧ ∀ o, g'.K β o = none := fun i cs e => by
              rw [List.getElem?_map, List.getElem?_drop] at e
              obtain ⟨x, hx1, hx2⟩ := Option.map_eq_some_iff.1 e
              have hi : i < all.length := by have := (List.getElem?_eq_some_iff.1 hx1).1; omega
              have hai : all[i]? = some all[i] := List.getElem?_eq_getElem hi
              obtain ⟨cs0, q1, q3⟩ := rb i _ hai
              obtain ⟨cs1, q4⟩ := trb (nr + i) cs0 (by rw [List.getElem?_append_right (by omega), hnas, Nat.add_sub_cancel_left]; exact q3)
              obtain ⟨y, hy1, hy2⟩ := hAll.get q4
              rw [List.getElem?_append_right (by omega), hrlen, Nat.add_sub_cancel_left] at hy1
              obtain ⟨β, vs, ty, k1, k2, k3, k4, _⟩ := hyv i _ hai
              obtain rfl := Option.some.inj (hy1.symm.trans k3)
              obtain ⟨x2, s1, s2, s3⟩ := eb (nr + i) _ q4
              obtain rfl := Option.some.inj (hx1.symm.trans s1)
              obtain ⟨cs', rfl⟩ := s3 _ rfl
              subst hx2
              obtain ⟨zs, y1, y2⟩ := s2 g2 _ hy2
              injection y1 with y1
              refine ⟨all[i], β, vs, ty, hai, k1, k2, ?_, k4⟩
              show RepL g2 cs' vs.toList
              rw [y1]; exact y2
            have hol : (((encAs 0 RS r).drop nr).map cellsA).length = all.length := by rw [List.length_map, List.length_drop, hesl]; omega
            refine ⟨_, hres, _, rfl, g2, ⟨hc.old, ?_, hc.known, ?_, ⟨?_, ?_, ?_⟩, ?_, ?_, ?_, ⟨?_, ?_, ?_⟩, ?_, ?_⟩⟩
            · intro β o v e
              exact hc.new β o v e
            · show RepV g2 (retV nr (encAs 0 RS r)) _
              by_cases h1 : nr = 1
              · subst h1
                have hu1 : us.length = 1 := hrlen
                obtain ⟨x, rfl⟩ := List.length_eq_one_iff.1 hu1
                rw [dif_pos (by simp)]
                obtain ⟨e0, rest, he⟩ : ∃ e0 rest, encAs 0 RS r = e0 :: rest := by
                  cases h : encAs 0 RS r with
                  | nil => rw [h] at hesl; simp at hesl; omega
                  | cons e0 rest => exact ⟨e0, rest, rfl⟩
                rw [he] at hRets ⊢
                obtain ⟨y, q, e1, e2, _⟩ := hRets
                obtain ⟨rfl, rfl⟩ := List.cons.inj e1
                exact e2
              · rw [dif_neg (by simp [hrlen, h1])]
                have : retV nr (encAs 0 RS r) = .tup ((encAs 0 RS r).take nr) := by
                  unfold retV
                  split
                  · exact absurd rfl h1
                  · rfl
                rw [this]
                exact ⟨us, rfl, hRets⟩
            · intro i cs e
              obtain ⟨m, β, vs', ty, q1, k1, k2, k3, k4⟩ := hblk i cs e
              exact ⟨β, vs', ty, by rw [g2j, q1]; exact k1, k2, k3, k4⟩
            · intro i k β e1 e2
              rw [g2j] at e1 e2
              split at e1
              · rename_i m1 f1
                split at e2
                · rename_i m2 f2
                  have := hc.inj m1 m2 β e1 e2
                  subst this
                  obtain ⟨h1, g1'⟩ := List.getElem?_eq_some_iff.1 f1
                  obtain ⟨h2, g2'⟩ := List.getElem?_eq_some_iff.1 f2
                  exact (List.getElem_inj hnd).1 (g1'.trans g2'.symm)
                · cases e2
              · cases e1
            · intro m β e
              have e' : (if m % 2 = 0 then (match all[m / 2]? with | some n => g'.j n | none => none) else none) = some β := e
              split at e'
              · split at e'
                · rename_i f1
                  refine ⟨m / 2, by omega, ?_⟩
                  show m / 2 < (((encAs 0 RS r).drop nr).map cellsA).length
                  rw [hol]; exact (List.getElem?_eq_some_iff.1 f1).1
                · cases e'
              · cases e'
            · show bs.length ≤ (((encAs 0 RS r).drop nr).map cellsA).length
              rw [hol]; omega
            · intro i hi
              rw [g2j, hallo i (by omega)]
              obtain ⟨β, _, _, q1, _⟩ := hB.blk i bs[i] (List.getElem?_eq_getElem hi)
              rw [q1]
              exact hc.out _ _ q1
            · intro i β hi e
              rw [g2j] at e
              split at e
              · rename_i m f1
                obtain ⟨β', _, _, k1, _, _, _, k5⟩ := hyv i m f1
                obtain rfl := Option.some.inj (e.symm.trans k1)
                rcases k5 with ⟨k, hk, hj⟩ | k5
                · exfalso
                  have := hc.out _ _ hj
                  have := hc.inj m (2 * k) β e this
                  subst this
                  exact hallno i _ (by omega) f1 (outs_spec (by omega))
                · exact k5
              · cases e
            · intro q E sz hq
              have hql := (List.getElem?_eq_some_iff.1 hq).1
              refine ⟨(thc (2 * q + 1) 0).getD .none, ?_, fun β e cap et => ?_⟩
              · show (if _ then _ else _) = _
                rw [if_pos ⟨rfl, by omega, by have : (2 * q + 1) / 2 = q := by omega
                                              rw [this]; exact hql⟩]
              · cases ht : thc (2 * q + 1) 0 with
                | none => rw [ht] at et; cases et
                | some τ =>
                  rw [ht] at et
                  simp only [Option.getD_some] at et
                  subst et
                  obtain ⟨q', E', sz', t, k1, k2, O⟩ := hHm _ β e cap ht
                  have : q' = q := by omega
                  subst this
                  have := tksOf_get k1
                  have hq' : (tksOf RS)[q']? = some (E, sz) := hq
                  rw [this] at hq'
                  obtain ⟨rfl, rfl⟩ := Prod.mk.inj (Option.some.inj hq')
                  exact ⟨O.row, O.room, O.most, O.dark, fun m em => by
                    obtain ⟨n2, e2⟩ := g2j' m β em
                    exact O.mine n2 e2⟩
            · intro n m β e e' cap cap' h1 h2
              exact HA.inj n m β e e' cap cap' (g2th' _ _ _ _ _ h1).2 (g2th' _ _ _ _ _ h2).2
            · intro m v τ h
              have h' : (if v = 0 ∧ m % 2 = 1 ∧ m / 2 < (tksOf RS).length then some ((thc m 0).getD .none) else none) = some τ := h
              split at h'
              · rename_i hc
                refine ⟨hc.1, m / 2, _, _, by omega, List.getElem?_eq_getElem hc.2.2⟩
              · cases h'
            · rintro β ⟨n, e, cap, h⟩
              obtain ⟨_, _, _, _, _, _, O⟩ := hHm n β e cap (g2th' _ _ _ _ _ h).2
              exact O.new
            · exact hc.only
          · cases hl1
        · cases hl1
      unfold Invokes
      have hcf : (callFunc f vs.toArray).run P w = .ok (.enter f vs.toArray) w := by
        have hb' : fn.body.isNone = false := by rw [hb]; rfl
        unfold callFunc
        rw [Sem.run_bind, run_program]
        simp only [Result.andThen_ok, hf, hname, hb', Bool.false_eq_true, if_false]
        rfl
      rw [hcf]
      refine calls_of_wp hf hb (wp_mono hrun ?_)
      rintro e a' w' ⟨ex, s', g', hm, hc', hK⟩
      cases ex with
      | normal =>
        cases e <;> first | exact hm.elim | skip
        exact done _ s' g' a' w' hc' hK
      | exit i => cases hK
      | ret =>
        cases e <;> first | exact hm.elim | skip
        exact done _ s' g' a' w' hc' hK
    · cases hr
where
  mapM_len {F' : ResultVar → Sem Value} : ∀ (l : List ResultVar) (vs : List Value) (w w' : World), (l.mapM F').run P w = .ok vs w' → vs.length = l.length
    | [], vs, w, w', h => by
      simp only [List.mapM_nil, Sem.run_pure] at h
      cases h; rfl
    | x :: l, vs, w, w', h => by
      rw [List.mapM_cons, Sem.run_bind] at h
      cases h1 : (F' x).run P w with
      | halt e w1 => rw [h1] at h; cases h
      | ok y w1 =>
        rw [h1] at h
        simp only [Result.andThen_ok, Sem.run_bind] at h
        cases h2 : (l.mapM F').run P w1 with
        | halt e w2 => rw [h2] at h; cases h
        | ok ys w2 =>
          rw [h2] at h
          simp only [Result.andThen_ok, Sem.run_pure] at h
          cases h
          simp [mapM_len l ys w1 _ h2]
theorem fn_ok {laid : List (Nat × Nat × Value)} (hX : CtxOk P laid X) {f : FuncId} {fn : Func} {c : Code} (hf : P.funcs[f]? = some fn) (hb : fn.body = some c) (hname : (fn.name == "runtime.NumGoroutine") = false)
    {n nOut nr : Nat} {PS RS : List ShA} {F : TAs PS → Option (TAs RS)} {lp : Nat → Option LSum} (hnr : fn.results.size = nr)
    (hF : ∀ p, F p = exec X fn.ntmps lp c 0 (fnK X fn.results.toList nOut RS) (fnSt n nOut PS p))
    (hl : ∀ p ∈ loopsIn 0 c, ∀ L, lp p.1 = some L → SegOk P laid nOut fn.ntmps p.2 L) : SumOk P laid f (fnSum n nOut nr PS RS F) :=
  fn_runs hX hf hb hname hnr (fun p r h b g a w hb' hc => exec_ok hX hb' c 0 _ _ r (by rw [← hF]; exact h) hl g a w hc)
end
end Go.Proofs.YtmdnnlfoljdfpaaDoor.Mir
