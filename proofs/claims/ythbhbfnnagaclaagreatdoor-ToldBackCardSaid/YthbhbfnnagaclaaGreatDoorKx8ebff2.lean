/- Texts joined. -/
import Derived.Test.YthbhbfnnagaclaaGreatDoorKx8efb29
import Derived.KernelRfl
import Derived.OpenShut
import Derived.ChangeArms
import Derived.ChangeSlices
namespace Go.Proofs.YthbhbfnnagaclaaGreatDoor.Mir
open Go Go.RowKit
def retsA (X : Ctx) (s : St) : List ResultVar → Option (List A)
 | [] => some []
 | .tmp t :: r => match frL s.fr t with
  | .a x => (match retsA X s r with | some l => some (x :: l) | none => none)
  | .tup _ => none
 | .cell p ty :: r => match X.ty ty, frL s.fr p with
  | some i, .a (.one (.ptr n off)) => (match memL s.mem n with
   | some cs => (match subC cs off i.size with
    | some es => (match retsA X s r with
     | some l => bif aggD i.desc then some (.agg es :: l) else (match es with
      | [c] => bif isArr c then none else some (.one c :: l)
      | _ => none)
     | none => none)
    | none => none)
   | none => none)
  | _, _ => none
def notIn (l : List Nat) : List Nat → List Nat
 | [] => []
 | n :: r => bif hasN n l then notIn l r else n :: notIn l r
def blksAll (all : List Nat) (mem : Nat → Option (List C)) : List Nat → Option (List A)
 | [] => some []
 | n :: r => match mem n, blksAll all mem r with
  | some cs, some l => bif allIn (nameL cs) all then some (.agg cs :: l) else none
  | _, _ => none
def fin (X : Ctx) (rv : List ResultVar) (ts : List Tks) (nOut : Nat) (s : St) : Option (List A) :=
 match retsA X s rv with
 | some as =>
  let all := outs nOut ++ notIn (outs nOut) (dedup (nameAs as) [])
  (match blksAll all (memL s.mem) all with
  | some bs => (match tkAs (memL s.mem) (fun n => 2 * idxN n all) 0 ts (as ++ bs) with
   | some (l, _) => some l
   | none => none)
  | none => none)
 | none => none
def fnK (X : Ctx) (rv : List ResultVar) (nOut : Nat) (RS : List ShA) (ex : Ex) (s : St) : Option (TAs RS) :=
 match ex with
 | .exit _ => none
 | _ => match fin X rv (RS.map tsOf) nOut s with
  | some l => decAs 0 RS l
  | none => none
def tksOf (l : List ShA) : List (Nat × Nat) := (specsL (l.map tsOf)).map fun t => (t.1, t.2.1)
def retV (n : Nat) (es : List A) : V :=
 match n, es with
 | 1, e :: _ => .a e
 | n, es => .tup (es.take n)
def argsR : Nat → Nat → List Nat
 | _, 0 => []
 | k, n + 1 => k :: argsR (k + 1) n
def fnSum (n nOut nr : Nat) (PS RS : List ShA) (F : TAs PS → Option (TAs RS)) : Sum where
 ρ := TAs RS
 run as bs := bif Nat.beq as.length n && Nat.beq bs.length nOut then
  (match decAs 0 PS (as ++ bs.map .agg) with | some p => F p | none => none) else none
 out _ _ r := let es := encAs 0 RS r; (retV nr es, (es.drop nr).map cellsA)
 tin := PS.map tsOf
 tks := tksOf RS
def fnSt (n nOut : Nat) (PS : List ShA) (p : TAs PS) : St := withTks (mkSt (argsR 0 n) (outs nOut) (opAs (encAs 0 PS p))) PS (allC (encAs 0 PS p))
theorem allC_cells : ∀ bs : List (List C), allC (bs.map .agg) = catL bs
 | [] => rfl
 | b :: bs => by simp only [List.map_cons, allC, catL, cellsA]; rw [allC_cells bs]
theorem allC_app : ∀ (l l' : List A), allC (l ++ l') = allC l ++ allC l'
 | [], _ => rfl
 | a :: l, l' => by simp only [List.cons_append, allC]; rw [allC_app l l', List.append_assoc]
theorem retV_mem {c : C} {nr : Nat} {es : List A} (h : c ∈ cellsV (retV nr es) ++ catL ((es.drop nr).map cellsA)) : c ∈ allC es := by
 rw [← allC_split es nr]
 rcases List.mem_append.1 h with h | h
 ·refine List.mem_append_left _ ?_
  unfold retV at h
  split at h
  ·rename_i e r
   simpa [cellsV, allC] using h
  ·exact h
 ·exact List.mem_append_right _ h
theorem tksOf_get {l : List ShA} {i E sz : Nat} {t : TS} (h : (specsL (l.map tsOf))[i]? = some (E, sz, t)) : (tksOf l)[i]? = some (E, sz) := by
 unfold tksOf; rw [List.getElem?_map, h]; rfl
theorem tinQ_iff {l : List Tks} {p E sz : Nat} : tinQ l p = some (E, sz) ↔ ∃ t, (specsL l)[p]? = some (E, sz, t) := by
 unfold tinQ
 constructor
 ·intro h
  obtain ⟨⟨E', sz', t⟩, h1, h2⟩ := Option.map_eq_some_iff.1 h
  obtain ⟨rfl, rfl⟩ := Prod.mk.inj h2
  exact ⟨t, h1⟩
 ·rintro ⟨t, h⟩
  rw [h]; rfl
theorem argsR_get : ∀ (n k i : Nat), i < n → (argsR k n)[i]? = some (k + i)
 | 0, _, _, h => by omega
 | n + 1, k, 0, _ => by simp [argsR]
 | n + 1, k, i + 1, h => by simp only [argsR, List.getElem?_cons_succ]; rw [argsR_get n (k + 1) i (by omega)]; congr 1; omega
theorem argsR_len : ∀ (n k : Nat), (argsR k n).length = n
 | 0, _ => rfl
 | n + 1, k => by simp [argsR, argsR_len n]
theorem outs_len : ∀ n : Nat, (outs n).length = n
 | 0 => rfl
 | n + 1 => by simp [outs, outs_len n]
theorem outs_get : ∀ (n i : Nat), i < n → (outs n)[i]? = some (2 * i)
 | 0, _, h => by omega
 | n + 1, i, h => by
  simp only [outs]
  rcases Nat.lt_or_ge i n with h1 | h1
  ·rw [List.getElem?_append_left (by rw [outs_len]; exact h1)]; exact outs_get n i h1
  ·obtain rfl : i = n := by omega
   rw [List.getElem?_append_right (by rw [outs_len]; exact h1), outs_len]; simp
theorem outs_nodup (n : Nat) : (outs n).Nodup := by
 rw [List.Nodup, List.pairwise_iff_getElem]
 intro i j hi hj hij e
 have e1 := outs_get n i (by rw [outs_len] at hi; exact hi)
 have e2 := outs_get n j (by rw [outs_len] at hj; exact hj)
 rw [List.getElem?_eq_getElem hi] at e1
 rw [List.getElem?_eq_getElem hj, ← e] at e2
 have := Option.some.inj (e1.symm.trans e2)
 omega
theorem notIn_mem {l : List Nat} : ∀ {r : List Nat} {n : Nat}, n ∈ notIn l r ↔ n ∈ r ∧ n ∉ l
 | [], n => by simp [notIn]
 | m :: r, n => by
  unfold notIn
  cases hb : hasN m l with
  | true =>
   have := hasN_iff.1 hb
   simp only [cond_true, notIn_mem, List.mem_cons]
   constructor
   ·rintro ⟨h1, h2⟩; exact ⟨.inr h1, h2⟩
   ·rintro ⟨rfl | h1, h2⟩
    ·exact absurd this h2
    ·exact ⟨h1, h2⟩
  | false =>
   have : m ∉ l := fun e => by rw [hasN_iff.2 e] at hb; cases hb
   simp only [cond_false, List.mem_cons, notIn_mem]
   constructor
   ·rintro (rfl | ⟨h1, h2⟩)
    ·exact ⟨.inl rfl, this⟩
    ·exact ⟨.inr h1, h2⟩
   ·rintro ⟨rfl | h1, h2⟩
    ·exact .inl rfl
    ·exact .inr ⟨h1, h2⟩
theorem notIn_nodup {l : List Nat} : ∀ {r : List Nat}, r.Nodup → (notIn l r).Nodup
 | [], _ => List.nodup_nil
 | m :: r, h => by
  rw [List.nodup_cons] at h
  unfold notIn
  cases hasN m l with
  | true => exact notIn_nodup h.2
  | false => exact List.nodup_cons.2 ⟨fun e => h.1 (notIn_mem.1 e).1, notIn_nodup h.2⟩
theorem RepAs.len : ∀ {as : List A} {vs : List Value} {g : Gh}, RepAs g as vs → as.length = vs.length
 | [], vs, g, h => by have h : vs = [] := h; simp [h]
 | a :: as, vs, g, ⟨x, r, h1, _, h3⟩ => by subst h1; simp [h3.len]
section
variable {P : Program} {b : Base} {N nOut : Nat} {g : Gh} {a : Act} {w : World} {X : Ctx} {laid : List (Nat × Nat × Value)}
def rvSem (tmps : Array Value) : ResultVar → Sem Value
 | .tmp t => pure (tmps.getD t undef)
 | .cell p t => do loadVar t (← asAddr (tmps.getD p undef))
theorem results_eq (fn : Func) (tmps : Array Value) : results fn tmps = (do let vs ← fn.results.mapM (rvSem tmps); pure (if h : vs.size = 1 then vs[0] else .tuple vs)) := by
 unfold results
 congr 1
theorem rets_ok (hT : TyOk P X.ty) {s : St} (hc : Con b N g (frL s.fr) (memL s.mem) a w) : ∀ {rv : List ResultVar} {as : List A}, retsA X s rv = some as →
  ∃ vs : List Value, (rv.mapM (rvSem a.tmps)).run P w = .ok vs w ∧ RepAs g as vs
 | [], as, h => by
  obtain rfl := (Option.some.inj h).symm
  exact ⟨[], rfl, rfl⟩
 | .tmp t :: r, as, h => by
  unfold retsA at h
  split at h
  ·rename_i x ex
   split at h
   ·rename_i l el
    obtain rfl := (Option.some.inj h).symm
    obtain ⟨vs, h1, h2⟩ := rets_ok hT hc el
    have hx := hc.rep t
    rw [ex] at hx
    refine ⟨a.tmps.getD t undef :: vs, ?_, ⟨_, _, rfl, hx, h2⟩⟩
    rw [List.mapM_cons, Sem.run_bind]
    simp only [rvSem, Sem.run_pure, Result.andThen_ok, Sem.run_bind, h1]
   ·cases h
  ·cases h
 | .cell p ty :: r, as, h => by
  unfold retsA at h
  split at h
  ·rename_i i n off ei ep
   split at h
   ·rename_i cs ecs
    split at h
    ·rename_i es ees
     split at h
     ·rename_i l el
      obtain ⟨vs, h1, h2⟩ := rets_ok hT hc el
      have hp := hc.rep p
      rw [ep] at hp
      obtain ⟨β, hj, hv⟩ := hp
      have run : ∀ (d : Delta), (pload i (memL s.mem) (.a (.one (.ptr n off)))).run some = some d → ∃ x, (loadVar ty ⟨β, off, none⟩).run P w = .ok x w ∧ RepV g d.v x := fun d hd => by
       obtain ⟨x, q1, q2, _⟩ := pload_ok (P := P) hT ei hc (x := .a (.one (.ptr n off))) (vx := .pointer (some ⟨β, off, none⟩)) ⟨β, hj, rfl⟩ hd
       refine ⟨x, ?_, q2⟩
       simpa [Instr.loadAt, Instr.sureAddr] using q1
      have fin' : ∀ x0 : A, (∃ x, (loadVar ty ⟨β, off, none⟩).run P w = .ok x w ∧ RepA g x0 x) → as = x0 :: l → ∃ vs : List Value, ((ResultVar.cell p ty :: r).mapM (rvSem a.tmps)).run P w = .ok vs w ∧ RepAs g as vs := fun x0 ⟨x, q1, q2⟩ e => by
       subst e
       refine ⟨x :: vs, ?_, ⟨_, _, rfl, q2, h2⟩⟩
       rw [List.mapM_cons, Sem.run_bind]
       simp only [rvSem, Sem.run_bind, hv, asAddr, Sem.run_pure, Result.andThen_ok, q1, h1]
      cases hd : aggD i.desc with
      | true =>
       rw [hd] at h
       obtain rfl := (Option.some.inj h).symm
       exact fin' (.agg es) (run ⟨.a (.agg es), [], [n]⟩ (by simp [pload, ploadAt, ecs, ees, hd, Pl.run])) rfl
      | false =>
       rw [hd] at h
       simp only [cond_false] at h
       cases es with
       | nil => cases h
       | cons c q =>
        cases q with
        | cons _ _ => cases h
        | nil =>
         simp only at h
         cases hq : isArr c with
         | true => rw [hq] at h; cases h
         | false =>
          rw [hq] at h
          obtain rfl := (Option.some.inj h).symm
          exact fin' (.one c) (run ⟨one c, [], [n]⟩ (by simp [pload, ploadAt, ecs, ees, hd, hq, Pl.run])) rfl
     ·cases h
    ·cases h
   ·cases h
  ·cases h
theorem blksAll_vals {fr : Nat → V} {mem : Nat → Option (List C)} {all : List Nat} (hc : Con b N g fr mem a w) : ∀ {l : List Nat} {bs : List A}, blksAll all mem l = some bs → (∀ n ∈ l, n % 2 = 0) →
  bs.length = l.length ∧ (∀ (i n : Nat), l[i]? = some n → ∃ cs, mem n = some cs ∧ bs[i]? = some (.agg cs)) ∧ (∀ m ∈ nameAs bs, m ∈ all) ∧
  ∃ ys : List Value, RepAs g bs ys ∧ ∀ (i n : Nat), l[i]? = some n → ∃ β vs ty, g.j n = some β ∧ w.heap[β]? = some (.cells vs ty (0, 0)) ∧ ys[i]? = some (.agg vs) ∧ (∀ o, g.K β o = none) ∧ (b.M β ∨ b.w0.heap.size ≤ β)
 | [], bs, h, _ => by
  obtain rfl := (Option.some.inj h).symm
  exact ⟨rfl, fun i n e => (by simp at e), fun m hm => (by cases hm), [], rfl, fun i n e => (by simp at e)⟩
 | n :: ns, bs, h, he => by
  unfold blksAll at h
  split at h
  ·rename_i cs l e1 e2
   cases ha : allIn (nameL cs) all with
   | false => rw [ha] at h; cases h
   | true =>
    rw [ha] at h
    obtain rfl := (Option.some.inj h).symm
    obtain ⟨h1, h2, h3, ys, k1, k2⟩ := blksAll_vals hc e2 (fun m hm => he m (by simp [hm]))
    obtain ⟨β, vs, ty, q1, q2, q3, q4, q5⟩ := hc.blk n cs (he n (by simp)) e1
    refine ⟨by simp [h1], fun i m e => ?_, fun m hm => ?_, .agg vs :: ys, ⟨_, _, rfl, ⟨vs.toList, by simp, q3⟩, k1⟩, fun i m e => ?_⟩
    ·cases i with
     | zero => simp at e; subst e; exact ⟨cs, e1, rfl⟩
     | succ i => simp at e; simpa using h2 i m e
    ·rcases List.mem_append.1 hm with h | h
     ·exact allIn_spec ha m h
     ·exact h3 m h
    ·cases i with
     | zero => simp at e; subst e; exact ⟨β, vs, ty, q1, q2, rfl, q4, q5⟩
     | succ i => simp at e; simpa using k2 i m e
  ·cases h
theorem fn_runs {laid : List (Nat × Nat × Value)} (hX : CtxOk P laid X) {f : FuncId} {fn : Func} {c : Code} (hf : P.funcs[f]? = some fn) (hb : fn.body = some c) (hname : (fn.name == "runtime.NumGoroutine") = false)
  {n nOut nr : Nat} {PS RS : List ShA} {F : TAs PS → Option (TAs RS)} (hnr : fn.results.size = nr)
  (hR : ∀ (p : TAs PS) (r : TAs RS), F p = some r → ∀ (b : Base) (g : Gh) (a : Act) (w : World), BaseOk laid nOut b → Con b fn.ntmps g (frL (fnSt n nOut PS p).fr) (memL (fnSt n nOut PS p).mem) a w → Runs P b fn.ntmps c (fnK X fn.results.toList nOut RS) r a w) : SumOk P laid f (fnSum n nOut nr PS RS F) := by
 intro as bs r hr g w vs hlaid hwhole haway hknown hA hB hTk hLv
 simp only [fnSum] at hr
 cases hk : (Nat.beq as.length n && Nat.beq bs.length nOut) with
 | false => rw [hk] at hr; cases hr
 | true =>
  rw [hk] at hr
  simp only [cond_true] at hr
  simp only [Bool.and_eq_true] at hk
  have hn := Nat.eq_of_beq_eq_true hk.1
  have hno := Nat.eq_of_beq_eq_true hk.2
  split at hr
  ·rename_i p ep
   obtain ⟨da, db⟩ := decAs_op ep
   have hvl : vs.length = n := by rw [← hn]; exact hA.len.symm
   let b : Base := { w0 := w, M := fun β => ∃ i, i < bs.length ∧ g.j (2 * i) = some β, T := Handed g, K0 := g.K, j0 := g.j }
   have hbase : BaseOk laid nOut b := ⟨⟨hlaid, hwhole, haway⟩, fun n β e => by
    obtain ⟨i, h1, h2⟩ := hB.dom n β e
    exact ⟨i, by omega, h1⟩⟩
   let a0 : Act := { tmps := vs.toArray ++ Array.replicate (fn.ntmps - vs.toArray.size) undef, defers := [] }
   have hel : (opAs (encAs 0 PS p)).length = n + nOut := by rw [da, List.length_append, List.length_map]; omega
   have hlen : (argsR 0 n).length ≤ (opAs (encAs 0 PS p)).length := by rw [argsR_len, hel]; omega
   have hdl : (outs nOut).length ≤ ((opAs (encAs 0 PS p)).drop (argsR 0 n).length).length := by rw [outs_len, List.length_drop, hel, argsR_len]; omega
   obtain ⟨z1, z2⟩ := zipM_get hdl
   have hoev : ∀ m ∈ outs nOut, m % 2 = 0 := fun m hm => by
    obtain ⟨i, hi, ei⟩ := List.mem_iff_getElem.1 hm
    have := outs_get nOut i (by rw [outs_len] at hi; exact hi)
    rw [List.getElem?_eq_getElem hi, ei] at this
    obtain rfl := Option.some.inj this
    omega
   have hmem0 : (fnSt n nOut PS p).mem = zipM (outs nOut) ((opAs (encAs 0 PS p)).drop (argsR 0 n).length) ++ tkCells 0 (specsL (PS.map tsOf)) (allC (encAs 0 PS p)) := by
    show (mkSt _ _ _).mem ++ _ = _
    rw [mkSt_mem _ _ _ hlen]
   obtain ⟨mm1, mm2⟩ := zipM_even (as := (opAs (encAs 0 PS p)).drop (argsR 0 n).length) hoev (specsL (PS.map tsOf)) (allC (encAs 0 PS p))
   have hmemeq : ∀ m, m % 2 = 0 → memL (fnSt n nOut PS p).mem m = memL (zipM (outs nOut) ((opAs (encAs 0 PS p)).drop (argsR 0 n).length)) m := fun m hm => by rw [hmem0]; exact mm2 m hm
   have hmemodd : ∀ m, m % 2 = 1 → memL (fnSt n nOut PS p).mem m = memL (tkCells 0 (specsL (PS.map tsOf)) (allC (encAs 0 PS p))) m := fun m hm => by rw [hmem0]; exact mm1 m hm
   have hmem : ∀ m cs, m % 2 = 0 → memL (fnSt n nOut PS p).mem m = some cs → ∃ i cs0, i < nOut ∧ m = 2 * i ∧ bs[i]? = some cs0 ∧ ∀ (g : Gh) (xs : List Value), RepL g cs0 xs → RepL g cs xs := fun m cs hm2 e => by
    rw [hmemeq m hm2] at e
    by_cases hm : m ∈ outs nOut
    ·obtain ⟨i, hi, ei⟩ := List.mem_iff_getElem.1 hm
     have hi' : i < nOut := by rw [outs_len] at hi; exact hi
     have ei' : (outs nOut)[i]? = some m := by rw [List.getElem?_eq_getElem hi, ei]
     obtain rfl := Option.some.inj ((outs_get nOut i hi').symm.trans ei')
     obtain ⟨a1, q1, q2⟩ := z2 (outs_nodup nOut) i _ ei'
     rw [q2] at e
     obtain rfl := Option.some.inj e
     rw [List.getElem?_drop, argsR_len] at q1
     have hbi : bs[i]? = some bs[i] := List.getElem?_eq_getElem (by omega)
     obtain ⟨a2, s1, s2, s3⟩ := db (n + i) (.agg bs[i]) (by rw [List.getElem?_append_right (by omega), hn, Nat.add_sub_cancel_left, List.getElem?_map, hbi]; rfl)
     obtain rfl := Option.some.inj (q1.symm.trans s1)
     obtain ⟨cs', rfl⟩ := s3 _ rfl
     refine ⟨i, bs[i], hi', rfl, hbi, fun g xs hx => ?_⟩
     obtain ⟨ys, y1, y2⟩ := s2 g (.agg xs.toArray) ⟨xs, rfl, hx⟩
     injection y1 with y1
     have : xs = ys := by simpa using y1
     rw [this]; exact y2
    ·rw [z1 m hm] at e; cases e
   have htin : ∀ (q E sz : Nat), tinQ (PS.map tsOf) q = some (E, sz) → ∀ m, m = 2 * q + 1 → ∃ E' sz' r, memL (tkCells 0 (specsL (PS.map tsOf)) (allC (encAs 0 PS p))) m = some (.tkt true 0 E' sz' :: r) := fun q E sz hq m hm => by
    obtain ⟨t, ht⟩ := tinQ_iff.1 hq
    rcases tkCells_get (cells := allC (encAs 0 PS p)) 0 (specsL (PS.map tsOf)) m with ⟨_, E', sz', _, _, _, k3⟩ | ⟨_, k2⟩
    ·exact ⟨E', sz', _, k3⟩
    ·exact absurd hm (by have := k2 q E sz t ht; omega)
   have hCon : Con b fn.ntmps g (frL (fnSt n nOut PS p).fr) (memL (fnSt n nOut PS p).mem) a0 w := by
    refine ⟨fun u => ?_, rfl, ?_, hknown, fun m cs hm2 e => ?_, fun m1 m2 β k1 k2 => ?_, fun m e => ?_, fun m cs hm1 e => ?_, fun m v τ e => ?_, fun m1 m2 v1 v2 E1 E2 sz1 sz2 r1 r2 β e e' cap cap' q1 q2 q3 q4 => ?_, fun _ _ _ e => e, fun _ _ _ e => .inl e, fun _ _ e => e, Only.refl _ _, fun n v τ e ho => by have := (hTk.dom n v τ e).1; omega⟩
    ·show RepV g (frL (mkSt (argsR 0 n) (outs nOut) (opAs (encAs 0 PS p))).fr u) _
     rcases mkSt_fr (argsR 0 n) (outs nOut) (opAs (encAs 0 PS p)) u hlen with h | ⟨i, a1, h1, h2, h3⟩
     ·rw [h]; trivial
     ·rw [h3]
      have hi : i < n := by have := (List.getElem?_eq_some_iff.1 h1).1; rwa [argsR_len] at this
      rw [argsR_get n 0 i hi] at h1
      obtain rfl : u = i := by have := Option.some.inj h1; omega
      have hai : as[u]? = some as[u] := List.getElem?_eq_getElem (by omega)
      obtain ⟨x, hx1, hx2⟩ := hA.get hai
      obtain ⟨a2, s1, s2, _⟩ := db u as[u] (by rw [List.getElem?_append_left (by omega)]; exact hai)
      obtain rfl := Option.some.inj (h2.symm.trans s1)
      have : a0.tmps.getD u undef = x := by
       show (vs.toArray ++ Array.replicate _ undef).getD u undef = x
       rw [Array.getD_eq_getD_getElem?, Array.getElem?_append_left (by simp; omega)]
       simp [hx1]
      rw [this]
      exact s2 g x hx2
    ·show fn.ntmps ≤ (vs.toArray ++ Array.replicate _ undef).size
     simp; omega
    ·obtain ⟨i, cs0, hi, rfl, e1, e2⟩ := hmem m cs hm2 e
     obtain ⟨β, us, ty, q1, q2, q3, q4⟩ := hB.blk i cs0 e1
     exact ⟨β, us, ty, q1, q2, e2 g _ q3, q4, .inl ⟨i, by omega, q1⟩⟩
    ·obtain ⟨i, rfl, _⟩ := hB.dom m1 β k1
     obtain ⟨k, rfl, _⟩ := hB.dom m2 β k2
     rw [hB.inj i k β k1 k2]
    ·cases hg : g.j m with
     | none => rfl
     | some β =>
      exfalso
      obtain ⟨i, rfl, hi⟩ := hB.dom m β hg
      rcases e with e | e
      ·rw [hmemeq _ (by omega)] at e
       obtain ⟨a1, _, q2⟩ := z2 (outs_nodup nOut) i _ (outs_get nOut i (by omega))
       rw [q2] at e; cases e
      ·omega
    ·rw [hmemodd m hm1] at e
     rcases tkCells_get (cells := allC (encAs 0 PS p)) 0 (specsL (PS.map tsOf)) m with ⟨q, E, sz, t, k1, k2, k3⟩ | ⟨k1, _⟩
     ·rw [k3] at e
      obtain rfl := Option.some.inj e
      obtain ⟨τ, t1, t2⟩ := hTk.tot q E sz (tinQ_iff.2 ⟨t, k2⟩)
      rw [show 2 * q + 1 = m by omega] at t1
      refine ⟨true, 0, E, sz, _, rfl, fun _ => ⟨τ, t1, fun β e' cap et => ⟨t2 β e' cap et, .inl ⟨m, e', cap, by rw [t1, et]⟩⟩⟩, ?_⟩
      obtain rfl : m = 2 * q + 1 := by omega
      rw [Nat.zero_add]
      refine tailC_ok (fun l xs hm => ?_)
      have hm := decAs_lvx ep hm
      rw [allC_app, allC_cells] at hm
      exact hLv q l xs hm E sz (tinQ_iff.2 ⟨t, k2⟩)
     ·rw [k1] at e; cases e
    ·obtain ⟨rfl, q, E, sz, rfl, hq⟩ := hTk.dom m v τ e
     obtain ⟨E', sz', r', k⟩ := htin q E sz hq _ rfl
     exact ⟨by omega, true, 0, E', sz', r', by rw [hmemodd _ (by omega)]; exact k, Nat.le_refl _⟩
    ·obtain ⟨rfl, _⟩ := hTk.dom m1 v1 _ q3
     obtain ⟨rfl, _⟩ := hTk.dom m2 v2 _ q4
     exact hTk.inj m1 m2 β e e' cap cap' q3 q4
   have hrun := hR p r hr b g a0 w hbase hCon
   have done : ∀ (ex : Ex) (s' : St) (g' : Gh) (a' : Act) (w' : World), Con b fn.ntmps g' (frL s'.fr) (memL s'.mem) a' w' → fnK X fn.results.toList nOut RS ex s' = some r →
     a'.defers = [] ∧ ∃ v, (results fn a'.tmps).run P w' = .ok v w' ∧ ∃ v', Ending.returned v = .returned v' ∧ ∃ g2, Ends (fnSum n nOut nr PS RS F) as bs r g w v' w' g2 := by
    intro ex s' g' a' w' hc hK
    refine ⟨hc.defers, ?_⟩
    have hfin : ∃ l, fin X fn.results.toList (RS.map tsOf) nOut s' = some l ∧ decAs 0 RS l = some r := by
     unfold fnK at hK
     cases ex <;> first
      | cases hK
      | (simp only at hK
         split at hK
         ·exact ⟨_, ‹_›, hK⟩
         ·cases hK)
    obtain ⟨l, hl1, hl2⟩ := hfin
    unfold fin at hl1
    split at hl1
    ·rename_i ras er
     dsimp only at hl1
     generalize hall : outs nOut ++ notIn (outs nOut) (dedup (nameAs ras) []) = all at hl1
     split at hl1
     ·rename_i rbs erb
      split at hl1
      case h_2 => cases hl1
      rename_i al tus era
      obtain rfl := Option.some.inj hl1
      obtain ⟨us, hus, hru⟩ := rets_ok (P := P) hX.ty hc er
      obtain ⟨tra, trb⟩ := tkAs_get era
      obtain ⟨ea, eb⟩ := decAs_get hl2
      obtain ⟨dd1, dd2⟩ := dedup_spec (nameAs ras) [] List.nodup_nil
      have hnd : all.Nodup := by
       rw [← hall, List.nodup_append]
       exact ⟨outs_nodup nOut, notIn_nodup dd1, fun x hx y hy e => (notIn_mem.1 hy).2 (e ▸ hx)⟩
      have hin : ∀ m ∈ nameAs ras, m ∈ all := fun m hm => by
       rw [← hall, List.mem_append]
       by_cases h : m ∈ outs nOut
       ·exact .inl h
       ·exact .inr (notIn_mem.2 ⟨(dd2 m).2 (.inl hm), h⟩)
      have hallo : ∀ i, i < nOut → all[i]? = some (2 * i) := fun i hi => by
       rw [← hall, List.getElem?_append_left (by rw [outs_len]; exact hi)]; exact outs_get nOut i hi
      have hallno : ∀ i m, nOut ≤ i → all[i]? = some m → m ∉ outs nOut := fun i m hi e => by
       rw [← hall, List.getElem?_append_right (by rw [outs_len]; exact hi)] at e
       exact (notIn_mem.1 (List.mem_of_getElem? e)).2
      have halle : ∀ m, m ∈ all → m % 2 = 0 := fun m hm => by
       rw [← hall, List.mem_append] at hm
       rcases hm with hm | hm
       ·exact hoev m hm
       ·have h1 := (notIn_mem.1 hm).1
        rw [dd2] at h1
        rcases h1 with h1 | h1
        ·obtain ⟨β, hβ⟩ := names_As hru m h1
         exact hc.even hβ
        ·cases h1
      obtain ⟨ra, rb, rn, ys, hys, hyv⟩ := blksAll_vals hc erb halle
      obtain ⟨thc, HA, HR, HL⟩ := tkAs_spec hc (g1 := g') rfl era (hru.append hys)
      have hlall : nOut ≤ all.length := by rw [← hall, List.length_append, outs_len]; omega
      let g2 : Gh := { K := g'.K, j := fun m => if m % 2 = 0 then (match all[m / 2]? with | some n => g'.j n | none => none) else none, th := fun m v => if v = 0 ∧ m % 2 = 1 ∧ m / 2 < (tksOf RS).length then some ((thc m 0).getD .none) else none }
      have g2j' : ∀ m β, g2.j m = some β → ∃ n, g'.j n = some β := fun m β e => by
       have e' : (if m % 2 = 0 then (match all[m / 2]? with | some n => g'.j n | none => none) else none) = some β := e
       split at e'
       ·split at e'
        ·exact ⟨_, e'⟩
        ·cases e'
       ·cases e'
      have g2th : ∀ n v τ, thc n v = some τ → g2.th n v = some τ := fun n v τ e => by
       obtain ⟨rfl, q, E, sz, t, h1, h2, _⟩ := HA.own n v τ e
       have := (List.getElem?_eq_some_iff.1 (tksOf_get h1)).1
       show (if _ then _ else _) = _
       rw [if_pos ⟨rfl, by omega, by omega⟩, e]; rfl
      have g2th' : ∀ n v β e cap, g2.th n v = some (.own β e cap) → v = 0 ∧ thc n 0 = some (.own β e cap) := fun n v β e cap h => by
       have h' : (if v = 0 ∧ n % 2 = 1 ∧ n / 2 < (tksOf RS).length then some ((thc n 0).getD .none) else none) = some (Tk.own β e cap) := h
       split at h'
       ·rename_i hc
        refine ⟨hc.1, ?_⟩
        cases ht : thc n 0 with
        | none => rw [ht] at h'; cases h'
        | some τ => rw [ht] at h'; exact h'
       ·cases h'
      have hHm : ∀ n β e cap, thc n 0 = some (.own β e cap) → ∃ (q E sz : Nat) (t : TS), (specsL (RS.map tsOf))[q]? = some (E, sz, t) ∧ n = 2 * (0 + q) + 1 ∧ OwnAt g' b w' β e cap E sz := fun n β e cap eh => by
       obtain ⟨_, q, E, sz, t, k1, k2, k3⟩ := HA.own n 0 _ eh
       obtain ⟨m, v, y1, y2⟩ := k3 β e cap rfl
       obtain ⟨_, u0⟩ := HA.mem _ y1
       obtain ⟨τ, u1, u2⟩ := hc.aliveAt u0
       obtain rfl := Option.some.inj (u1.symm.trans y2)
       exact ⟨q, E, sz, t, k1, k2, u2 _ _ _ rfl⟩
      have g2j : ∀ i, g2.j (2 * i) = match all[i]? with | some n => g'.j n | none => none := fun i => by
       show (if 2 * i % 2 = 0 then _ else _) = _
       rw [if_pos (by omega), show 2 * i / 2 = i by omega]
      have hidx : ∀ m ∈ all, ∀ β, g'.j m = some β → g2.j (2 * idxN m all) = some β := fun m hm β e => by
       rw [g2j, idxN_spec hm]; exact e
      have hrlen : us.length = nr := by
       have h1 := hus
       have : us.length = fn.results.toList.length := mapM_len fn.results.toList us w' w' h1
       rw [this, Array.length_toList, hnr]
      have hnas : ras.length = nr := by rw [hru.len, hrlen]
      have hres : (results fn a'.tmps).run P w' = .ok (if h : us.toArray.size = 1 then us.toArray[0] else .tuple us.toArray) w' := by
       rw [results_eq, Sem.run_bind, Array.mapM_eq_mapM_toList, Sem.run_map, hus]
       rfl
      have hesl : (encAs 0 RS r).length = nr + all.length := by rw [ea, tra, List.length_append, ra, hnas]
      have hnap : ∀ {l l' : List A} {m : Nat}, m ∈ nameAs (l ++ l') → m ∈ nameAs l ∨ m ∈ nameAs l' := by
       intro l l' m
       induction l with
       | nil => intro h; exact .inr h
       | cons x l ih =>
        intro h
        simp only [List.cons_append, nameAs, List.mem_append] at h ⊢
        rcases h with h | h
        ·exact .inl (.inl h)
        ·exact (ih h).imp .inr id
      have hAll : RepAs g2 al (us ++ ys) := HR g2 rfl (fun m hm β e => hidx m ((hnap hm).elim (hin m) (rn m)) β e) g2th
      have hRets : RepAs g2 ((encAs 0 RS r).take nr) us := by
       refine RepAs.mk (by rw [List.length_take, hesl, hrlen]; omega) (fun i x hx => ?_)
       have hi : i < nr := by have := (List.getElem?_eq_some_iff.1 hx).1; rw [List.length_take] at this; omega
       rw [List.getElem?_take, if_pos hi] at hx
       have hri : al[i]? = some al[i] := List.getElem?_eq_getElem (by rw [tra, List.length_append]; omega)
       obtain ⟨y, hy1, hy2⟩ := hAll.get hri
       rw [List.getElem?_append_left (by omega)] at hy1
       obtain ⟨x2, s1, s2, _⟩ := eb i _ hri
       obtain rfl := Option.some.inj (hx.symm.trans s1)
       exact ⟨y, hy1, s2 g2 y hy2⟩
      have hblk : ∀ (i : Nat) (cs : List C), (((encAs 0 RS r).drop nr).map cellsA)[i]? = some cs → ∃ m β vs ty, all[i]? = some m ∧ g'.j m = some β ∧ w'.heap[β]? = some (.cells vs ty (0, 0)) ∧ RepL g2 cs vs.toList ∧ ∀ o, g'.K β o = none := fun i cs e => by
       rw [List.getElem?_map, List.getElem?_drop] at e
       obtain ⟨x, hx1, hx2⟩ := Option.map_eq_some_iff.1 e
       have hi : i < all.length := by have := (List.getElem?_eq_some_iff.1 hx1).1; omega
       have hai : all[i]? = some all[i] := List.getElem?_eq_getElem hi
       obtain ⟨cs0, q1, q3⟩ := rb i _ hai
       obtain ⟨cs1, q4⟩ := trb (nr + i) cs0 (by rw [List.getElem?_append_right (by omega), hnas, Nat.add_sub_cancel_left]; exact q3)
       obtain ⟨y, hy1, hy2⟩ := hAll.get q4
       rw [List.getElem?_append_right (by omega), hrlen, Nat.add_sub_cancel_left] at hy1
       obtain ⟨β, vs, ty, k1, k2, k3, k4, _⟩ := hyv i _ hai
       obtain rfl := Option.some.inj (hy1.symm.trans k3)
       obtain ⟨x2, s1, s2, s3⟩ := eb (nr + i) _ q4
       obtain rfl := Option.some.inj (hx1.symm.trans s1)
       obtain ⟨cs', rfl⟩ := s3 _ rfl
       subst hx2
       obtain ⟨zs, y1, y2⟩ := s2 g2 _ hy2
       injection y1 with y1
       refine ⟨all[i], β, vs, ty, hai, k1, k2, ?_, k4⟩
       show RepL g2 cs' vs.toList
       rw [y1]; exact y2
      have hol : (((encAs 0 RS r).drop nr).map cellsA).length = all.length := by rw [List.length_map, List.length_drop, hesl]; omega
      refine ⟨_, hres, _, rfl, g2, ⟨hc.old, ?_, hc.known, ?_, ⟨?_, ?_, ?_⟩, ?_, ?_, ?_, ⟨?_, ?_, ?_⟩, ?_, ?_, ?_⟩⟩
      ·intro β o v e
       exact hc.new β o v e
      ·show RepV g2 (retV nr (encAs 0 RS r)) _
       by_cases h1 : nr = 1
       ·subst h1
        have hu1 : us.length = 1 := hrlen
        obtain ⟨x, rfl⟩ := List.length_eq_one_iff.1 hu1
        rw [dif_pos (by simp)]
        obtain ⟨e0, rest, he⟩ : ∃ e0 rest, encAs 0 RS r = e0 :: rest := by
         cases h : encAs 0 RS r with
         | nil => rw [h] at hesl; simp at hesl; omega
         | cons e0 rest => exact ⟨e0, rest, rfl⟩
        rw [he] at hRets ⊢
        obtain ⟨y, q, e1, e2, _⟩ := hRets
        obtain ⟨rfl, rfl⟩ := List.cons.inj e1
        exact e2
       ·rw [dif_neg (by simp [hrlen, h1])]
        have : retV nr (encAs 0 RS r) = .tup ((encAs 0 RS r).take nr) := by
         unfold retV
         split
         ·exact absurd rfl h1
         ·rfl
        rw [this]
        exact ⟨us, rfl, hRets⟩
      ·intro i cs e
       obtain ⟨m, β, vs', ty, q1, k1, k2, k3, k4⟩ := hblk i cs e
       exact ⟨β, vs', ty, by rw [g2j, q1]; exact k1, k2, k3, k4⟩
      ·intro i k β e1 e2
       rw [g2j] at e1 e2
       split at e1
       ·rename_i m1 f1
        split at e2
        ·rename_i m2 f2
         have := hc.inj m1 m2 β e1 e2
         subst this
         obtain ⟨h1, g1'⟩ := List.getElem?_eq_some_iff.1 f1
         obtain ⟨h2, g2'⟩ := List.getElem?_eq_some_iff.1 f2
         exact (List.getElem_inj hnd).1 (g1'.trans g2'.symm)
        ·cases e2
       ·cases e1
      ·intro m β e
       have e' : (if m % 2 = 0 then (match all[m / 2]? with | some n => g'.j n | none => none) else none) = some β := e
       split at e'
       ·split at e'
        ·rename_i f1
         refine ⟨m / 2, by omega, ?_⟩
         show m / 2 < (((encAs 0 RS r).drop nr).map cellsA).length
         rw [hol]; exact (List.getElem?_eq_some_iff.1 f1).1
        ·cases e'
       ·cases e'
      ·show bs.length ≤ (((encAs 0 RS r).drop nr).map cellsA).length
       rw [hol]; omega
      ·intro i hi
       rw [g2j, hallo i (by omega)]
       obtain ⟨β, _, _, q1, _⟩ := hB.blk i bs[i] (List.getElem?_eq_getElem hi)
       rw [q1]
       exact hc.out _ _ q1
      ·intro i β hi e
       rw [g2j] at e
       split at e
       ·rename_i m f1
        obtain ⟨β', _, _, k1, _, _, _, k5⟩ := hyv i m f1
        obtain rfl := Option.some.inj (e.symm.trans k1)
        rcases k5 with ⟨k, hk, hj⟩ | k5
        ·exfalso
         have := hc.out _ _ hj
         have := hc.inj m (2 * k) β e this
         subst this
         exact hallno i _ (by omega) f1 (outs_spec (by omega))
        ·exact k5
       ·cases e
      ·intro q E sz hq
       have hql := (List.getElem?_eq_some_iff.1 hq).1
       refine ⟨(thc (2 * q + 1) 0).getD .none, ?_, fun β e cap et => ?_⟩
       ·show (if _ then _ else _) = _
        rw [if_pos ⟨rfl, by omega, by have : (2 * q + 1) / 2 = q := by omega
                                      rw [this]; exact hql⟩]
       ·cases ht : thc (2 * q + 1) 0 with
        | none => rw [ht] at et; cases et
        | some τ =>
         rw [ht] at et
         simp only [Option.getD_some] at et
         subst et
         obtain ⟨q', E', sz', t, k1, k2, O⟩ := hHm _ β e cap ht
         have : q' = q := by omega
         subst this
         have := tksOf_get k1
         have hq' : (tksOf RS)[q']? = some (E, sz) := hq
         rw [this] at hq'
         obtain ⟨rfl, rfl⟩ := Prod.mk.inj (Option.some.inj hq')
         exact ⟨O.row, O.room, O.most, O.dark, fun m em => by
          obtain ⟨n2, e2⟩ := g2j' m β em
          exact O.mine n2 e2⟩
      ·intro n m β e e' cap cap' h1 h2
       exact HA.inj n m β e e' cap cap' (g2th' _ _ _ _ _ h1).2 (g2th' _ _ _ _ _ h2).2
      ·intro m v τ h
       have h' : (if v = 0 ∧ m % 2 = 1 ∧ m / 2 < (tksOf RS).length then some ((thc m 0).getD .none) else none) = some τ := h
       split at h'
       ·rename_i hc
        refine ⟨hc.1, m / 2, _, _, by omega, List.getElem?_eq_getElem hc.2.2⟩
       ·cases h'
      ·intro q l xs hm E sz hq
       obtain ⟨k, E2, sz2, t2, y1, y2, τ2, y3, y4⟩ := HL _ l xs (decAs_lvx hl2 (retV_mem hm))
       obtain rfl : k = q := by omega
       have := tksOf_get y1
       have hq' : (tksOf RS)[k]? = some (E, sz) := hq
       rw [this] at hq'
       obtain ⟨rfl, rfl⟩ := Prod.mk.inj (Option.some.inj hq')
       exact ⟨τ2, g2th _ _ _ y3, y4.to (fun _ _ e => e) (fun _ _ e => e)⟩
      ·rintro β ⟨n, e, cap, h⟩
       obtain ⟨_, _, _, _, _, _, O⟩ := hHm n β e cap (g2th' _ _ _ _ _ h).2
       exact O.new
      ·exact hc.only
     ·cases hl1
    ·cases hl1
   unfold Invokes
   have hcf : (callFunc f vs.toArray).run P w = .ok (.enter f vs.toArray) w := by
    have hb' : fn.body.isNone = false := by rw [hb]; rfl
    unfold callFunc
    rw [Sem.run_bind, run_program]
    simp only [Result.andThen_ok, hf, hname, hb', Bool.false_eq_true, if_false]
    rfl
   rw [hcf]
   refine calls_of_wp hf hb (wp_mono hrun ?_)
   rintro e a' w' ⟨ex, s', g', hm, hc', hK⟩
   cases ex with
   | normal =>
    cases e <;> first | exact hm.elim | skip
    exact done _ s' g' a' w' hc' hK
   | exit i => cases hK
   | ret =>
    cases e <;> first | exact hm.elim | skip
    exact done _ s' g' a' w' hc' hK
  ·cases hr
where
 mapM_len {F' : ResultVar → Sem Value} : ∀ (l : List ResultVar) (vs : List Value) (w w' : World), (l.mapM F').run P w = .ok vs w' → vs.length = l.length
  | [], vs, w, w', h => by
   simp only [List.mapM_nil, Sem.run_pure] at h
   cases h; rfl
  | x :: l, vs, w, w', h => by
   rw [List.mapM_cons, Sem.run_bind] at h
   cases h1 : (F' x).run P w with
   | halt e w1 => rw [h1] at h; cases h
   | ok y w1 =>
    rw [h1] at h
    simp only [Result.andThen_ok, Sem.run_bind] at h
    cases h2 : (l.mapM F').run P w1 with
    | halt e w2 => rw [h2] at h; cases h
    | ok ys w2 =>
     rw [h2] at h
     simp only [Result.andThen_ok, Sem.run_pure] at h
     cases h
     simp [mapM_len l ys w1 _ h2]
theorem fn_ok {laid : List (Nat × Nat × Value)} (hX : CtxOk P laid X) {f : FuncId} {fn : Func} {c : Code} (hf : P.funcs[f]? = some fn) (hb : fn.body = some c) (hname : (fn.name == "runtime.NumGoroutine") = false)
  {n nOut nr : Nat} {PS RS : List ShA} {F : TAs PS → Option (TAs RS)} {lp : Nat → Option LSum} (hnr : fn.results.size = nr)
  (hF : ∀ p, F p = exec X fn.ntmps lp c 0 (fnK X fn.results.toList nOut RS) (fnSt n nOut PS p))
  (hl : ∀ p ∈ loopsIn 0 c, ∀ L, lp p.1 = some L → SegOk P laid nOut fn.ntmps p.2 L) : SumOk P laid f (fnSum n nOut nr PS RS F) :=
 fn_runs hX hf hb hname hnr (fun p r h b g a w hb' hc => exec_ok hX hb' c 0 _ _ r (by rw [← hF]; exact h) hl g a w hc)
end
end Go.Proofs.YthbhbfnnagaclaaGreatDoor.Mir
namespace Go.Proofs.YthbhbfnnagaclaaGreatDoor.Mir
open Go Go.RowKit
def lookF : List (Nat × Sum) → Nat → Option Sum
 | [], _ => none
 | (g, S) :: r, f => bif Nat.beq f g then some S else lookF r f
def lookL : List (Nat × LSum) → Nat → Option LSum
 | [], _ => none
 | (g, S) :: r, f => bif Nat.beq f g then some S else lookL r f
def lookT : List (Nat × TI) → Nat → Option TI
 | [], _ => none
 | (g, S) :: r, f => bif Nat.beq f g then some S else lookT r f
def lookE : List (Nat × (List C → List C → Option Bool)) → Nat → Option (List C → List C → Option Bool)
 | [], _ => none
 | (g, S) :: r, f => bif Nat.beq f g then some S else lookE r f
def bodyOf (f : Func) : Code := match f.body with | some c => c | none => .skip
def findK (k : Nat) : List (Nat × Code) → Code
 | [] => .skip
 | (j, c) :: r => bif Nat.beq k j then c else findK k r
def unloop : Code → Code
 | .loop x => x
 | c => c
def loopAt (cur k : Nat) (c : Code) : Code := findK k (loopsIn cur c)
def iter {π θ : Type} (b : (π → Option θ) → π → Option θ) : Nat → π → Option θ
 | 0 => fun _ => none
 | n + 1 => b (iter b n)
section
variable {P : Program} {laid : List (Nat × Nat × Value)}
def FnsOk (P : Program) (laid : List (Nat × Nat × Value)) (l : List (Nat × Sum)) : Prop := ∀ f S, lookF l f = some S → SumOk P laid f S
theorem fnsOk_nil : FnsOk P laid [] := fun _ _ h => by cases h
theorem fnsOk_cons {g : Nat} {S : Sum} {l : List (Nat × Sum)} (h : SumOk P laid g S) (t : FnsOk P laid l) : FnsOk P laid ((g, S) :: l) := fun f S' e => by
 unfold lookF at e
 cases hb : Nat.beq f g with
 | true => rw [hb] at e; obtain rfl := Nat.eq_of_beq_eq_true hb; obtain rfl := Option.some.inj e; exact h
 | false => rw [hb] at e; exact t f S' e
theorem FnsOk.get {l : List (Nat × Sum)} (h : FnsOk P laid l) {f : Nat} {S : Sum} (e : lookF l f = some S) : SumOk P laid f S := h f S e
def LksOk (P : Program) (laid : List (Nat × Nat × Value)) (nOut N : Nat) (cur : Nat) (c : Code) (l : List (Nat × LSum)) : Prop := ∀ k L, lookL l k = some L → SegOk P laid nOut N (loopAt cur k c) L
theorem lookOk_nil {nOut N cur : Nat} {c : Code} : LksOk P laid nOut N cur c [] := fun _ _ h => by cases h
theorem lookOk_cons {nOut N cur : Nat} {c : Code} {k : Nat} {L : LSum} {l : List (Nat × LSum)} (h : SegOk P laid nOut N (loopAt cur k c) L) (t : LksOk P laid nOut N cur c l) : LksOk P laid nOut N cur c ((k, L) :: l) := fun j L' e => by
 unfold lookL at e
 cases hb : Nat.beq j k with
 | true => rw [hb] at e; obtain rfl := Nat.eq_of_beq_eq_true hb; obtain rfl := Option.some.inj e; exact h
 | false => rw [hb] at e; exact t j L' e
theorem findK_mem : ∀ {l : List (Nat × Code)} {p : Nat × Code}, nodupB (l.map (·.1)) = true → p ∈ l → findK p.1 l = p.2
 | [], _, _, h => by cases h
 | (j, c) :: r, p, hn, h => by
  simp only [List.map_cons, nodupB, Bool.and_eq_true, Bool.not_eq_true'] at hn
  unfold findK
  rcases List.mem_cons.1 h with rfl | h
  ·simp
  ·cases hb : Nat.beq p.1 j with
   | true =>
    have e := Nat.eq_of_beq_eq_true hb
    have : hasN j (r.map (·.1)) = true := hasN_iff.2 (e ▸ List.mem_map_of_mem h)
    rw [this] at hn; cases hn.1
   | false => exact findK_mem hn.2 h
theorem loopsAll {nOut N cur : Nat} {c : Code} {l : List (Nat × LSum)} (hn : nodupB ((loopsIn cur c).map (·.1)) = true) (h : LksOk P laid nOut N cur c l) :
  ∀ p ∈ loopsIn cur c, ∀ L, lookL l p.1 = some L → SegOk P laid nOut N p.2 L := fun p hp L e => by
 have := h p.1 L e
 unfold loopAt at this
 rwa [findK_mem hn hp] at this
structure TyOk1 (P : Program) (t : TypeId) (i : TI) : Prop where
 und : P.underlying t = some i.desc
 fields : ∀ fs, i.desc = .struct fs → ∀ f ∈ fs.toList, (P.info? f.type).isSome = true
 inf : ∃ f z, P.info? t = some f ∧ f.size = i.size ∧ f.bytes = i.bytes ∧ f.zero = some z ∧ concL i.zero = some z.cells.toList
theorem fieldsNone {i : TI} (h : ∀ fs, i.desc = .struct fs → False) : ∀ fs, i.desc = .struct fs → ∀ f ∈ fs.toList, (P.info? f.type).isSome = true := fun fs e => (h fs e).elim
theorem fieldsSome {i : TI} {gs : Array Field} (h : i.desc = .struct gs) (hb : gs.toList.all (fun f => (P.info? f.type).isSome) = true) : ∀ fs, i.desc = .struct fs → ∀ f ∈ fs.toList, (P.info? f.type).isSome = true := fun fs e f hf => by
 rw [h] at e
 injection e with e
 subst e
 exact List.all_eq_true.1 hb f hf
def TysOk (P : Program) (l : List (Nat × TI)) : Prop := ∀ t i, lookT l t = some i → TyOk1 P t i
theorem tysOk_nil : TysOk P [] := fun _ _ h => by cases h
theorem tysOk_cons {t : Nat} {i : TI} {l : List (Nat × TI)} (h : TyOk1 P t i) (r : TysOk P l) : TysOk P ((t, i) :: l) := fun j L' e => by
 unfold lookT at e
 cases hb : Nat.beq j t with
 | true => rw [hb] at e; obtain rfl := Nat.eq_of_beq_eq_true hb; obtain rfl := Option.some.inj e; exact h
 | false => rw [hb] at e; exact r j L' e
theorem TysOk.ok {l : List (Nat × TI)} (h : TysOk P l) : TyOk P (lookT l) := ⟨fun t i e => (h t i e).und, fun t i fs e => (h t i e).fields fs, fun t i e => (h t i e).inf⟩
def EqsOk (P : Program) (l : List (Nat × (List C → List C → Option Bool))) : Prop := ∀ t q, lookE l t = some q → EqOk P t q
theorem eqsOk_nil : EqsOk P [] := fun _ _ h => by cases h
theorem eqsOk_cons {t : Nat} {i : List C → List C → Option Bool} {l : List (Nat × (List C → List C → Option Bool))} (h : EqOk P t i) (r : EqsOk P l) : EqsOk P ((t, i) :: l) := fun j L' e => by
 unfold lookE at e
 cases hb : Nat.beq j t with
 | true => rw [hb] at e; obtain rfl := Nat.eq_of_beq_eq_true hb; obtain rfl := Option.some.inj e; exact h
 | false => rw [hb] at e; exact r j L' e
end
end Go.Proofs.YthbhbfnnagaclaaGreatDoor.Mir
namespace Go.Proofs.YthbhbfnnagaclaaGreatDoor.Mir
open Go Go.RowKit
def eqC : C → C → Option Bool
 | .lit (.int k a), .lit (.int k' b) => bif decide (k = k') then some (a == b) else none
 | .lit (.bool a), .lit (.bool b) => some (a == b)
 | .lit (.string a), .lit (.string b) => some (a.toList == b.toList)
 | .arr k n xs, .arr k' n' ys => bif decide (k = k') && Nat.beq n n' then some (xs == ys) else none
 | _, _ => none
def eqL : List C → List C → Option Bool
 | [], [] => some true
 | [c], [d] => eqC c d
 | c :: c' :: cs, d :: d' :: ds => match eqC c d, eqL (c' :: cs) (d' :: ds) with
  | some a, some b => some (a && b)
  | _, _ => none
 | _, _ => none
def leafEq : Value → Value → Bool
 | .int _ a, .int _ b => a == b
 | .bool a, .bool b => a == b
 | .string a, .string b => a.toList == b.toList
 | _, _ => false
def all2 : List Value → List Value → Bool
 | [], [] => true
 | a :: as, b :: bs => leafEq a b && all2 as bs
 | _, _ => false
def Fit1 : Sh → List Value → Prop
 | .int k, us => ∃ n, us = [.int k n]
 | .bool, us => ∃ b, us = [.bool b]
 | .str, us => ∃ s, us = [.string s]
 | .arr k n, us => ∃ xs : List Int, xs.length = n ∧ us = xs.map (Value.int k)
 | _, _ => False
def Fit : List Sh → List Value → Prop
 | [], us => us = []
 | s :: r, us => ∃ a b, us = a ++ b ∧ Fit1 s a ∧ Fit r b
def eqShF (P : Program) (f : TypeId → Option (List Sh)) : List Field → Nat → Option (List Sh)
 | [], _ => some []
 | fd :: r, o => if fd.name = "_" then none else if fd.offset = o then (match f fd.type, P.info? fd.type with
  | some l, some i => if i.size = widSL l then (match eqShF P f r (o + widSL l) with | some q => some (l ++ q) | none => none) else none
  | _, _ => none) else none
def eqSh (P : Program) : Nat → TypeId → Option (List Sh)
 | 0, _ => none
 | d + 1, t => match P.underlying t with
  | some .bool => some [.bool]
  | some (.int k) => some [.int k]
  | some .string => some [.str]
  | some (.array n e) => (match P.underlying e, P.info? e with
   | some (.int k), some i => if i.size = 1 then some [.arr k n] else none
   | _, _ => none)
  | some (.struct fs) => if P.stoodInHeld t then none else eqShF P (eqSh P d) fs.toList 0
  | _ => none
theorem Fit1.len {s : Sh} {us : List Value} (h : Fit1 s us) : us.length = widS s := by
 cases s <;> simp only [Fit1] at h <;> first
  | (obtain ⟨n, rfl⟩ := h; rfl)
  | (obtain ⟨xs, h1, rfl⟩ := h; simp [widS, h1])
  | exact h.elim
theorem Fit.len : ∀ {l : List Sh} {us : List Value}, Fit l us → us.length = widSL l
 | [], us, h => by simp only [Fit] at h; simp [h, widSL]
 | s :: r, us, ⟨a, b, h1, h2, h3⟩ => by subst h1; simp [widSL, h2.len, h3.len]
theorem Fit.split : ∀ {l q : List Sh} {us : List Value}, Fit (l ++ q) us → ∃ a b, us = a ++ b ∧ Fit l a ∧ Fit q b
 | [], q, us, h => ⟨[], us, rfl, rfl, h⟩
 | s :: r, q, us, ⟨a, b, h1, h2, h3⟩ => by
  obtain ⟨c, d, h4, h5, h6⟩ := h3.split
  subst h4; subst h1
  exact ⟨a ++ c, d, by simp, ⟨a, c, rfl, h2, h5⟩, h6⟩
theorem all2_append : ∀ {a c b d : List Value}, a.length = c.length → all2 (a ++ b) (c ++ d) = (all2 a c && all2 b d)
 | [], [], b, d, _ => by simp [all2]
 | [], _ :: _, _, _, h => by simp at h
 | _ :: _, [], _, _, h => by simp at h
 | x :: a, y :: c, b, d, h => by
  simp only [List.cons_append, all2]
  rw [all2_append (by simpa using h), Bool.and_assoc]
theorem all2_ints (k k' : IntKind) : ∀ {xs ys : List Int}, xs.length = ys.length → all2 (xs.map (Value.int k)) (ys.map (Value.int k')) = (xs == ys)
 | [], [], _ => rfl
 | [], _ :: _, h => by simp at h
 | _ :: _, [], h => by simp at h
 | x :: xs, y :: ys, h => by
  simp only [List.map_cons, all2, leafEq]
  rw [all2_ints k k' (by simpa using h)]
  rfl
section
variable {P : Program} {w : World}
def valD (t : TypeId) (P : Program) (us : List Value) : Value := match P.underlying t with
 | some (.struct _) => .agg us.toArray
 | some (.array _ _) => .agg us.toArray
 | _ => us.headD .nilIface
theorem part_at {t : TypeId} {i : TypeInfo} {l : List Sh} (hi : P.info? t = some i) (hu : (P.underlying t).isSome = true) (hs : i.size = widSL l) (a b c : List Value) (hb : Fit l b) (hn : (∀ fs, P.underlying t ≠ some (.struct fs)) → (∀ n e, P.underlying t ≠ some (.array n e)) → b.length = 1) :
  (part t (a ++ (b ++ c)).toArray a.length).run P w = .ok (valD t P b) w := by
 obtain ⟨d, hd⟩ := Option.isSome_iff_exists.1 hu
 have hl := hb.len
 have agg : (isAgg t).run P w = .ok (match d with | .struct _ | .array _ _ => true | _ => false) w := by
  unfold isAgg
  rw [Sem.run_bind, run_underlying hd]
  simp only [Result.andThen_ok]
  cases d <;> rfl
 have ext : (a ++ (b ++ c)).toArray.extract a.length (a.length + i.size) = b.toArray := by rw [hs, ← hl, extract_mid]
 unfold part
 rw [Sem.run_bind, agg]
 simp only [Result.andThen_ok]
 cases d with
 | struct fs => simp only [if_true, Sem.run_bind, sizeOf, typeInfo, run_program, hi, Sem.run_pure, Result.andThen_ok, valD, hd, ext]
 | array n e => simp only [if_true, Sem.run_bind, sizeOf, typeInfo, run_program, hi, Sem.run_pure, Result.andThen_ok, valD, hd, ext]
 | _ =>
  have h1 := hn (fun fs h => by rw [hd] at h; cases h) (fun n e h => by rw [hd] at h; cases h)
  obtain ⟨x, rfl⟩ := List.length_eq_one_iff.1 h1
  have := get_mid a c x
  simp only [Bool.false_eq_true, if_false, this, Sem.run_pure, valD, hd, List.headD_cons]
theorem eqSh_one {d : Nat} {t : TypeId} {l : List Sh} (h : eqSh P d t = some l) : (P.underlying t).isSome = true ∧ ((∀ fs, P.underlying t ≠ some (.struct fs)) → (∀ n e, P.underlying t ≠ some (.array n e)) → ∀ us, Fit l us → us.length = 1) := by
 cases d with
 | zero => cases h
 | succ d =>
  unfold eqSh at h
  split at h <;> rename_i hu
  ·obtain rfl := Option.some.inj h
   exact ⟨by rw [hu]; rfl, fun _ _ us hf => hf.len⟩
  ·obtain rfl := Option.some.inj h
   exact ⟨by rw [hu]; rfl, fun _ _ us hf => hf.len⟩
  ·obtain rfl := Option.some.inj h
   exact ⟨by rw [hu]; rfl, fun _ _ us hf => hf.len⟩
  ·exact ⟨by rw [hu]; rfl, fun _ h2 => (h2 _ _ hu).elim⟩
  ·exact ⟨by rw [hu]; rfl, fun h1 => (h1 _ hu).elim⟩
  ·cases h
theorem arr_eq (D : Nat) {t e : TypeId} {n : Nat} {k : IntKind} {i : TypeInfo} {xs ys : List Int} (ht : P.underlying t = some (.array n e)) (he : P.underlying e = some (.int k)) (hi : P.info? e = some i) (hs : i.size = 1)
  (hx : xs.length = n) (hy : ys.length = n) : (Op.equalIn (D + 2) t (.agg (xs.map (Value.int k)).toArray) (.agg (ys.map (Value.int k)).toArray)).run P w = .ok (xs == ys) w := by
 have hp : ∀ (xs : List Int) (j : Nat), j < xs.length → (part e (xs.map (Value.int k)).toArray j).run P w = .ok (.int k (xs.getD j 0)) w := by
  intro xs j hj
  simp only [part, isAgg, Sem.run_bind, run_underlying he, Result.andThen_ok, Sem.run_pure, Bool.false_eq_true, if_false]
  simp [hj, List.getD_eq_getElem?_getD]
 have hq : ∀ a b : Int, (Op.equalIn (D + 1) e (.int k a) (.int k b)).run P w = .ok (a == b) w := fun a b => run_equalIn_int w D e k k a b he
 have hsz : (sizeOf e).run P w = .ok 1 w := by simp [sizeOf, typeInfo, hi, hs]
 rw [Op.equalIn]
 simp only [Sem.run_bind, run_underlying ht, Result.andThen_ok, hsz]
 rw [Std.Legacy.Range.forIn_eq_forIn_range']
 simp only [Std.Legacy.Range.size]
 have key : ∀ l : List Nat, (∀ i ∈ l, i < n) → (Sem.run P (forIn l ((none : Option Bool), ()) fun i (_ : Option Bool × Unit) => do
      let a ← part e (xs.map (Value.int k)).toArray (i * 1)
      let b ← part e (ys.map (Value.int k)).toArray (i * 1)
      let c ← Op.equalIn (D + 1) e a b
      if (!c) = true then pure (ForInStep.done (some false, ())) else pure (ForInStep.yield (none, ()))) w) = .ok (if l.all (fun i => xs.getD i 0 == ys.getD i 0) then (none, ()) else (some false, ())) w := by
  intro l
  induction l with
  | nil => intro _; simp
  | cons j l ih =>
   intro hl
   have hj := hl j (by simp)
   simp only [List.forIn_cons, Sem.run_bind, Nat.mul_one, hp xs j (by omega), hp ys j (by omega), Result.andThen_ok, hq]
   cases hfg : (xs.getD j 0 == ys.getD j 0)
   ·have hall : (j :: l).all (fun i => xs.getD i 0 == ys.getD i 0) = false := by rw [List.all_cons, hfg]; rfl
    rw [hall]; rfl
   ·simp only [Bool.not_true, Bool.false_eq_true, if_false, Sem.run_pure, Result.andThen_ok, List.all_cons, hfg, Bool.true_and]
    simpa using ih (fun i hi => hl i (by simp [hi]))
 rw [key _ (by simp [List.mem_range'])]
 simp only [Result.andThen_ok]
 have e1 : (List.range' 0 (n - 0) 1).all (fun i => xs.getD i 0 == ys.getD i 0) = (xs == ys) := by
  rw [Nat.sub_zero, Bool.eq_iff_iff, List.all_eq_true, beq_iff_eq]
  constructor
  ·intro h
   apply List.ext_getElem (by omega)
   intro i h1 h2
   have := eq_of_beq (h i (by simp [List.mem_range'_1]; omega))
   simpa [List.getD_eq_getElem?_getD, h1, h2] using this
  ·rintro rfl i _
   simp
 have e2 : (n - 0 + 1 - 1) / 1 = n - 0 := by simp
 rw [e2, e1]
 cases (xs == ys) <;> rfl
theorem eq_ok : ∀ (d : Nat) (t : TypeId) (l : List Sh), eqSh P d t = some l → ∀ (D : Nat), d < D → ∀ us vs, Fit l us → Fit l vs → (Op.equalIn D t (valD t P us) (valD t P vs)).run P w = .ok (all2 us vs) w := by
 intro d
 induction d with
 | zero => intro t l h; cases h
 | succ d ih =>
  intro t l h D hD us vs hu hv
  obtain ⟨D, rfl⟩ : ∃ q, D = q + 1 := ⟨D - 1, by omega⟩
  unfold eqSh at h
  split at h <;> rename_i hut
  ·obtain rfl := Option.some.inj h
   obtain ⟨_, _, rfl, ⟨x, rfl⟩, rfl⟩ := hu
   obtain ⟨_, _, rfl, ⟨y, rfl⟩, rfl⟩ := hv
   simp only [valD, hut]
   simpa [all2, leafEq] using run_equalIn_bool w D t x y hut
  ·rename_i k
   obtain rfl := Option.some.inj h
   obtain ⟨_, _, rfl, ⟨x, rfl⟩, rfl⟩ := hu
   obtain ⟨_, _, rfl, ⟨y, rfl⟩, rfl⟩ := hv
   simp only [valD, hut]
   simpa [all2, leafEq] using run_equalIn_int w D t k k x y hut
  ·obtain rfl := Option.some.inj h
   obtain ⟨_, _, rfl, ⟨x, rfl⟩, rfl⟩ := hu
   obtain ⟨_, _, rfl, ⟨y, rfl⟩, rfl⟩ := hv
   simp only [valD, hut]
   simpa [all2, leafEq] using run_equalIn_string w D t x y hut
  ·rename_i n e
   split at h
   ·rename_i k i he hi
    split at h
    ·rename_i hs
     obtain rfl := Option.some.inj h
     obtain ⟨_, _, rfl, ⟨xs, hx, rfl⟩, rfl⟩ := hu
     obtain ⟨_, _, rfl, ⟨ys, hy, rfl⟩, rfl⟩ := hv
     simp only [valD, hut, List.append_nil]
     obtain ⟨D, rfl⟩ : ∃ q, D = q + 1 := ⟨D - 1, by omega⟩
     rw [arr_eq D hut he hi hs hx hy, all2_ints k k (by omega)]
    ·cases h
   ·cases h
  ·rename_i fs
   split at h
   ·cases h
   ·rename_i hst
    have hst' : P.stoodInHeld t = false := by simpa using hst
    have hfo : P.underlying t = some (.struct (P.fieldsOf t)) := by rw [hut]; simp [Program.fieldsOf, hut]
    have hfs : P.fieldsOf t = fs := by simp [Program.fieldsOf, hut]
    simp only [valD, hut]
    rw [run_equalIn_struct w D t us.toArray vs.toArray hfo hst', hfs]
    have key : ∀ (fl : List Field) (o : Nat) (l : List Sh), eqShF P (eqSh P d) fl o = some l → ∀ (a b : List Value), a.length = o → b.length = o → ∀ us vs, Fit l us → Fit l vs →
      (Op.eqFields D (a ++ us).toArray (b ++ vs).toArray fl).run P w = .ok (all2 us vs) w := by
     intro fl
     induction fl with
     | nil =>
      intro o l h a b _ _ us vs hu hv
      obtain rfl := (Option.some.inj h).symm
      obtain rfl : us = [] := hu
      obtain rfl : vs = [] := hv
      rfl
     | cons fd r ihf =>
      intro o l h a b ha hb us vs hu hv
      unfold eqShF at h
      split at h
      ·cases h
      ·rename_i hn
       split at h
       ·rename_i ho
        split at h
        ·rename_i l1 i e1 e2
         split at h
         ·rename_i hs
          split at h
          ·rename_i q e3
           obtain rfl := (Option.some.inj h).symm
           obtain ⟨u1, u2, rfl, f1, f2⟩ := hu.split
           obtain ⟨v1, v2, rfl, g1, g2⟩ := hv.split
           obtain ⟨s1, s2⟩ := eqSh_one e1
           have p1 := part_at (w := w) e2 s1 hs a u1 u2 f1 (fun h1 h2 => s2 h1 h2 _ f1)
           have p2 := part_at (w := w) e2 s1 hs b v1 v2 g1 (fun h1 h2 => s2 h1 h2 _ g1)
           rw [ha] at p1
           rw [hb] at p2
           unfold Op.eqFields
           rw [if_pos hn, ho, Sem.run_bind, p1]
           simp only [Result.andThen_ok]
           rw [Sem.run_bind, p2]
           simp only [Result.andThen_ok]
           rw [Sem.run_bind, ih fd.type l1 e1 D (by omega) u1 v1 f1 g1]
           simp only [Result.andThen_ok]
           rw [all2_append (by rw [f1.len, g1.len])]
           cases all2 u1 v1 with
           | false => rfl
           | true =>
            simp only [Bool.not_true, Bool.false_eq_true, if_false, Bool.true_and]
            have := ihf (o + widSL l1) q e3 (a ++ u1) (b ++ v1) (by simp [ha, f1.len]) (by simp [hb, g1.len]) u2 v2 f2 g2
            simpa using this
          ·cases h
         ·cases h
        ·cases h
       ·cases h
    have := key fs.toList 0 l h [] [] rfl rfl us vs hu hv
    simpa using this
  ·cases h
theorem eqC_fit {g : Gh} {c d : C} {r : Bool} {us vs : List Value} (h : eqC c d = some r) (hu : RepL g [c] us) (hv : RepL g [d] vs) : us.length = vs.length ∧ all2 us vs = r := by
 unfold eqC at h
 split at h
 ·rename_i k a k' b
  cases hk : decide (k = k') with
  | false => rw [hk] at h; cases h
  | true =>
   rw [hk] at h
   obtain rfl := Option.some.inj h
   obtain ⟨_, _, rfl, rfl, rfl⟩ := hu
   obtain ⟨_, _, rfl, rfl, rfl⟩ := hv
   simp [all2, leafEq]
 ·obtain rfl := Option.some.inj h
  obtain ⟨_, _, rfl, rfl, rfl⟩ := hu
  obtain ⟨_, _, rfl, rfl, rfl⟩ := hv
  simp [all2, leafEq]
 ·obtain rfl := Option.some.inj h
  obtain ⟨_, _, rfl, rfl, rfl⟩ := hu
  obtain ⟨_, _, rfl, rfl, rfl⟩ := hv
  simp [all2, leafEq]
 ·rename_i k n xs k' n' ys
  cases hk : (decide (k = k') && Nat.beq n n') with
  | false => rw [hk] at h; cases h
  | true =>
   rw [hk] at h
   simp only [Bool.and_eq_true] at hk
   obtain rfl := Option.some.inj h
   obtain rfl := Nat.eq_of_beq_eq_true hk.2
   obtain ⟨r1, h1, rfl, h2⟩ := hu
   obtain ⟨r2, h3, rfl, h4⟩ := hv
   simp only [RepL] at h2 h4
   subst h2; subst h4
   simp only [List.append_nil]
   exact ⟨by simp [h1, h3], all2_ints k k' (by omega)⟩
 ·cases h
theorem eqL_fit {g : Gh} : ∀ {cs ds : List C} {r : Bool} {us vs : List Value}, eqL cs ds = some r → RepL g cs us → RepL g ds vs → all2 us vs = r
 | [], [], r, us, vs, h, hu, hv => by
  simp only [RepL] at hu hv; subst hu; subst hv
  exact Option.some.inj h
 | [c], [d], r, us, vs, h, hu, hv => (eqC_fit h hu hv).2
 | c :: c' :: cs, d :: d' :: ds, r, us, vs, h, hu, hv => by
  unfold eqL at h
  split at h
  ·rename_i x y e1 e2
   obtain rfl := Option.some.inj h
   obtain ⟨u1, u2, rfl, _, f1, f2⟩ := hu.cons
   obtain ⟨v1, v2, rfl, _, g1, g2⟩ := hv.cons
   obtain ⟨h1, h2⟩ := eqC_fit e1 f1 g1
   rw [all2_append h1, h2, eqL_fit e2 f2 g2]
  ·cases h
 | [], _ :: _, _, _, _, h, _, _ => by simp [eqL] at h
 | _ :: _, [], _, _, _, h, _, _ => by simp [eqL] at h
 | [_], _ :: _ :: _, _, _, _, h, _, _ => by simp [eqL] at h
 | _ :: _ :: _, [_], _, _, _, h, _, _ => by simp [eqL] at h
def shC : C → Option Sh
 | .lit (.int k _) => some (.int k)
 | .lit (.bool _) => some .bool
 | .lit (.string _) => some .str
 | .arr k n _ => some (.arr k n)
 | _ => none
def shEq : Sh → Sh → Bool
 | .int k, .int k' => decide (k = k')
 | .bool, .bool => true
 | .str, .str => true
 | .arr k n, .arr k' n' => decide (k = k') && Nat.beq n n'
 | _, _ => false
def fitsL : List C → List Sh → Bool
 | [], [] => true
 | c :: cs, s :: ss => (match shC c with | some s' => shEq s' s | none => false) && fitsL cs ss
 | _, _ => false
theorem fitsL_fit {g : Gh} : ∀ {cs : List C} {l : List Sh} {us : List Value}, fitsL cs l = true → RepL g cs us → Fit l us
 | [], [], us, _, h => h
 | [], _ :: _, _, h, _ => by cases h
 | _ :: _, [], _, h, _ => by cases h
 | c :: cs, s :: ss, us, h, hu => by
  simp only [fitsL, Bool.and_eq_true] at h
  obtain ⟨u1, u2, rfl, _, f1, f2⟩ := hu.cons
  refine ⟨u1, u2, rfl, ?_, fitsL_fit h.2 f2⟩
  have h1 := h.1
  split at h1
  ·rename_i s' e
   unfold shC at e
   split at e
   ·obtain rfl := Option.some.inj e
    cases s <;> simp only [shEq] at h1 <;> try cases h1
    obtain rfl := of_decide_eq_true h1
    obtain ⟨_, _, rfl, rfl, rfl⟩ := f1
    exact ⟨_, rfl⟩
   ·obtain rfl := Option.some.inj e
    cases s <;> simp only [shEq] at h1 <;> try cases h1
    obtain ⟨_, _, rfl, rfl, rfl⟩ := f1
    exact ⟨_, rfl⟩
   ·obtain rfl := Option.some.inj e
    cases s <;> simp only [shEq] at h1 <;> try cases h1
    obtain ⟨_, _, rfl, rfl, rfl⟩ := f1
    exact ⟨_, rfl⟩
   ·obtain rfl := Option.some.inj e
    cases s <;> simp only [shEq] at h1 <;> try cases h1
    simp only [Bool.and_eq_true] at h1
    obtain rfl := of_decide_eq_true h1.1
    obtain rfl := Nat.eq_of_beq_eq_true h1.2
    obtain ⟨r1, q1, rfl, q2⟩ := f1
    simp only [RepL] at q2
    subst q2
    exact ⟨_, q1, by simp⟩
   ·cases e
  ·cases h1
def eqQ (l : List Sh) (xs ys : List C) : Option Bool := bif fitsL xs l && fitsL ys l then eqL xs ys else none
theorem eqQ_ok {t : TypeId} {l : List Sh} {d : Nat} (hs : eqSh P d t = some l) (hd : d < 10000) (hg : P.eqGuardType P.depth t = false) (ha : (match P.underlying t with | some (.struct _) | some (.array _ _) => true | _ => false) = true) : EqOk P t (eqQ l) := by
 intro g xs ys b us vs w h hu hv
 refine ⟨hg, ?_⟩
 unfold eqQ at h
 cases hk : (fitsL xs l && fitsL ys l) with
 | false => rw [hk] at h; cases h
 | true =>
  rw [hk] at h
  simp only [Bool.and_eq_true] at hk
  have := eq_ok (P := P) (w := w) d t l hs 10000 hd us vs (fitsL_fit hk.1 hu) (fitsL_fit hk.2 hv)
  rw [eqL_fit h hu hv] at this
  have e : ∀ us : List Value, valD t P us = .agg us.toArray := fun us => by
   unfold valD
   split at ha
   ·rfl
   ·rfl
   ·cases ha
  rw [e, e] at this
  exact this
end
end Go.Proofs.YthbhbfnnagaclaaGreatDoor.Mir
namespace Go.Proofs.YthbhbfnnagaclaaGreatDoor.Mir
open Go Go.RowKit
theorem Only.of_below {w w' : World} {M : Nat → Prop} (h : Below w.heap.size w w') : Only M w w' := ⟨h.os, h.tape, h.output, h.size, fun k hk _ => h.block k hk⟩
theorem noTks {g : Gh} (hg : ∀ n v, g.th n v = none) {w : World} {q : Nat → Option (Nat × Nat)} (hq : ∀ p, q p = none) : TksAt g w q :=
 ⟨fun p E sz e => (by rw [hq p] at e; cases e), fun n m β e e' cap cap' h => (by rw [hg] at h; cases h), fun n v τ h => (by rw [hg] at h; cases h)⟩
theorem noLvs {g : Gh} {w : World} {q : Nat → Option (Nat × Nat)} {cs : List C} (hq : ∀ p, q p = none) : LvsAt g w q cs := fun p l xs _ E sz e => by rw [hq p] at e; cases e
theorem bridgeK {P : Program} {laid : List (Nat × Nat × Value)} {f : FuncId} {n nr : Nat} {PS RS : List ShA} {F : TAs PS → Option (TAs RS)} (htk : tksOf RS = []) (hRS : ∀ r, (encAs 0 RS r).drop nr = [])
  (h : ∀ p r, F p = some r → ∀ (g : Gh) (w : World) (vs : List Value), (∀ q ∈ laid, w.cell? ⟨q.1, q.2.1, none⟩ = some q.2.2) → Whole laid w → RepAs g (encAs 0 PS p) vs → (∀ β o v, g.K β o = some v → β < w.heap.size) →
   Invokes P f vs.toArray w fun v w' => ∃ K', (∀ β o v, g.K β o = some v → K' β o = some v) ∧ (∀ β o v, K' β o = some v → g.K β o = some v ∨ (w.heap.size ≤ β ∧ w'.cell? ⟨β, o, none⟩ = some v)) ∧ RepV { K := K', j := fun _ => none, th := fun _ _ => none } (retV nr (encAs 0 RS r)) v ∧ Below w.heap.size w w') : SumOk P laid f (fnSum n 0 nr PS RS F) := by
 intro as bs r hr g w vs hlaid hwhole _ hknown hA hB hTk hLv
 simp only [fnSum] at hr
 cases hk : (Nat.beq as.length n && Nat.beq bs.length 0) with
 | false => rw [hk] at hr; cases hr
 | true =>
  rw [hk] at hr
  simp only [cond_true] at hr
  simp only [Bool.and_eq_true] at hk
  obtain rfl : bs = [] := List.eq_nil_of_length_eq_zero (Nat.eq_of_beq_eq_true hk.2)
  split at hr
  ·rename_i p ep
   have hA' : RepAs g (encAs 0 PS p) vs := by
    obtain ⟨d1, d2⟩ := decAs_get ep
    simp only [List.map_nil, List.append_nil] at d1 d2
    refine RepAs.mk (by rw [d1]; exact hA.len) (fun i a e => ?_)
    have hi : i < as.length := by rw [← d1]; exact (List.getElem?_eq_some_iff.1 e).1
    obtain ⟨x, h1, h2⟩ := hA.get (List.getElem?_eq_getElem hi)
    obtain ⟨a', h3, h4, _⟩ := d2 i _ (List.getElem?_eq_getElem hi)
    obtain rfl := Option.some.inj (e.symm.trans h3)
    exact ⟨x, h1, h4 g x h2⟩
   have hI := h p r hr g w vs (fun q hq => hknown _ _ _ (hlaid q hq)) hwhole hA' (fun β o v e => block_lt_of_cell (hknown β o v e))
   have fin : ∀ v w', (∃ K', (∀ β o v, g.K β o = some v → K' β o = some v) ∧ (∀ β o v, K' β o = some v → g.K β o = some v ∨ (w.heap.size ≤ β ∧ w'.cell? ⟨β, o, none⟩ = some v)) ∧ RepV { K := K', j := fun _ => none, th := fun _ _ => none } (retV nr (encAs 0 RS r)) v ∧ Below w.heap.size w w') → ∃ g', Ends (fnSum n 0 nr PS RS F) as [] r g w v w' g' := by
    rintro v w' ⟨K', k1, k2, h1, h2⟩
    have ho : ((fnSum n 0 nr PS RS F).out as [] r).2 = [] := by exact congrArg (List.map cellsA) (hRS r)
    refine ⟨{ K := K', j := fun _ => none, th := fun _ _ => none }, ⟨k1, fun β o v e => ?_, fun β o v e => ?_, h1, ⟨fun i cs e => ?_, fun i k β e => (by cases e), fun n β e => (by cases e)⟩, Nat.zero_le _, fun i hi => (by simp at hi), fun i β _ e => (by cases e), noTks (fun _ _ => rfl) (fun p => ?_), noLvs (fun p => ?_), fun β ⟨n, e, cap, hh⟩ => (by cases hh), Only.of_below h2⟩⟩
    ·rcases k2 β o v e with q | q
     ·exact .inl q
     ·exact .inr (.inr q.1)
    ·rcases k2 β o v e with q | q
     ·have := hknown β o v q
      rw [← this]
      exact h2.cell (p := ⟨β, o, none⟩) (block_lt_of_cell this)
     ·exact q.2
    ·rw [ho] at e; simp at e
    ·show (tksOf RS)[p]? = none
     rw [htk]; rfl
    ·show (tksOf RS)[p]? = none
     rw [htk]; rfl
   unfold Invokes at hI ⊢
   split at hI
   ·exact fin _ _ hI
   ·refine Calls.mono hI ?_
    rintro e w'' ⟨v, rfl, hE⟩
    exact ⟨v, rfl, fin v w'' hE⟩
   ·exact hI.elim
  ·cases hr
theorem Invokes.mono {P : Program} {f : FuncId} {vs : Array Value} {w : World} {R R' : Value → World → Prop} (h : Invokes P f vs w R) (hR : ∀ v w', R v w' → R' v w') : Invokes P f vs w R' := by
 unfold Invokes at h ⊢
 split at h
 ·exact hR _ _ h
 ·refine Calls.mono h ?_
  rintro e w'' ⟨v, rfl, hE⟩
  exact ⟨v, rfl, hR v w'' hE⟩
 ·exact h.elim
theorem bridgeW {P : Program} {laid : List (Nat × Nat × Value)} {f : FuncId} {n nr : Nat} {PS RS : List ShA} {F : TAs PS → Option (TAs RS)} (htk : tksOf RS = []) (hRS : ∀ r, (encAs 0 RS r).drop nr = [])
  (h : ∀ p r, F p = some r → ∀ (g : Gh) (w : World) (vs : List Value), (∀ q ∈ laid, w.cell? ⟨q.1, q.2.1, none⟩ = some q.2.2) → Whole laid w → RepAs g (encAs 0 PS p) vs →
   Invokes P f vs.toArray w fun v w' => RepV { K := g.K, j := fun _ => none, th := fun _ _ => none } (retV nr (encAs 0 RS r)) v ∧ Below w.heap.size w w') : SumOk P laid f (fnSum n 0 nr PS RS F) :=
 bridgeK htk hRS (fun p r e g w vs h1 h2 h3 _ => (h p r e g w vs h1 h2 h3).mono fun _ _ ⟨q1, q2⟩ => ⟨g.K, fun _ _ _ e => e, fun _ _ _ e => .inl e, q1, q2⟩)
theorem invokes_of_calls {P : Program} {f : FuncId} {fn : Func} {vs : Array Value} {w : World} {R : Value → World → Prop} (hf : P.funcs[f]? = some fn) (hname : (fn.name == "runtime.NumGoroutine") = false) (hb : fn.body.isNone = false)
  (h : Calls P f vs w fun e w' => ∃ v, e = .returned v ∧ R v w') : Invokes P f vs w R := by
 unfold Invokes
 have hcf : (callFunc f vs).run P w = .ok (.enter f vs) w := by
  unfold callFunc
  rw [Sem.run_bind, run_program]
  simp only [Result.andThen_ok, hf, hname, hb, Bool.false_eq_true, if_false]
  rfl
 rw [hcf]
 exact h
def asVal (old : Int) : Option Int → Int
 | none => old
 | some n => n
def asSum (E PE : Nat) : Sum where
 ρ := Option Int × Int
 run as bs := match as, bs with
  | [.one (.err t e), .one (.ifp p 0 0)], [[.lit (.int .i64 old)]] => bif Nat.beq t E && Nat.beq p PE then some (e, old) else none
  | [.one (.lit .nilIface), .one (.ifp p 0 0)], [[.lit (.int .i64 old)]] => bif Nat.beq p PE then some (none, old) else none
  | _, _ => none
 out _ _ r := (.a (.one (boolC r.1.isSome)), [[.lit (.int .i64 (asVal r.2 r.1))]])
 tin := []
 tks := []
theorem asSum_run {E PE : Nat} {as : List A} {bs : List (List C)} {r : Option Int × Int} (h : (asSum E PE).run as bs = some r) :
  bs = [[.lit (.int .i64 r.2)]] ∧ ∃ c, as = [.one c, .one (.ifp PE 0 0)] ∧ ((c = .err E r.1) ∨ (r.1 = none ∧ c = .lit .nilIface)) := by
 simp only [asSum] at h
 split at h
 ·rename_i t e p old
  cases hk : (Nat.beq t E && Nat.beq p PE) with
  | false => rw [hk] at h; cases h
  | true =>
   rw [hk] at h
   simp only [Bool.and_eq_true] at hk
   obtain rfl := Nat.eq_of_beq_eq_true hk.1
   obtain rfl := Nat.eq_of_beq_eq_true hk.2
   obtain rfl := Option.some.inj h
   exact ⟨rfl, _, rfl, .inl rfl⟩
 ·rename_i p old
  cases hk : Nat.beq p PE with
  | false => rw [hk] at h; cases h
  | true =>
   rw [hk] at h
   obtain rfl := Nat.eq_of_beq_eq_true hk
   obtain rfl := Option.some.inj h
   exact ⟨rfl, _, rfl, .inr ⟨rfl, rfl⟩⟩
 ·cases h
theorem as_ok {P : Program} {laid : List (Nat × Nat × Value)} {f : FuncId} {fn : Func} {E PE : Nat} (hf : P.funcs[f]? = some fn) (hname : (fn.name == "runtime.NumGoroutine") = false) (hb : fn.body.isNone = false)
  (hnil : ∀ (t : Value) (w : World), Calls P f #[.nilIface, t] w fun e w' => e = .returned (.bool false) ∧ w' = w)
  (hhit : ∀ (n : Int) (t : Addr) (old : Value) (w : World), (∀ q ∈ laid, w.cell? ⟨q.1, q.2.1, none⟩ = some q.2.2) → w.cell? t = some old → w.frozen? t = false →
   Calls P f #[.iface E (.int .i64 n), .iface PE (.pointer (some t))] w fun e w' => e = .returned (.bool true) ∧ ∃ wm, Below w.heap.size w wm ∧ w' = wm.setCell t (.int .i64 n)) : SumOk P laid f (asSum E PE) := by
 intro as bs r hr g w vs hlaid _ _ hknown hA hB hTk hLv
 obtain ⟨rfl, c, rfl, hc⟩ := asSum_run hr
 obtain ⟨x, q, rfl, hx, y, q', rfl, hy, rfl⟩ := hA
 obtain ⟨β, hj, rfl⟩ := hy
 obtain ⟨β', cells, ty, k1, k2, k3, k4⟩ := hB.blk 0 _ rfl
 obtain rfl := Option.some.inj (hj.symm.trans k1)
 obtain ⟨_, _, hcs, rfl, rfl⟩ := k3
 have hcs' : cells = #[.int .i64 r.2] := by apply Array.ext'; simpa using hcs
 subst hcs'
 have hx' : x = errV E r.1 := by
  rcases hc with rfl | ⟨h1, rfl⟩
  ·exact hx
  ·rw [h1]; exact hx
 subst hx'
 have hlt : β < w.heap.size := (Array.getElem?_eq_some_iff.1 k2).1
 refine invokes_of_calls hf hname hb ?_
 have hdom : ∀ n β', g.j n = some β' → n = 0 := fun n β' e => by
  obtain ⟨i, rfl, hi⟩ := hB.dom n β' e
  simp at hi; omega
 cases he : r.1 with
 | none =>
  refine (hnil _ w).mono ?_
  rintro e w' ⟨rfl, rfl⟩
  refine ⟨_, rfl, { K := g.K, j := g.j, th := fun _ _ => none }, ⟨fun _ _ _ e => e, fun _ _ _ e => .inl e, hknown, ?_, ⟨fun i cs e => ?_, hB.inj, fun n β' e => ?_⟩, Nat.le_refl _, fun _ _ => rfl, fun i β' hi e => ?_, noTks (fun _ _ => rfl) (fun p => rfl), noLvs (fun p => rfl), fun β ⟨n, e, cap, hh⟩ => (by cases hh), Only.refl _ _⟩⟩
  ·show RepC { K := g.K, j := g.j, th := fun _ _ => none } (boolC r.1.isSome) _
   rw [he]; rfl
  ·cases i with
   | zero =>
    have e' : [C.lit (.int .i64 (asVal r.2 r.1))] = cs := Option.some.inj e
    rw [he] at e'
    subst e'
    exact ⟨β, _, ty, hj, k2, ⟨_, [], rfl, rfl, rfl⟩, k4⟩
   | succ i => simp [asSum] at e
  ·obtain rfl := hdom n β' e
   exact ⟨0, rfl, Nat.zero_lt_one⟩
  ·have := hdom _ _ e
   simp at hi; omega
 | some n =>
  have hcell : w.cell? ⟨β, 0, none⟩ = some (.int .i64 r.2) := by rw [cell_row k2]; rfl
  have hfro : w.frozen? ⟨β, 0, none⟩ = false := by simp [World.frozen?, k2]
  refine (hhit n ⟨β, 0, none⟩ _ w (fun q hq => hknown _ _ _ (hlaid q hq)) hcell hfro).mono ?_
  rintro e w' ⟨rfl, wm, hbm, rfl⟩
  have k2m : wm.heap[β]? = some (.cells #[.int .i64 r.2] ty (0, 0)) := by rw [hbm.block β hlt]; exact k2
  have hset : wm.setCell ⟨β, 0, none⟩ (.int .i64 n) = wm.setRow β #[.int .i64 n] := by
   rw [setCell_eq_setRow wm β 0 _ ty (0, 0) _ k2m]; rfl
  rw [hset]
  have hoth : ∀ k, k ≠ β → (wm.setRow β #[.int .i64 n]).heap[k]? = wm.heap[k]? := fun k hk => setRow_other wm β k _ hk
  refine ⟨_, rfl, { K := g.K, j := g.j, th := fun _ _ => none }, ⟨fun _ _ _ e => e, fun _ _ _ e => .inl e, fun β' o v e => ?_, ?_, ⟨fun i cs e => ?_, hB.inj, fun n β' e => ?_⟩, Nat.le_refl _, fun _ _ => rfl, fun i β' hi e => ?_, noTks (fun _ _ => rfl) (fun p => rfl), noLvs (fun p => rfl), fun β ⟨n, e, cap, hh⟩ => (by cases hh), ?_⟩⟩
  ·have hne : β' ≠ β := fun e' => by subst e'; have e2 : g.K β' o = some v := e; rw [k4 o] at e2; cases e2
   have h1 := hknown β' o v e
   have h2 := block_lt_of_cell h1
   rw [← h1]
   simp only [World.cell?]
   rw [hoth β' hne, hbm.block β' h2]
  ·show RepC { K := g.K, j := g.j, th := fun _ _ => none } (boolC r.1.isSome) _
   rw [he]; rfl
  ·cases i with
   | zero =>
    have e' : [C.lit (.int .i64 (asVal r.2 r.1))] = cs := Option.some.inj e
    rw [he] at e'
    subst e'
    exact ⟨β, _, ty, hj, setRow_heap wm β _ _ ty _ k2m, ⟨_, [], rfl, rfl, rfl⟩, k4⟩
   | succ i => simp [asSum] at e
  ·obtain rfl := hdom n β' e
   exact ⟨0, rfl, Nat.zero_lt_one⟩
  ·have := hdom _ _ e
   simp at hi; omega
  ·refine ⟨hbm.os, hbm.tape, hbm.output, by simpa using hbm.size, fun k hk hm => ?_⟩
   have hne : k ≠ β := fun e' => by subst e'; exact hm (.inl ⟨0, by simp, hj⟩)
   rw [hoth k hne, hbm.block k hk]
end Go.Proofs.YthbhbfnnagaclaaGreatDoor.Mir
namespace Go.Proofs.YthbhbfnnagaclaaGreatDoor.Mir
open Go Go.RowKit
def byS : Sh → Nat
 | .int k => k.bits / 8
 | .bool => 1
 | .str => 16
 | .err _ => 16
 | .erx => 16
 | .sl _ => 24
 | .arr k n => n * (k.bits / 8)
def bySL : List Sh → Nat
 | [] => 0
 | s :: r => byS s + bySL r
def shOfF (P : Program) (f : TypeId → Option (List Sh)) : List Field → Nat → Option (List Sh)
 | [], _ => some []
 | fd :: r, o => if fd.offset = o then (f fd.type).bind fun l => if P.cellsOf fd.type = widSL l then (shOfF P f r (o + widSL l)).map (l ++ ·) else none else none
def shOf (P : Program) : Nat → TypeId → Option (List Sh)
 | 0, _ => none
 | n + 1, t => match P.underlying t with
  | some .bool => some [.bool]
  | some (.int k) => some [.int k]
  | some .string => some [.str]
  | some (.slice e) => (shOf P n e).bind fun l => if P.cellsOf e = widSL l ∧ 1 ≤ widSL l ∧ bySL l ≤ P.bytesOf e then some [.sl l] else none
  | some (.struct fs) => (shOfF P (shOf P n) fs.toList 0).bind fun l => if P.cellsOf t = widSL l then some l else none
  | some (.array m e) => (match P.underlying e with
   | some (.int k) => if P.cellsOf e = 1 ∧ P.cellsOf t = m then some [.arr k m] else none
   | _ => (shOf P n e).bind fun l => if P.cellsOf e = widSL l ∧ P.cellsOf t = m * widSL l then some (List.replicate m l).flatten else none)
  | _ => none
mutual
def OkS : (s : Sh) → s.T → Prop
 | .int k, n => (Lit.int k n).wf = true
 | .bool, _ => True
 | .str, s => s.size ≤ maxLen
 | .err _, _ => True
 | .erx, _ => True
 | .sl l, xs => List.length (α := TL l) xs ≤ maxLen ∧ List.length (α := TL l) xs * bySL l ≤ reachBytes ∧ ∀ x ∈ (xs : List (TL l)), OkL l x
 | .arr k _, xs => ∀ n ∈ (xs : List Int), (Lit.int k n).wf = true
def OkL : (l : List Sh) → TL l → Prop
 | [], _ => True
 | [s], x => OkS s x
 | s :: s' :: r, p => OkS s p.1 ∧ OkL (s' :: r) p.2
end
theorem rep_app {K : Nat → Nat → Option Value} : ∀ (l q : List Sh) (x : TL l) (y : TL q) (us vs : List Value), RepSL K l x us → RepSL K q y vs → OkL l x → OkL q y → ∃ z : TL (l ++ q), RepSL K (l ++ q) z (us ++ vs) ∧ OkL (l ++ q) z
 | [], q, x, y, us, vs, h, h', _, k' => by
  simp only [RepSL] at h; subst h; exact ⟨y, h', k'⟩
 | [s], [], x, y, us, vs, h, h', k, _ => by
  simp only [RepSL] at h'; subst h'; exact ⟨x, by simpa using h, k⟩
 | [s], s' :: r, x, y, us, vs, h, h', k, k' => by
  refine ⟨(x, y), ?_, ?_⟩
  ·show RepSL K (s :: s' :: r) (x, y) (us ++ vs)
   simp only [RepSL] at h ⊢
   exact ⟨us, vs, rfl, h, h'⟩
  ·show OkL (s :: s' :: r) (x, y)
   simp only [OkL] at k ⊢
   exact ⟨k, k'⟩
 | s :: s' :: r, q, p, y, us, vs, h, h', k, k' => by
  simp only [RepSL] at h
  simp only [OkL] at k
  obtain ⟨a, b, rfl, h1, h2⟩ := h
  obtain ⟨z, z1, z2⟩ := rep_app (s' :: r) q p.2 y b vs h2 h' k.2 k'
  refine ⟨(p.1, z), ?_, ?_⟩
  ·show RepSL K (s :: s' :: (r ++ q)) (p.1, z) ((a ++ b) ++ vs)
   simp only [RepSL]
   exact ⟨a, b ++ vs, by rw [List.append_assoc], h1, z1⟩
  ·show OkL (s :: s' :: (r ++ q)) (p.1, z)
   simp only [OkL]
   exact ⟨k.1, z2⟩
theorem widSL_app : ∀ l q : List Sh, widSL (l ++ q) = widSL l + widSL q
 | [], q => by simp [widSL]
 | s :: r, q => by simp only [List.cons_append, widSL, widSL_app r q]; omega
def KW (w : World) : Nat → Nat → Option Value := fun β o => w.cell? ⟨β, o, none⟩
section
variable {H : Type} {enc : TypeId × Value → H} {P : Program} {w : World} {spare : Nat → Bool} {held : Bool}
def Wok (P : Program) (t : TypeId) (d : DataW H) : Prop := (d.weights P t).all (· ≤ reachBytes) = true
theorem wok_each : ∀ {ts : List TypeId} {ds : List (DataW H)}, (DataW.weightsEach P ts ds).all (· ≤ reachBytes) = true → ∀ (i : Nat) t d, ts[i]? = some t → ds[i]? = some d → Wok P t d
 | [], _, _, i, t, d, h, _ => by simp at h
 | _ :: _, [], _, i, t, d, _, h => by simp at h
 | t0 :: ts, d0 :: ds, h, i, t, d, h1, h2 => by
  simp only [DataW.weightsEach, List.all_append, Bool.and_eq_true] at h
  cases i with
  | zero =>
   simp at h1 h2
   subst h1 h2
   exact h.1
  | succ i => exact wok_each h.2 i t d (by simpa using h1) (by simpa using h2)
theorem wok_all {e : TypeId} : ∀ {ds : List (DataW H)}, (DataW.weightsAll P e ds).all (· ≤ reachBytes) = true → ∀ (i : Nat) d, ds[i]? = some d → Wok P e d
 | [], _, i, d, h => by simp at h
 | d0 :: ds, h, i, d, h2 => by
  simp only [DataW.weightsAll, List.all_append, Bool.and_eq_true] at h
  cases i with
  | zero =>
   simp at h2
   subst h2
   exact h.1
  | succ i => exact wok_all h.2 i d (by simpa using h2)
theorem fields_sh {f : TypeId → Option (List Sh)} (ih : ∀ t l, f t = some l → ∀ fuel cs (x : DataW H × List MemPlace), DataW.trod enc P w 0 spare held fuel t cs = some x → Wok P t x.1 → ∃ y : TL l, RepSL (KW w) l y cs ∧ OkL l y) (cs : List Value) :
  ∀ (fs : List Field) (o : Nat) (l : List Sh), shOfF P f fs o = some l → (∀ fd ∈ fs, ∃ m y, DataW.trod enc P w 0 spare held m fd.type ((cs.drop fd.offset).take (P.cellsOf fd.type)) = some y ∧ Wok P fd.type y.1) → ∃ y : TL l, RepSL (KW w) l y ((cs.drop o).take (widSL l)) ∧ OkL l y
 | [], o, l, h, _ => by
  simp only [shOfF, Option.some.injEq] at h
  subst h
  exact ⟨(), by simp [RepSL, widSL], trivial⟩
 | fd :: r, o, l, h, hr => by
  unfold shOfF at h
  by_cases ho : fd.offset = o
  ·rw [if_pos ho] at h
   cases hf : f fd.type with
   | none => rw [hf] at h; simp at h
   | some l1 =>
    rw [hf] at h
    simp only [Option.bind_some] at h
    by_cases hc : P.cellsOf fd.type = widSL l1
    ·rw [if_pos hc] at h
     cases h2 : shOfF P f r (o + widSL l1) with
     | none => rw [h2] at h; simp at h
     | some l2 =>
      rw [h2] at h
      simp only [Option.map_some, Option.some.injEq] at h
      subst h
      obtain ⟨m, y, hy, hwo⟩ := hr fd (List.mem_cons_self ..)
      obtain ⟨x1, a1, a2⟩ := ih _ _ hf _ _ _ hy hwo
      rw [ho, hc] at a1
      obtain ⟨x2, b1, b2⟩ := fields_sh ih cs r _ _ h2 (fun q hq => hr q (List.mem_cons_of_mem _ hq))
      obtain ⟨z, z1, z2⟩ := rep_app l1 l2 x1 x2 _ _ a1 b1 a2 b2
      refine ⟨z, ?_, z2⟩
      rw [widSL_app, List.take_add, List.drop_drop]
      exact z1
    ·rw [if_neg hc] at h; cases h
  ·rw [if_neg ho] at h; cases h
theorem array_sh {l : List Sh} (cs : List Value) : ∀ m : Nat, (∀ i, i < m → ∃ y : TL l, RepSL (KW w) l y ((cs.drop (i * widSL l)).take (widSL l)) ∧ OkL l y) → ∃ y : TL (List.replicate m l).flatten, RepSL (KW w) (List.replicate m l).flatten y (cs.take (m * widSL l)) ∧ OkL _ y
 | 0, _ => ⟨(), by simp [RepSL], trivial⟩
 | m + 1, h => by
  obtain ⟨x1, a1, a2⟩ := array_sh cs m (fun i hi => h i (by omega))
  obtain ⟨x2, b1, b2⟩ := h m (by omega)
  obtain ⟨z, z1, z2⟩ := rep_app _ _ x1 x2 _ _ a1 b1 a2 b2
  have e : (List.replicate (m + 1) l).flatten = (List.replicate m l).flatten ++ l := by
   rw [List.replicate_succ', List.flatten_append]; simp
  rw [e, Nat.succ_mul, List.take_add]
  exact ⟨z, z1, z2⟩
theorem cells_get {a : Addr} {n : Nat} {us : List Value} (h : w.cells? 0 a n = some us) : us.length = n ∧ ∀ (j : Nat) u, us[j]? = some u → w.cell? (a.add j) = some u := by
 obtain ⟨_, h1, h2⟩ := World.cells?_some h
 refine ⟨h1, fun j u hu => ?_⟩
 have hj : j < n := by have := (List.getElem?_eq_some_iff.1 hu).1; omega
 rw [h2 j hj, hu]
theorem open_sh : ∀ (n : Nat) (t : TypeId) (l : List Sh), shOf P n t = some l → ∀ (fuel : Nat) (cs : List Value) (x : DataW H × List MemPlace), DataW.trod enc P w 0 spare held fuel t cs = some x → Wok P t x.1 → ∃ y : TL l, RepSL (KW w) l y cs ∧ OkL l y := by
 intro n
 induction n with
 | zero => intro t l h; cases h
 | succ n ih =>
  intro t l h fuel cs x hx hwk
  unfold shOf at h
  cases ht : P.underlying t with
  | none => rw [ht] at h; cases h
  | some u =>
   rw [ht] at h
   cases u with
   | struct fs =>
    simp only at h
    cases h1 : shOfF P (shOf P n) fs.toList 0 with
    | none => rw [h1] at h; cases h
    | some l1 =>
     rw [h1] at h
     simp only [Option.bind_some] at h
     by_cases hc : P.cellsOf t = widSL l1
     ·rw [if_pos hc] at h
      obtain rfl := Option.some.inj h
      obtain ⟨xs, m, _, hxe, hl, hxl, hf⟩ := DataW.trod_struct ht hx
      subst hxe
      unfold Wok at hwk
      simp only [DataW.weights, ht] at hwk
      obtain ⟨y, a1, a2⟩ := fields_sh ih cs fs.toList 0 l1 h1 (fun fd hfd => by
       obtain ⟨i, hi, e⟩ := List.mem_iff_getElem.mp hfd
       have e' : fs[i]? = some fd := by rw [← e]; simp at hi ⊢
       have k := hf i fd e'
       have hi' : i < xs.length := by simp at hi; omega
       exact ⟨m, xs[i], by rw [k, List.getElem?_eq_getElem hi'], wok_each hwk i _ _ (by rw [List.getElem?_map, Array.getElem?_toList, e']; rfl) (by rw [List.getElem?_map, List.getElem?_eq_getElem hi']; rfl)⟩)
      rw [List.drop_zero, List.take_of_length_le (by omega)] at a1
      exact ⟨y, a1, a2⟩
     ·rw [if_neg hc] at h; cases h
   | bool =>
    obtain rfl := Option.some.inj h
    obtain ⟨b, rfl, _⟩ := DataW.trod_bool ht hx
    exact ⟨b, by simp only [RepSL, RepS], trivial⟩
   | int k =>
    obtain rfl := Option.some.inj h
    obtain ⟨m, rfl, _, hw⟩ := DataW.trod_int ht hx
    exact ⟨m, by simp only [RepSL, RepS], hw⟩
   | string =>
    obtain rfl := Option.some.inj h
    obtain ⟨m, rfl, _, hw⟩ := DataW.trod_string ht hx
    exact ⟨m, by simp only [RepSL, RepS], hw⟩
   | slice e =>
    simp only at h
    cases h1 : shOf P n e with
    | none => rw [h1] at h; cases h
    | some l1 =>
     rw [h1] at h
     simp only [Option.bind_some] at h
     by_cases hc : P.cellsOf e = widSL l1 ∧ 1 ≤ widSL l1 ∧ bySL l1 ≤ P.bytesOf e
     ·rw [if_pos hc] at h
      obtain rfl := Option.some.inj h
      rcases DataW.trod_slice ht hx with ⟨rfl, _⟩ | ⟨a, len, cap, elems, rest, m, _, rfl, hxe, _, hl, hm, hlen, hel, _, _⟩
      ·exact ⟨[], ⟨_, rfl, .inl ⟨rfl, none, 0, rfl⟩⟩, by unfold maxLen; simp, by simp, fun x hx => by cases hx⟩
      subst hxe
      unfold Wok at hwk
      simp only [DataW.weights, ht, List.all_cons, List.all_append, Bool.and_eq_true, decide_eq_true_eq, List.length_map] at hwk
      obtain ⟨hwk1, hwk2, _⟩ := hwk
      ·have key : ∀ i, i < len → ∃ (y : TL l1) (us : List Value), us.length = widSL l1 ∧ RepSL (KW w) l1 y us ∧ OkL l1 y ∧ ∀ (j : Nat) u, us[j]? = some u → w.cell? ((a.add (i * widSL l1)).add j) = some u := fun i hi => by
        have k := hel i hi
        rw [List.getElem?_eq_getElem (by omega), hc.1] at k
        obtain ⟨us, k1, k2⟩ := Option.bind_eq_some_iff.1 k
        obtain ⟨y, y1, y2⟩ := ih e l1 h1 _ _ _ k2 (wok_all hwk2 i _ (by rw [List.getElem?_map, List.getElem?_eq_getElem (by omega)]; rfl))
        obtain ⟨c1, c2⟩ := cells_get k1
        exact ⟨y, us, c1, y1, y2, c2⟩
       let f : Nat → TL l1 := fun i => if hi : i < len then Classical.choose (key i hi) else dfltL l1
       have hf : ∀ i (hi : i < len), f i = Classical.choose (key i hi) := fun i hi => dif_pos hi
       refine ⟨(List.range len).map f, ?_, ?_⟩
       ·refine ⟨_, rfl, ?_⟩
        by_cases h0 : len = 0
        ·subst h0
         exact .inl ⟨rfl, some a, cap, rfl⟩
        ·obtain ⟨us0, c0, _, _, c3⟩ := Classical.choose_spec (key 0 (by omega))
         have hspot : a.spot = none := by
          have := c3 0 _ (List.getElem?_eq_getElem (by omega))
          rw [Nat.zero_mul] at this
          have e0 : (a.add 0).add 0 = a := rfl
          rw [e0] at this
          cases hs : a.spot with
          | none => rfl
          | some q =>
           exfalso
           unfold World.cell? at this
           rw [hs] at this
           split at this <;> simp at this
         refine .inr ⟨a.block, a.off, cap, ?_, ?_, fun i y hy => ?_⟩
         ·have : a = ⟨a.block, a.off, none⟩ := by cases a; simp at hspot; simp [hspot]
          rw [List.length_map, List.length_range, ← this]
         ·rw [List.length_map, List.length_range]; exact hl
         ·rw [List.getElem?_map] at hy
          obtain ⟨i', hi', rfl⟩ := Option.map_eq_some_iff.1 hy
          obtain ⟨hil, rfl⟩ := List.getElem?_eq_some_iff.1 hi'
          rw [List.length_range] at hil
          rw [List.getElem_range, hf i hil]
          obtain ⟨us, d0, d1, _, d3⟩ := Classical.choose_spec (key i hil)
          refine ⟨us, d0, d1, fun j u hu => ?_⟩
          have := d3 j u hu
          show w.cell? ⟨a.block, a.off + (i * widSL l1 + j), none⟩ = some u
          have e : (a.add (i * widSL l1)).add j = ⟨a.block, a.off + (i * widSL l1 + j), none⟩ := by
           cases a
           simp only at hspot
           subst hspot
           rw [add_off, add_off, Nat.add_assoc]
          rw [← e]; exact this
       ·refine ⟨by rw [List.length_map, List.length_range]; omega, ?_, fun x hx => ?_⟩
        ·rw [List.length_map, List.length_range]
         exact Nat.le_trans (Nat.mul_le_mul (by omega) hc.2.2) hwk1
        obtain ⟨i, hi, rfl⟩ := List.mem_map.1 hx
        have hi := List.mem_range.1 hi
        rw [hf i hi]
        obtain ⟨_, _, _, h3, _⟩ := Classical.choose_spec (key i hi)
        exact h3
     ·rw [if_neg hc] at h; cases h
   | array m e =>
    obtain ⟨xs, q, _, hxe, hl, hxl, hf⟩ := DataW.trod_array ht hx
    subst hxe
    unfold Wok at hwk
    simp only [DataW.weights, ht] at hwk
    have gen : ((shOf P n e).bind fun l => if P.cellsOf e = widSL l ∧ P.cellsOf t = m * widSL l then some (List.replicate m l).flatten else none) = some l → ∃ y : TL l, RepSL (KW w) l y cs ∧ OkL l y := fun h => by
     cases h1 : shOf P n e with
     | none => rw [h1] at h; cases h
     | some l1 =>
      rw [h1] at h
      simp only [Option.bind_some] at h
      by_cases hc : P.cellsOf e = widSL l1 ∧ P.cellsOf t = m * widSL l1
      ·rw [if_pos hc] at h
       obtain rfl := Option.some.inj h
       obtain ⟨y, a1, a2⟩ := array_sh (w := w) (l := l1) cs m (fun i hi => by
        have k := hf i hi
        rw [hc.1] at k
        exact ih e l1 h1 _ _ xs[i] (by rw [k, List.getElem?_eq_getElem (by omega)]) (wok_all hwk i _ (by rw [List.getElem?_map, List.getElem?_eq_getElem (by omega)]; rfl)))
       rw [List.take_of_length_le (by omega)] at a1
       exact ⟨y, a1, a2⟩
      ·rw [if_neg hc] at h; cases h
    simp only at h
    split at h
    ·rename_i k he
     by_cases hc : P.cellsOf e = 1 ∧ P.cellsOf t = m
     ·rw [if_pos hc] at h
      obtain rfl := Option.some.inj h
      have key : ∀ i, i < m → ∃ z, cs[i]? = some (.int k z) ∧ (Lit.int k z).wf = true := fun i hi => by
       have hk := hf i hi
       rw [hc.1, Nat.mul_one, List.getElem?_eq_getElem (by omega)] at hk
       obtain ⟨z, z1, _, z3⟩ := DataW.trod_int he hk
       refine ⟨z, ?_, z3⟩
       have : ((cs.drop i).take 1)[0]? = some (.int k z) := by rw [z1]; rfl
       rw [List.getElem?_take, if_pos (by omega), List.getElem?_drop] at this
       exact this
      let g : Nat → Int := fun i => if hi : i < m then Classical.choose (key i hi) else 0
      have hg : ∀ i (hi : i < m), g i = Classical.choose (key i hi) := fun i hi => dif_pos hi
      refine ⟨(List.range m).map g, ⟨by rw [List.length_map, List.length_range], ?_⟩, fun z hz => ?_⟩
      ·apply List.ext_getElem?
       intro i
       rw [List.map_map, List.getElem?_map]
       by_cases hi : i < m
       ·rw [List.getElem?_range hi]
        simp only [Option.map_some, Function.comp_apply]
        rw [hg i hi]
        exact (Classical.choose_spec (key i hi)).1
       ·rw [List.getElem?_eq_none (by omega), List.getElem?_eq_none (by rw [List.length_range]; omega)]
        rfl
      ·obtain ⟨i, hi, rfl⟩ := List.mem_map.1 hz
       have hi := List.mem_range.1 hi
       rw [hg i hi]
       exact (Classical.choose_spec (key i hi)).2
     ·rw [if_neg hc] at h; cases h
    ·exact gen h
   | _ => cases h
def gW (w : World) : Gh := { K := KW w, j := fun _ => none, th := fun _ _ => none }
theorem rep_one {l : List Sh} {y : TL l} {v : Value} (h : RepSL (KW w) l y v.cells.toList) (hl : l.length = 1) (hv : ∀ cs, v ≠ .agg cs) (ha : ∀ s, l = [s] → ∀ k n, s ≠ .arr k n) : ∃ s, ∃ e : l = [s], RepA (gW w) (.one (encS s (e ▸ y : TL [s]))) v := by
 match l, hl with
 | [s], _ =>
  refine ⟨s, rfl, ?_⟩
  have hr := encS_rep (g := gW w) (s := s) (x := y) (vs := v.cells.toList) (by have h2 := h; simp only [RepSL] at h2; exact h2)
  have hc : isArr (encS s y) = false := by
   cases s <;> first | rfl | exact absurd rfl (ha _ rfl _ _)
  obtain ⟨x, e1, e2⟩ := repl_one hc hr
  have hx : v.cells = #[v] := by
   cases v <;> first | rfl | exact absurd rfl (hv _)
  rw [hx] at e1
  obtain rfl := (List.cons.inj e1).1
  exact e2
theorem rep_agg {l : List Sh} {y : TL l} {cs : Array Value} (h : RepSL (KW w) l y (Value.agg cs).cells.toList) : RepA (gW w) (.agg (encL l y)) (.agg cs) :=
 ⟨cs.toList, by simp, encL_rep (g := gW w) h⟩
theorem calls_open {f : FuncId} {fn : Func} {S : Sum} {xs : List A} {vs : List Value} {r : S.ρ} {v : Value} {laid : List (Nat × Nat × Value)} (hS : SumOk P laid f S) (htin : specsL S.tin = []) (hf : P.funcs[f]? = some fn) (hname : (fn.name == "runtime.NumGoroutine") = false) (hb : fn.body.isNone = false)
  (hr : S.run xs [] = some r) (hA : RepAs (gW w) xs vs) (hl : ∀ q ∈ laid, w.cell? ⟨q.1, q.2.1, none⟩ = some q.2.2) (hw : Whole laid w) (hv : ∀ g x, RepV g (S.out xs [] r).1 x → x = v) :
  Calls P f vs.toArray w fun e w' => e = .returned v ∧ Below w.heap.size w w' := by
 have hI := hS xs [] r hr (gW w) w vs (fun q hq => hl q hq) hw (by rintro β (⟨i, hi, _⟩ | ⟨n, e, cap, h⟩); (simp at hi); (cases h)) (fun _ _ _ e => e) hA ⟨fun i cs e => (by simp at e), fun i k β e => (by cases e), fun n β e => (by cases e)⟩
  (noTks (fun _ _ => rfl) (fun p => by unfold tinQ; rw [htin]; rfl)) (noLvs (fun p => by unfold tinQ; rw [htin]; rfl))
 have hcf : (callFunc f vs.toArray).run P w = .ok (.enter f vs.toArray) w := by
  unfold callFunc
  rw [Sem.run_bind, run_program]
  simp only [Result.andThen_ok, hf, hname, hb, Bool.false_eq_true, if_false]
  rfl
 unfold Invokes at hI
 rw [hcf] at hI
 refine Calls.mono hI ?_
 rintro e w' ⟨x, rfl, g', E⟩
 rw [hv g' x E.rep]
 refine ⟨rfl, E.only.os, E.only.tape, E.only.output, E.only.size, fun k hk => E.only.block k hk ?_⟩
 rintro (⟨i, hi, _⟩ | ⟨n, e, cap, h⟩)
 ·simp at hi
 ·cases h
end
end Go.Proofs.YthbhbfnnagaclaaGreatDoor.Mir
namespace Go.Proofs.YthbhbfnnagaclaaGreatDoor.Mir
open Go Go.RowKit
theorem wi64 {n : Int} (h0 : -9223372036854775808 ≤ n) (h1 : n < 9223372036854775808) : IntKind.i64.wrap n = n := by rw [IntKind.wrap_i64]; omega
def By (xs : List Int) : Prop := ∀ x ∈ xs, 0 ≤ x ∧ x < 256
theorem By.nil : By [] := fun _ h => by cases h
theorem By.cons {x : Int} {xs : List Int} (h : 0 ≤ x ∧ x < 256) (t : By xs) : By (x :: xs) := fun y hy => by
 rcases List.mem_cons.1 hy with rfl | hy
 ·exact h
 ·exact t y hy
theorem By.append {xs ys : List Int} (h : By xs) (k : By ys) : By (xs ++ ys) := fun x hx => (List.mem_append.1 hx).elim (h x) (k x)
theorem By.take {xs : List Int} (h : By xs) (n : Nat) : By (xs.take n) := fun x hx => h x (List.mem_of_mem_take hx)
theorem By.drop {xs : List Int} (h : By xs) (n : Nat) : By (xs.drop n) := fun x hx => h x (List.mem_of_mem_drop hx)
def le : Nat → Int → List Int
 | 0, _ => []
 | n + 1, v => v % 256 :: le n (v / 256)
end Go.Proofs.YthbhbfnnagaclaaGreatDoor.Mir
namespace Go.Proofs.YthbhbfnnagaclaaGreatDoor.Mir
open Go Go.RowKit
def aggB : Option TypeDesc → Bool
 | some (.struct _) => true
 | some (.array _ _) => true
 | _ => false
section
variable {H : Type} {enc : TypeId × Value → H} {P : Program} {w : World} {spare : Nat → Bool} {held : Bool}
theorem okWide_cs {r : Reach} {b0 : Nat} {t : TypeId} {v : Value} (ht : aggB (P.underlying t) = true) (h : Value.okWide P w r b0 t v) : ∃ cs, v = .agg cs := by
 unfold Value.okWide at h
 cases hu : P.underlying t with
 | none => rw [hu] at ht; cases ht
 | some u =>
  rw [hu] at h ht
  cases u <;> first | (obtain ⟨cs, e, _⟩ := h; exact ⟨cs, e⟩) | exact nomatch ht
theorem okWide_one {r : Reach} {b0 : Nat} {t : TypeId} {v : Value} (ht : aggB (P.underlying t) = false) (h : Value.okWide P w r b0 t v) : ∀ cs, v ≠ .agg cs := by
 rintro cs rfl
 unfold Value.okWide Cell.okWide Cell.ok at h
 cases hu : P.underlying t with
 | none => rw [hu] at h; exact h
 | some u =>
  rw [hu] at h ht
  cases u <;> first | exact h | exact nomatch ht
theorem open_agg {r : Reach} {b0 : Nat} {t : TypeId} {l : List Sh} {v : Value} {d : DataW H} {p : List MemPlace} (hl : shOf P 9 t = some l) (ht : aggB (P.underlying t) = true) (hv : Value.okWide P w r b0 t v) (h : DataW.Trod enc P w 0 spare held t v d p) (hw : Wok P t d) :
  ∃ y : TL l, OkL l y ∧ RepA (gW w) (.agg (encL l y)) v := by
 obtain ⟨cs, rfl⟩ := okWide_cs ht hv
 obtain ⟨fuel, hf⟩ := h
 obtain ⟨y, h1, h2⟩ := open_sh 9 t l hl fuel _ _ hf hw
 exact ⟨y, h2, rep_agg h1⟩
theorem open_cell {r : Reach} {b0 : Nat} {t : TypeId} {s : Sh} {v : Value} {d : DataW H} {p : List MemPlace} (hl : shOf P 9 t = some [s]) (ht : aggB (P.underlying t) = false) (hs : ∀ k n, s ≠ .arr k n) (hv : Value.okWide P w r b0 t v) (h : DataW.Trod enc P w 0 spare held t v d p) (hw : Wok P t d) :
  ∃ y : s.T, OkS s y ∧ RepA (gW w) (.one (encS s y)) v := by
 have hn := okWide_one ht hv
 obtain ⟨fuel, hf⟩ := h
 obtain ⟨y, h1, h2⟩ := open_sh 9 t [s] hl fuel _ _ hf hw
 obtain ⟨s', e, h3⟩ := rep_one h1 rfl hn (fun s' e k n h => hs k n ((List.cons.inj e).1.trans h))
 obtain rfl := (List.cons.inj e).1
 exact ⟨y, by simpa only [OkL] using h2, h3⟩
end
theorem wf_range {k : IntKind} {n : Int} (h : (Lit.int k n).wf = true) : k.min ≤ n ∧ n ≤ k.max := by simpa [Lit.wf] using h
end Go.Proofs.YthbhbfnnagaclaaGreatDoor.Mir
