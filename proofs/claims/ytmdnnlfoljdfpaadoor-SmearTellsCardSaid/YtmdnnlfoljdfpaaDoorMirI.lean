/- The mirror's run of code. Nothing here names the program. -/
import Derived.Test.YtmdnnlfoljdfpaaDoorMirH
namespace Go.Proofs.YtmdnnlfoljdfpaaDoor.Mir
open Go Go.RowKit

structure St where
  fr : List (Nat × V)
  mem : List (Nat × List C)
def frL : List (Nat × V) → Nat → V
  | [], _ => .a (.one .junk)
  | (t, v) :: r, u => bif Nat.beq u t then v else frL r u
def memL (l : List (Nat × List C)) (n : Nat) : Option (List C) := over l (fun _ => none) n
theorem frL_cons (t : Nat) (v : V) (r : List (Nat × V)) : frL ((t, v) :: r) = apFr (some t) v (frL r) := rfl
theorem over_app (wr m : List (Nat × List C)) (base : Nat → Option (List C)) : over (wr ++ m) base = over wr (over m base) := by
  funext n
  induction wr with
  | nil => rfl
  | cons p r ih => obtain ⟨k, cs⟩ := p; simp only [List.cons_append, over]; cases Nat.beq n k <;> simp [ih]
inductive Ex where
  | normal
  | exit (id : Nat)
  | ret
def exm : Ex → Exit → Prop
  | .normal, .normal => True
  | .exit i, .exit j => i = j
  | .ret, .ret => True
  | _, _ => False
def refine1 (t : Nat) (b : Bool) (s : St) : St := ⟨(t, .a (.one (boolC b))) :: s.fr, s.mem⟩
def apSt (o : Oper) (d : Delta) (s : St) : St := ⟨match o.dst with | some t => (t, d.v) :: s.fr | none => s.fr, d.wr ++ s.mem⟩
def dstOk (N : Nat) : Option Nat → Bool
  | none => true
  | some t => Nat.blt t N
section
variable {α : Type}
def step1 (X : Ctx) (N : Nat) (ops : Array Oper) (o : Oper) (s : St) (K : Delta → St → Option α) : Option α :=
  bif dstOk N o.dst then
    match o.guard with
    | none => (plan X o (frL s.fr) (memL s.mem)).run fun d => K d s
    | some (j, want) => match guardTmp ops j with
      | none => none
      | some t => match frL s.fr t with
        | .a (.one (.lit (.bool b))) => match want with
          | true => bif b then (plan X o (frL (refine1 t true s).fr) (memL s.mem)).run (fun d => K d (refine1 t true s)) else K skipD (refine1 t false s)
          | false => bif b then K skipD (refine1 t true s) else (plan X o (frL (refine1 t false s).fr) (memL s.mem)).run (fun d => K d (refine1 t false s))
        | .a (.one (.lit (.tuple _))) => K skipD s
        | _ => none
  else none
def runOps (X : Ctx) (N : Nat) (ops : Array Oper) : List Oper → List Ent → St → (List Ent → St → Option α) → Option α
  | [], log, s, K => K log s
  | o :: r, log, s, K => step1 X N ops o s fun d s' => runOps X N ops r ((o, d) :: log) (apSt o d s') K
structure LSum where
  run : ∀ {α : Type}, St → (Ex → St → Option α) → Option α
/-- A piece of code by its first region, and how deep that stands. -/
def segKey : Code → Option Nat
  | .region id _ _ => some (id * 64)
  | .seq x _ => (match segKey x with | some k => some (k + 1) | none => none)
  | .block _ x => (match segKey x with | some k => some (k + 1) | none => none)
  | .cond _ x _ => (match segKey x with | some k => some (k + 1) | none => none)
  | .loop x => (match segKey x with | some k => some (k + 1) | none => none)
  | _ => none
def segL (lp : Nat → Option LSum) (x : Code) : Option LSum := match segKey x with
  | some k => lp (1000000 + k)
  | none => none
def segIn (x : Code) : List (Nat × Code) := match segKey x with
  | some k => [(1000000 + k, x)]
  | none => []
def exec (X : Ctx) (N : Nat) (lp : Nat → Option LSum) : Code → Nat → (Ex → St → Option α) → St → Option α
  | .skip, _, K, s => K .normal s
  | .label _, _, K, s => K .normal s
  | .region _ ops draw, _, K, s =>
    bif draw then runOps X N ops ops.toList [] s (fun log s' => bif drawGo ops log.reverse 0 [] [] then K .normal s' else none)
    else runOps X N ops ops.toList [] s (fun _ s' => K .normal s')
  | .seq x y, cur, K, s => match segL lp x with
    | some L => L.run s (fun e s' => match e with | .normal => exec X N lp y cur K s' | e => K e s')
    | none => exec X N lp x cur (fun e s' => match e with | .normal => exec X N lp y cur K s' | e => K e s') s
  | .cond c x y, cur, K, s => match c with
    | .tmp t => match frL s.fr t with
      | .a (.one (.lit (.bool b))) => bif b then exec X N lp x cur K (refine1 t true s) else exec X N lp y cur K (refine1 t false s)
      | _ => none
    | .const (.bool b) => bif b then exec X N lp x cur K s else exec X N lp y cur K s
    | _ => none
  | .block id x, _, K, s => exec X N lp x id (fun e s' => match e with | .exit i => bif Nat.beq i id then K .normal s' else K (.exit i) s' | e => K e s') s
  | .loop _, cur, K, s => match lp cur with | some L => L.run s K | none => none
  | .exit id, _, K, s => K (.exit id) s
  | .ret, _, K, s => K .ret s
  | _, _, _, _ => none
end
/-- The loops of a piece of code, with the block that each stands in. -/
def loopsIn : Nat → Code → List (Nat × Code)
  | cur, .seq x y => segIn x ++ (loopsIn cur x ++ loopsIn cur y)
  | cur, .cond _ x y => loopsIn cur x ++ loopsIn cur y
  | _, .block id x => loopsIn id x
  | cur, .loop x => [(cur, .loop x)]
  | _, _ => []
/-- What a piece of code must come to. -/
def Runs (P : Program) (b : Base) (N : Nat) (c : Code) {α : Type} (K : Ex → St → Option α) (r : α) (a : Act) (w : World) : Prop :=
  c.wp P (fun e a' w' => ∃ ex s' g', exm ex e ∧ Con b N g' (frL s'.fr) (memL s'.mem) a' w' ∧ K ex s' = some r) a w
/-- The bases of a function that is handed so many blocks. -/
def BaseOk (laid : List (Nat × Nat × Value)) (nOut : Nat) (b : Base) : Prop := Laid laid b.K0 ∧ ∀ n β, b.j0 n = some β → ∃ i, i < nOut ∧ n = 2 * i
def SegOk (P : Program) (laid : List (Nat × Nat × Value)) (nOut N : Nat) (c : Code) (L : LSum) : Prop :=
  ∀ (b : Base), BaseOk laid nOut b → ∀ {α : Type} (K : Ex → St → Option α) (s : St) (r : α), L.run s K = some r → ∀ g a w, Con b N g (frL s.fr) (memL s.mem) a w → Runs P b N c K r a w
section
variable {P : Program} {b : Base} {N nOut : Nat} {X : Ctx} {laid : List (Nat × Nat × Value)} {ops : Array Oper} {α : Type} {lp : Nat → Option LSum}
theorem refine_same {t : Nat} {v : Bool} {s : St} (h : frL s.fr t = .a (.one (.lit (.bool v)))) : frL (refine1 t v s).fr = frL s.fr := by
  funext u
  simp only [refine1, frL]
  cases hb : Nat.beq u t with
  | false => rfl
  | true => obtain rfl := Nat.eq_of_beq_eq_true hb; exact h.symm
theorem dstOk_spec {d : Option Nat} (h : dstOk N d = true) : ∀ t, d = some t → t < N := by
  rintro t rfl
  simpa [dstOk] using h
theorem step1_spec {o : Oper} {s : St} {K : Delta → St → Option α} {r : α} (h : step1 X N ops o s K = some r) :
    ∃ d s', StepR X N ops o (frL s.fr) (memL s.mem) d ∧ frL s'.fr = frL s.fr ∧ memL s'.mem = memL s.mem ∧ K d s' = some r := by
  unfold step1 at h
  cases hd : dstOk N o.dst with
  | false => rw [hd] at h; cases h
  | true =>
    rw [hd] at h
    simp only [cond_true] at h
    have hdd := dstOk_spec hd
    split at h
    · rename_i eg
      obtain ⟨d, h1, h2⟩ := Pl.run_some h
      exact ⟨d, s, ⟨hdd, by unfold planG; rw [eg]; exact h1⟩, rfl, rfl, h2⟩
    · rename_i j want eg
      split at h
      · cases h
      · rename_i t et
        split at h
        · rename_i v ev'
          have pl : ∀ d, (v == want) = true → (plan X o (frL s.fr) (memL s.mem)).run some = some d → (planG X ops o (frL s.fr) (memL s.mem)).run some = some d := fun d h1 h2 => by
            unfold planG
            simp only [eg, et, ev', Pl.run, h1, cond_true]; exact h2
          have ps : (v == want) = false → (planG X ops o (frL s.fr) (memL s.mem)).run some = some skipD := fun h1 => by
            unfold planG
            simp only [eg, et, ev', Pl.run, h1, cond_false]
          cases want with
          | true =>
            cases v with
            | true =>
              simp only [cond_true] at h
              obtain ⟨d, h1, h2⟩ := Pl.run_some h
              have e := refine_same (v := true) ev'
              rw [e] at h1
              exact ⟨d, _, ⟨hdd, pl d rfl h1⟩, e, rfl, h2⟩
            | false =>
              simp only [cond_false] at h
              exact ⟨skipD, _, ⟨hdd, ps rfl⟩, refine_same ev', rfl, h⟩
          | false =>
            cases v with
            | true =>
              simp only [cond_true] at h
              exact ⟨skipD, _, ⟨hdd, ps rfl⟩, refine_same ev', rfl, h⟩
            | false =>
              simp only [cond_false] at h
              obtain ⟨d, h1, h2⟩ := Pl.run_some h
              have e := refine_same (v := false) ev'
              rw [e] at h1
              exact ⟨d, _, ⟨hdd, pl d rfl h1⟩, e, rfl, h2⟩
        · rename_i vs ev'
          exact ⟨skipD, s, ⟨hdd, by unfold planG; simp only [eg, et, ev', Pl.run]⟩, rfl, rfl, h⟩
        · cases h
theorem apSt_fr (o : Oper) (d : Delta) (s : St) : frL (apSt o d s).fr = apFr o.dst d.v (frL s.fr) := by
  unfold apSt
  cases o.dst <;> rfl
theorem apSt_mem (o : Oper) (d : Delta) (s : St) : memL (apSt o d s).mem = over d.wr (memL s.mem) := by
  show over (d.wr ++ s.mem) _ = _
  rw [over_app]; rfl
theorem runOps_spec : ∀ {l : List Oper} {log : List Ent} {s : St} {K : List Ent → St → Option α} {r : α}, runOps X N ops l log s K = some r →
    ∃ es s', es.map (·.1) = l ∧ Seq X N ops es (frL s.fr) (memL s.mem) ∧ frL s'.fr = frAll es (frL s.fr) ∧ memL s'.mem = memAll es (memL s.mem) ∧ K (es.reverse ++ log) s' = some r
  | [], log, s, K, r, h => ⟨[], s, rfl, trivial, rfl, rfl, h⟩
  | o :: l, log, s, K, r, h => by
    unfold runOps at h
    obtain ⟨d, s1, h1, h2, h3, h4⟩ := step1_spec h
    obtain ⟨es, s', k1, k2, k3, k4, k5⟩ := runOps_spec h4
    rw [apSt_fr, apSt_mem, h2, h3] at k2
    rw [apSt_fr, h2] at k3
    rw [apSt_mem, h3] at k4
    refine ⟨(o, d) :: es, s', by simp [k1], ⟨h1, k2⟩, k3, k4, ?_⟩
    simpa using k5
theorem exec_ok (hX : CtxOk P laid X) (hb : BaseOk laid nOut b) : ∀ (c : Code) (cur : Nat) (K : Ex → St → Option α) (s : St) (r : α), exec X N lp c cur K s = some r →
    (∀ p ∈ loopsIn cur c, ∀ L, lp p.1 = some L → SegOk P laid nOut N p.2 L) → ∀ g a w, Con b N g (frL s.fr) (memL s.mem) a w → Runs P b N c K r a w
  | .skip, cur, K, s, r, h, _, g, a, w, hc => wp_skip ⟨.normal, s, g, trivial, hc, h⟩
  | .label _, cur, K, s, r, h, _, g, a, w, hc => wp_label ⟨.normal, s, g, trivial, hc, h⟩
  | .exit id, cur, K, s, r, h, _, g, a, w, hc => wp_exit ⟨.exit id, s, g, rfl, hc, h⟩
  | .ret, cur, K, s, r, h, _, g, a, w, hc => wp_ret ⟨.ret, s, g, trivial, hc, h⟩
  | .region id ops draw, cur, K, s, r, h, _, g, a, w, hc => by
    unfold exec at h
    have ents : ∀ es : List Ent, es.map (·.1) = ops.toList → es.length = ops.size ∧ ∀ (i : Nat) (e : Ent), es[i]? = some e → ops[i]? = some e.1 := fun es e => by
      refine ⟨by have := congrArg List.length e; simpa using this, fun i x hx => ?_⟩
      rw [← Array.getElem?_toList, ← e, List.getElem?_map, hx]; rfl
    cases draw with
    | true =>
      simp only [cond_true] at h
      obtain ⟨es, s', h1, h2, h3, h4, h5⟩ := runOps_spec h
      simp only [List.append_nil, List.reverse_reverse] at h5
      cases hd : drawGo ops es 0 [] [] with
      | false => rw [hd] at h5; cases h5
      | true =>
        rw [hd] at h5
        obtain ⟨e1, e2⟩ := ents es h1
        refine draw_ok hX hb.1 e1 e2 h2 hd hc ?_
        intro g' a' w' hc'
        exact ⟨.normal, s', g', trivial, by rw [h3, h4]; exact hc', h5⟩
    | false =>
      simp only [cond_false] at h
      obtain ⟨es, s', h1, h2, h3, h4, h5⟩ := runOps_spec h
      obtain ⟨e1, e2⟩ := ents es h1
      refine wp_region ?_
      rw [← e1, List.range_eq_range']
      refine seq_ok hX hb.1 es 0 g _ _ a w (fun i e he => by rw [Nat.zero_add]; exact e2 i e he) h2 hc ?_
      intro g' a' w' hc'
      exact ⟨.normal, s', g', trivial, by rw [h3, h4]; exact hc', h5⟩
  | .seq x y, cur, K, s, r, h, hl, g, a, w, hc => by
    unfold exec at h
    have h1 : Runs P b N x (fun e s' => match e with | .normal => exec X N lp y cur K s' | e => K e s') r a w := by
      split at h
      · rename_i L eL
        unfold segL at eL
        split at eL
        · rename_i k ek
          exact hl (1000000 + k, x) (by simp [loopsIn, segIn, ek]) L eL b hb _ s r h g a w hc
        · cases eL
      · exact exec_ok hX hb x cur _ s r h (fun p hp => hl p (by simp [loopsIn, hp])) g a w hc
    refine wp_seq (wp_mono h1 ?_)
    rintro e a' w' ⟨ex, s', g', hm, hc', hK⟩
    cases ex with
    | normal =>
      cases e <;> first | exact hm.elim | skip
      exact exec_ok hX hb y cur K s' r hK (fun p hp => hl p (by simp [loopsIn, hp])) g' a' w' hc'
    | exit i =>
      cases e <;> first | exact hm.elim | skip
      exact ⟨.exit i, s', g', hm, hc', hK⟩
    | ret =>
      cases e <;> first | exact hm.elim | skip
      exact ⟨.ret, s', g', trivial, hc', hK⟩
  | .cond c x y, cur, K, s, r, h, hl, g, a, w, hc => by
    unfold exec at h
    split at h
    · rename_i t
      split at h
      · rename_i v ev'
        have hv := hc.rep t
        rw [ev'] at hv
        obtain hv : a.tmps.getD t undef = .bool v := hv
        cases v with
        | true =>
          refine wp_cond_true hv (exec_ok hX hb x cur K _ r h (fun p hp => hl p (by simp [loopsIn, hp])) g a w ?_)
          rw [refine_same ev']; exact hc
        | false =>
          refine wp_cond_false hv (exec_ok hX hb y cur K _ r h (fun p hp => hl p (by simp [loopsIn, hp])) g a w ?_)
          rw [refine_same ev']; exact hc
      · cases h
    · rename_i v
      cases v with
      | true => exact wp_cond_true rfl (exec_ok hX hb x cur K _ r h (fun p hp => hl p (by simp [loopsIn, hp])) g a w hc)
      | false => exact wp_cond_false rfl (exec_ok hX hb y cur K _ r h (fun p hp => hl p (by simp [loopsIn, hp])) g a w hc)
    · cases h
  | .block id x, cur, K, s, r, h, hl, g, a, w, hc => by
    unfold exec at h
    refine wp_block (wp_mono (exec_ok hX hb x id _ s r h (fun p hp => hl p (by simpa [loopsIn] using hp)) g a w hc) ?_)
    rintro e a' w' ⟨ex, s', g', hm, hc', hK⟩
    cases ex with
    | normal =>
      cases e <;> first | exact hm.elim | skip
      exact ⟨.normal, s', g', trivial, hc', hK⟩
    | exit i =>
      cases e <;> first | exact hm.elim | skip
      rename_i j
      obtain rfl : i = j := hm
      cases hb' : Nat.beq i id with
      | true =>
        simp only [hb', cond_true] at hK
        simp only [Exit.inBlock, Nat.eq_of_beq_eq_true hb', if_true]
        exact ⟨.normal, s', g', trivial, hc', hK⟩
      | false =>
        simp only [hb', cond_false] at hK
        have : ¬ i = id := fun e => by subst e; simp at hb'
        simp only [Exit.inBlock, this, if_false]
        exact ⟨.exit i, s', g', rfl, hc', hK⟩
    | ret =>
      cases e <;> first | exact hm.elim | skip
      exact ⟨.ret, s', g', trivial, hc', hK⟩
  | .loop body, cur, K, s, r, h, hl, g, a, w, hc => by
    unfold exec at h
    split at h
    · rename_i L eL
      exact hl (cur, .loop body) (by simp [loopsIn]) L eL b hb K s r h g a w hc
    · cases h
  | .rangeFunc .., _, _, _, _, h, _, _, _, _, _ => by simp [exec] at h
  | .scope _, _, _, _, _, h, _, _, _, _, _ => by simp [exec] at h
  | .goto _, _, _, _, _, h, _, _, _, _, _ => by simp [exec] at h
  | .refuse _, _, _, _, _, h, _, _, _, _, _ => by simp [exec] at h
end
end Go.Proofs.YtmdnnlfoljdfpaaDoor.Mir
