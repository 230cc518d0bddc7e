/- The mirror: slices.Clone at any type, by hand. Nothing here names the program. -/
import Derived.Test.YtkdjfakjnkemiaaDoorMirX
namespace Go.Proofs.YtkdjfakjnkemiaaDoor.Mir
open Go Go.RowKit

def cloneR0 (t : TypeId) : Code := .region 0 #[{ dst := some 2, op := .assign (.const (.slice none 0 0)), type := t, pos := "slices.go:355", after := #[], guard := none }] false
def cloneO0 (t : TypeId) : Oper := { dst := some 3, op := .move (.tmp 0), type := t, pos := "slices.go:357", after := #[], guard := none }
def cloneO1 (t bt : TypeId) : Oper := { dst := some 4, op := .binOp .eql t (.tmp 3) (.const (.slice none 0 0)) t, type := bt, pos := "slices.go:357", after := #[{ on := 0, ground := .data }], guard := none }
def cloneOps (t bt : TypeId) : Array Oper := #[cloneO0 t, cloneO1 t bt]
def cloneC (t : TypeId) : Code := .cond (.tmp 4) (.seq (.region 2 #[{ dst := some 2, op := .assign (.const (.slice none 0 0)), type := t, pos := "slices.go:358", after := #[], guard := none }] false) .ret) .skip
def cloneT (t : TypeId) : Code := .seq (.region 3 #[{ dst := some 5, op := .buildSlice t 0 #[], type := t, pos := "slices.go:362", after := #[], guard := none },
  { dst := some 6, op := .move (.tmp 0), type := t, pos := "slices.go:362", after := #[], guard := none },
  { dst := some 7, op := .call { callee := .builtin .append, args := #[.tmp 5, .tmp 6], argTypes := #[t, t] }, type := t, pos := "slices.go:362", after := #[{ on := 0, ground := .data }, { on := 1, ground := .data }], guard := none },
  { dst := some 2, op := .assign (.tmp 7), type := t, pos := "slices.go:362", after := #[{ on := 2, ground := .data }, { on := 2, ground := .chain }, { on := 0, ground := .phase }, { on := 1, ground := .phase }, { on := 2, ground := .phase }], guard := none }] false) .ret
def cloneCode (t bt : TypeId) : Code := .seq (cloneR0 t) (.seq (.seq (.region 1 (cloneOps t bt) false) (cloneC t)) (cloneT t))
def cloneSt (l : List Sh) (b : Bool) (xs : List (TL l)) : St :=
  ⟨[(4, one (boolC b)), (3, one (.sl none l xs)), (2, one (.lit (.slice none 0 0))), (0, one (.sl none l xs))], []⟩
/-- A clone's elements, if they fit in. -/
def cloneF (l : List Sh) (bytes : Nat) (xs : List (TL l)) : Option (List (TL l)) := bif decide ((0 + xs.length) * bytes ≤ 140737488355328) then some xs else none
section
variable {P : Program} {X : Ctx} {laid : List (Nat × Nat × Value)}
theorem nilTest {t e : TypeId} (h : P.underlying t = some (.slice e)) {K : Nat → Nat → Option Value} {α : Type} {size : Nat} {R : α → List Value → Prop} {xs : List α} {x : Value} (hx : RowS K size R xs x) (w : World) :
    ∃ b, (do eqGuard .eql t (.tmp 3) (.const (.slice none 0 0)) x (.slice none 0 0); binOp .eql t x (.slice none 0 0) : Sem Value).run P w = .ok (.bool b) w ∧ (b = true → xs = []) := by
  have hu : ∀ w, (underlying t).run P w = .ok (.slice e) w := run_underlying h
  rcases hx with ⟨rfl, ad, c0, rfl⟩ | ⟨β, off, cap, rfl, _⟩
  · refine ⟨ad.isNone, ?_, fun _ => rfl⟩
    cases ad with
    | some ad =>
      have : (Op.equal t (.slice (some ad) 0 c0) (.slice none 0 0)).run P w = .ok false w := by
        unfold Op.equal Op.maxDepth
        rw [Op.equalIn]
        simp [hu]
      simp [eqGuard, binOp, this]
    | none =>
    have : (Op.equal t (.slice none 0 c0) (.slice none 0 0)).run P w = .ok true w := by
      unfold Op.equal Op.maxDepth
      rw [Op.equalIn]
      simp [hu]
    simp [eqGuard, binOp, this]
  · refine ⟨false, ?_, fun h => by cases h⟩
    have : (Op.equal t (.slice (some ⟨β, off, none⟩) xs.length cap) (.slice none 0 0)).run P w = .ok false w := by
      unfold Op.equal Op.maxDepth
      rw [Op.equalIn]
      simp [hu]
    simp [eqGuard, binOp, this]
theorem clone_ok (hX : CtxOk P laid X) {f : FuncId} {fn : Func} {t bt e : TypeId} (hf : P.funcs[f]? = some fn) (hb : fn.body = some (cloneCode t bt)) (hN : fn.ntmps = 8) (hres : fn.results = #[.tmp 2]) (hname : (fn.name == "runtime.NumGoroutine") = false)
    (hu : P.underlying t = some (.slice e)) {l : List Sh} {E sz bytes : Nat}
    (hE : ∀ (b : Bool) (xs : List (TL l)), (b = true → xs = []) → exec X 8 (lookL []) (cloneC t) 0 (fun ex s' => match ex with | .normal => exec X 8 (lookL []) (cloneT t) 0 (fnK X [.tmp 2] 0 [.one (.slt l E sz)]) s' | ex => fnK X [.tmp 2] 0 [.one (.slt l E sz)] ex s') (cloneSt l b xs) = cloneF l bytes xs) :
    SumOk P laid f (fnSum 1 0 1 [.one (.d (.sl l))] [.one (.slt l E sz)] (cloneF l bytes)) := by
  refine fn_runs hX hf hb hname (by rw [hres]; rfl) (fun p r hr b g a w hb' hc => ?_)
  rw [hN, hres]
  rw [hN] at hc
  have h1 : Runs P b 8 (cloneR0 t) (fun ex s => some (ex, s)) (.normal, (⟨[(2, one (.lit (.slice none 0 0))), (0, one (.sl none l p))], []⟩ : St)) a w :=
    exec_ok hX hb' (cloneR0 t) 0 _ (fnSt 1 0 [.one (.d (.sl l))] p) _ (lp := lookL []) rfl (fun p _ L hL => by cases hL) g a w hc
  refine wp_seq (wp_mono h1 ?_)
  rintro e1 a1 w1 ⟨ex, s1, g1, hm, hc1, hK⟩
  obtain ⟨rfl, rfl⟩ := Prod.mk.inj (Option.some.inj hK)
  cases e1 <;> first | exact hm.elim | skip
  have h2 : (Code.region 1 (cloneOps t bt) false).wp P (fun e a' w' => e = .normal ∧ ∃ (bv : Bool) (g' : Gh), (bv = true → p = []) ∧ Con b 8 g' (frL (cloneSt l bv p).fr) (memL (cloneSt l bv p).mem) a' w') a1 w1 := by
    refine wp_region ?_
    show wpOps P (cloneOps t bt) _ [0, 1] a1 w1
    rw [wpOps_cons]
    refine wpOp_mono ?_ (planG_ok (o := cloneO0 t) (d := ⟨one (.sl none l p), [], []⟩) hX hb'.1 hc1 (fun t ht => by cases ht; exact Nat.lt_of_lt_of_le (by decide : 3 < 8) (Nat.le_refl _)) rfl rfl)
    rintro a2 w2 ⟨g2, hc2⟩
    rw [wpOps_cons]
    have hx2 : RepC g2 (.sl none l p) (a2.tmps.getD 3 undef) := hc2.rep 3
    obtain ⟨bv, hrun, hbv⟩ := nilTest (P := P) (t := t) hu hx2.1 w2
    unfold wpOp
    rw [show (cloneOps t bt)[1]? = some (cloneO1 t bt) from rfl]
    simp only
    rw [if_pos (show Region.wanted (cloneO1 t bt) (yielded (cloneOps t bt) a2.tmps) = true by simp [Region.wanted, cloneO1])]
    refine .inl (Oper.wp_mono ?_ (Good.of_pure (o := cloneO1 t bt) (d := ⟨one (boolC bv), [], []⟩) (s := do eqGuard .eql t (.tmp 3) (.const (.slice none 0 0)) (a2.tmps.getD 3 undef) (.slice none 0 0); binOp .eql t (a2.tmps.getD 3 undef) (.slice none 0 0)) hc2 (fun t ht => by cases ht; exact Nat.lt_of_lt_of_le (by decide : 4 < 8) (Nat.le_refl _)) rfl ⟨_, hrun, rfl, rfl⟩))
    rintro a3 w3 ⟨g3, hc3⟩
    exact ⟨rfl, bv, g3, hbv, hc3⟩
  refine wp_seq (wp_seq (wp_mono h2 ?_))
  rintro e a3 w3 ⟨rfl, bv, g3, hbv, hc3⟩
  refine wp_mono (exec_ok hX hb' (cloneC t) 0 _ (cloneSt l bv p) r (by rw [hE bv p hbv]; exact hr) (fun p _ L hL => by cases hL) g3 a3 w3 hc3) ?_
  rintro e a4 w4 ⟨ex, s', g', hm, hc', hK⟩
  cases ex with
  | normal =>
    cases e <;> first | exact hm.elim | skip
    exact exec_ok hX hb' (cloneT t) 0 _ s' r hK (fun p _ L hL => by cases hL) g' a4 w4 hc'
  | exit i =>
    cases e <;> first | exact hm.elim | skip
    exact ⟨.exit i, s', g', hm, hc', hK⟩
  | ret =>
    cases e <;> first | exact hm.elim | skip
    exact ⟨.ret, s', g', trivial, hc', hK⟩
end
end Go.Proofs.YtkdjfakjnkemiaaDoor.Mir
