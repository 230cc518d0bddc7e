import Derived.Test.YtkdjfakjnkemiaaDoorSumsF
import Derived.Test.YtkdjfakjnkemiaaDoorRow
namespace Go.Proofs.YtkdjfakjnkemiaaDoor.Mir
open Go Go.RowKit
set_option maxRecDepth 100000

theorem eB_neg (x : Int) : eB (-x) = (!decide (x < 0) && !decide (absZ x = 0), dl (absZ x)) := by
  unfold eB
  have h1 : absZ (-x) = absZ x := by unfold absZ; split <;> split <;> omega
  rw [h1]
  congr 1
  by_cases h : x < 0
  · rw [decide_eq_true h, decide_eq_false (by omega)]; rfl
  · rw [decide_eq_false h]
    by_cases h2 : x = 0
    · subst h2; rfl
    · rw [decide_eq_true (by omega), decide_eq_false (by unfold absZ; split <;> omega)]; rfl
theorem seg1 (N : Nat) {x : Int} (hx : in128 x) (a13 a14 : Option Int) (a15 : Int) (a16 : Option Int) (a17 : Bool) (a18 : List Int) (b1 b2 : Int × Int) (c1 : Bool × List Int) (b3 b4 : Int × Int) (c2 : Bool × List Int) :
    l_11_1000512 N ((), (), (), (), (), (), a13, (), a14, a15, a16, (), a17, a18, b1, b2, eB x, c1, b3, b4, c2) = some ((), (), (), (), (), (), a13, (), a14, a15, a16, (), a17, (), a18, b1, b2, eB x, c1, b3, b4, c2, eB (-x)) := by
  have hz : zeroF (dl (absZ x)) = some (decide (absZ x = 0)) := zeroF_at (absZ_nn x) (by unfold in128 at hx; unfold absZ; split <;> omega)
  rw [eB_neg]
  by_cases h : x < 0
  · have e : eB x = (true, dl (absZ x)) := by unfold eB; rw [decide_eq_true h]
    rw [e, decide_eq_true h]
    rfl
  · have e : eB x = (false, dl (absZ x)) := by unfold eB; rw [decide_eq_false h]
    rw [e, decide_eq_false h]
    show ((zeroF (dl (absZ x))).bind fun r33 => _) = _
    rw [hz]
    rfl
theorem seg4 (N : Nat) {v : Int} (hv : inB v) (b0 : Int) (a : List Int) (c d : Int × Int) (h0 : b0 = 0) :
    l_11_1001089 N ((), (), (), (), b0, a, c, d, eB v) = some ((), (), (), (if v < 0 then -1 else if 0 < v then 1 else 0), a, c, d) := by
  subst h0
  have hz : zeroF (dl (absZ v)) = some (decide (absZ v = 0)) := zeroF_at (absZ_nn v) (by unfold inB at hv; unfold absZ; split <;> omega)
  show ((zeroF (dl (absZ v))).bind fun r99 => _) = _
  rw [hz]
  by_cases h1 : v < 0
  · rw [if_pos h1, decide_eq_true h1, decide_eq_false (by unfold absZ; split <;> omega)]; rfl
  · rw [if_neg h1, decide_eq_false h1]
    by_cases h2 : 0 < v
    · rw [if_pos h2, decide_eq_false (by unfold absZ; split <;> omega)]; rfl
    · rw [if_neg h2, decide_eq_true (by unfold absZ; split <;> omega)]; rfl
theorem seg2 (N : Nat) {e37 e38 e40 : Option Int} {k39 k43 : Int} {t41 t42 t44 : Bool} {a : List Int} {b1 b2 s n : Int × Int} {p q sB mB : Bool × List Int} (hE : (Option.isNone e37 == t41) = true) (hF : (Option.isNone e38 == t42) = true) (hG : (Option.isNone e40 == t44) = true)
    (hA : Option.isNone e37 = true → isF (s, sB) = some true) (hB : Option.isNone e38 = true → isF (n, mB) = some true) (hk : (k39 != k43) = false) :
    l_11_1000704 N ((), (), (), (), (), (), e37, (), e38, k39, e40, (), t41, (), t42, k43, t44, a, b1, b2, p, q, s, n, sB, mB) = some ((), (), (), (), (), (), e37, (), e38, e40, false, a, b1, b2, p, q, s, n) := by
  show (bif (!(Option.isNone e37 == t41)) then _ else _) = _
  rw [hE]
  show (bif (!(Option.isNone e38 == t42)) then _ else _) = _
  rw [hF]
  show (bif (!(Option.isNone e40 == t44)) then _ else _) = _
  rw [hG]
  show (bif Option.isNone e37 then _ else _) = _
  cases h1 : Option.isNone e37 with
  | true =>
    show Option.bind (isF (s, sB)) _ = _
    rw [hA h1]
    show (bif Option.isNone e38 then _ else _) = _
    cases h2 : Option.isNone e38 with
    | true =>
      show Option.bind (isF (n, mB)) _ = _
      rw [hB h2]
      show some ((), (), (), (), (), (), e37, (), e38, e40, (k39 != k43), a, b1, b2, p, q, s, n) = _
      rw [hk]
    | false =>
      show some ((), (), (), (), (), (), e37, (), e38, e40, (k39 != k43), a, b1, b2, p, q, s, n) = _
      rw [hk]
  | false =>
    show (bif Option.isNone e38 then _ else _) = _
    cases h2 : Option.isNone e38 with
    | true =>
      show Option.bind (isF (n, mB)) _ = _
      rw [hB h2]
      show some ((), (), (), (), (), (), e37, (), e38, e40, (k39 != k43), a, b1, b2, p, q, s, n) = _
      rw [hk]
    | false =>
      show some ((), (), (), (), (), (), e37, (), e38, e40, (k39 != k43), a, b1, b2, p, q, s, n) = _
      rw [hk]
theorem seg3 (N : Nat) {e66 e67 e68 : Option Int} {a : List Int} {b1 b2 s n : Int × Int} {p q : Bool × List Int} (h1 : e66 = none ∨ e66 = some 2 ∧ s = (0, 0)) (h2 : e67 = none ∨ e67 = some 2 ∧ n = (0, 0)) (h3 : e68 = none ∨ e68 = some 2) :
    l_11_1000832 N ((), (), (), (), (), (), e66, (), e67, e68, a, b1, b2, p, q, s, n) = some ((), (), (), (), (), false, a, b1, b2, p, q) := by
  have hn : nmF (some 2) = some 2 := nmF_at (some 2)
  rcases h1 with rfl | ⟨rfl, rfl⟩ <;> rcases h2 with rfl | ⟨rfl, rfl⟩ <;> rcases h3 with rfl | rfl <;>
    repeat (first | rfl | (show Option.bind (nmF (some 2)) _ = _; rw [hn]))
theorem sums_plain (N : Nat) {x y a b : Int} (hx : in128 x) (hy : in128 y) (ha : in64 a) (hb : in64 b) :
    f_11 N (x / 18446744073709551616) (x % 18446744073709551616) (y / 18446744073709551616) (y % 18446744073709551616) [a, b] = some true := by
  have bx : absZ x < 2 ^ 255 := by unfold in128 at hx; unfold absZ; split <;> omega
  have by' : absZ y < 2 ^ 255 := by unfold in128 at hy; unfold absZ; split <;> omega
  have ib : ∀ v, -(2 ^ 130) < v → v < 2 ^ 130 → inB v := fun v h1 h2 => by unfold inB; omega
  have i1 : inB (x + y) := ib _ (by unfold in128 at hx hy; omega) (by unfold in128 at hx hy; omega)
  have i2 : inB (-x) := ib _ (by unfold in128 at hx hy; omega) (by unfold in128 at hx hy; omega)
  have i3 : inB x := ib _ (by unfold in128 at hx hy; omega) (by unfold in128 at hx hy; omega)
  have i4 : inB (x - y) := ib _ (by unfold in128 at hx hy; omega) (by unfold in128 at hx hy; omega)
  have r1 : rAddF (eB x, eB y) = some (eB (x + y)) := by
    have := rAddF_at (s := decide (x < 0)) (t := decide (y < 0)) (absZ_nn x) bx (absZ_nn y) by'
    rw [sgn_bigV, sgn_bigV] at this
    exact this
  have r2 : rAddF (eB x, (!(eB y).1, (eB y).2)) = some (eB (x - y)) := by
    have := rAddF_at (s := decide (x < 0)) (t := !decide (y < 0)) (absZ_nn x) bx (absZ_nn y) by'
    have e : sgnZ (!decide (y < 0)) (absZ y) = -y := by
      unfold sgnZ absZ
      by_cases h : y < 0
      · rw [decide_eq_true h]; simp [h]
      · rw [decide_eq_false h]; simp [h]
    rw [sgn_bigV, e] at this
    exact this
  unfold f_11
  show Option.bind (fromF (eW x)) _ = _
  rw [fromF_at hx]
  show Option.bind (fromF (eW y)) _ = _
  rw [fromF_at hy]
  show Option.bind (addF2 (eW x, eW y)) _ = _
  rw [addF2_at hx hy]
  show Option.bind (negF (eW x)) _ = _
  rw [negF_at hx]
  show Option.bind (intF (eW x)) _ = _
  rw [intF_at hx]
  show Option.bind (rAddF (eB x, eB y)) _ = _
  rw [r1]
  show Option.bind (toF (eB (x + y))) _ = _
  rw [toF_at i1]
  show Option.bind (l_11_1000512 N ((), (), (), (), (), (), (fitD (x + y)).2, (), (fitD (-x)).2, (intD x).1, (intD x).2, (), (toD (x + y)).2, [a, b], eW x, eW y, eB x, eB y, (fitD (x + y)).1, (fitD (-x)).1, eB (x + y))) _ = _
  rw [seg1 N hx]
  show Option.bind (toF (eB (-x))) _ = _
  rw [toF_at i2]
  show Option.bind (numbF (eB x)) _ = _
  rw [numbF_at i3]
  show Option.bind (l_11_1000704 N ((), (), (), (), (), (), (fitD (x + y)).2, (), (fitD (-x)).2, (intD x).1, (intD x).2, (), (toD (x + y)).2, (), (toD (-x)).2, (numD x).1, (numD x).2, [a, b], eW x, eW y, eB x, eB y, (fitD (x + y)).1, (fitD (-x)).1, eB (x + y), eB (-x))) _ = _
  have fE : ∀ v, (Option.isNone (fitD v).2 == (toD v).2) = true := fun v => by unfold fitD toD; split <;> rfl
  have fI : ∀ v, Option.isNone (fitD v).2 = true → isF ((fitD v).1, eB v) = some true := fun v h => by
    unfold fitD at h ⊢
    by_cases hv : in128 v
    · rw [if_pos hv] at h ⊢; exact isF_at hv
    · rw [if_neg hv] at h; cases h
  have fR : ∀ v, (fitD v).2 = none ∨ (fitD v).2 = some 2 ∧ (fitD v).1 = (0, 0) := fun v => by
    unfold fitD; split
    · exact .inl rfl
    · exact .inr ⟨rfl, rfl⟩
  rw [seg2 N (fE _) (fE _) (by unfold intD numD; split <;> rfl) (fI _) (fI _) (by unfold intD numD; split <;> simp)]
  show Option.bind (l_11_1000832 N ((), (), (), (), (), (), (fitD (x + y)).2, (), (fitD (-x)).2, (intD x).2, [a, b], eW x, eW y, eB x, eB y, (fitD (x + y)).1, (fitD (-x)).1)) _ = _
  rw [seg3 N (fR _) (fR _) (by unfold intD; split; exact .inl rfl; exact .inr rfl)]
  show Option.bind (rAddF (eB x, (!(eB y).1, (eB y).2))) _ = _
  rw [r2]
  show Option.bind (l_11_1001089 N ((), (), (), (), 0, [a, b], eW x, eW y, eB (x - y))) _ = _
  rw [seg4 N i4 0 _ _ _ rfl]
  show Option.bind (cmpF (eW x, eW y)) _ = _
  rw [cmpF_at]
  show (bif (cmpZ x y == (if x - y < 0 then -1 else if 0 < x - y then 1 else 0)) then _ else _) = _
  have ec : (cmpZ x y == (if x - y < 0 then -1 else if 0 < x - y then 1 else 0)) = true := by
    rw [beq_iff_eq]
    unfold cmpZ
    repeat' split
    all_goals omega
  rw [ec]
  show Option.bind (ofF a) _ = _
  rw [ofF_at ha]
  show Option.bind (rIntF a) _ = _
  rw [rIntF_at ha]
  show Option.bind (isF (eW a, eB a)) _ = _
  rw [isF_at (by unfold in64 at ha; unfold in128; omega)]
  show Option.bind (mulF (a, b)) _ = _
  rw [mulF_at ha hb]
  show Option.bind (rIntF a) _ = _
  rw [rIntF_at ha]
  show Option.bind (rIntF b) _ = _
  rw [rIntF_at hb]
  show Option.bind (rMulF (eB a, eB b)) _ = _
  rw [rMulF_at (by unfold in64 at ha; unfold in4; omega) (by unfold in64 at hb; unfold in4; omega)]
  show Option.bind (isF (eW (a * b), eB (a * b))) _ = _
  rw [isF_at (mul_in128 ha hb)]
  show Option.bind (sureF ()) _ = _
  rw [sureF_at]
  rfl
/-- A function that is handed no pointer: its summary, as a contract. -/
theorem calls_of_sum {P : Program} {f : FuncId} {fn : Func} {S : Sum} {xs : List A} {vs : List Value} {r : S.ρ} {v : Value} {w : World} {laid : List (Nat × Nat × Value)} (hS : SumOk P laid f S) (htin : S.tin = [] ∨ ∀ p, tinQ S.tin p = none) (hf : P.funcs[f]? = some fn) (hname : (fn.name == "runtime.NumGoroutine") = false) (hb : fn.body.isNone = false)
    (hr : S.run xs [] = some r) (hA : ∀ g, RepAs g xs vs) (hl : ∀ q ∈ laid, w.cell? ⟨q.1, q.2.1, none⟩ = some q.2.2) (hv : ∀ g x, RepV g (S.out xs [] r).1 x → x = v) :
    Calls P f vs.toArray w fun e w' => e = .returned v ∧ Below w.heap.size w w' := by
  let g : Gh := { K := fun β o => w.cell? ⟨β, o, none⟩, j := fun _ => none, th := fun _ _ => none }
  have hI := hS xs [] r hr g w vs (fun q hq => hl q hq) (fun _ _ _ e => e) (hA g) ⟨fun i cs e => (by simp at e), fun i k β e => (by cases e), fun n β e => (by cases e)⟩
    (noTks (fun _ _ => rfl) (fun p => by rcases htin with h | h; · rw [h]; rfl
                                         · exact h p))
  have hcf : (callFunc f vs.toArray).run P w = .ok (.enter f vs.toArray) w := by
    unfold callFunc
    rw [Sem.run_bind, run_program]
    simp only [Result.andThen_ok, hf, hname, hb, Bool.false_eq_true, if_false]
    rfl
  unfold Invokes at hI
  rw [hcf] at hI
  refine Calls.mono hI ?_
  rintro e w' ⟨x, rfl, g', E⟩
  rw [hv g' x E.rep]
  refine ⟨rfl, E.only.os, E.only.tape, E.only.output, E.only.size, fun k hk => E.only.block k hk ?_⟩
  rintro (⟨i, hi, _⟩ | ⟨n, e, cap, h⟩)
  · simp at hi
  · cases h
end Go.Proofs.YtkdjfakjnkemiaaDoor.Mir
namespace Go.Proofs.YtkdjfakjnkemiaaDoor
open Go.RowKit
set_option maxRecDepth 100000 in
theorem law_WideSums_row (xh xl yh yl a b : Int) (w : World) (hL : LaidW w) (h1 : (Lit.int .i64 xh).wf = true) (h2 : (Lit.int .u64 xl).wf = true) (h3 : (Lit.int .i64 yh).wf = true) (h4 : (Lit.int .u64 yl).wf = true) (h5 : (Lit.int .i64 a).wf = true) (h6 : (Lit.int .i64 b).wf = true) :
    Calls Tryd.prog 11 #[.agg #[.int .i64 xh, .int .u64 xl], .agg #[.int .i64 yh, .int .u64 yl], .agg #[.int .i64 a, .int .i64 b]] w fun e w' => e = .returned (.bool true) ∧ Below w.heap.size w w' := by
  have k1 := wf_i64 h1
  have k3 := wf_i64 h3
  obtain ⟨l0, l1⟩ := wf_u64 h2
  obtain ⟨m0, m1⟩ := wf_u64 h4
  have hx : in128 (xh * 18446744073709551616 + xl) := by unfold in64 at k1; unfold in128; omega
  have hy : in128 (yh * 18446744073709551616 + yl) := by unfold in64 at k3; unfold in128; omega
  have hp := Mir.sums_plain 1 hx hy (wf_i64 h5) (wf_i64 h6)
  rw [show (xh * 18446744073709551616 + xl) / 18446744073709551616 = xh by omega, show (xh * 18446744073709551616 + xl) % 18446744073709551616 = xl by omega,
    show (yh * 18446744073709551616 + yl) / 18446744073709551616 = yh by omega, show (yh * 18446744073709551616 + yl) % 18446744073709551616 = yl by omega] at hp
  have hr : (Mir.S_11 1).run [.agg [Mir.int .i64 xh, Mir.int .u64 xl], .agg [Mir.int .i64 yh, Mir.int .u64 yl], .agg [.arr .i64 2 [a, b]]] [] = Mir.f_11 1 xh xl yh yl [a, b] := by kernel_rfl
  have ho : ((Mir.S_11 1).out [.agg [Mir.int .i64 xh, Mir.int .u64 xl], .agg [Mir.int .i64 yh, Mir.int .u64 yl], .agg [.arr .i64 2 [a, b]]] [] true).1 = .a (.one (Mir.boolC true)) := by kernel_rfl
  refine Mir.calls_of_sum (xs := [.agg [Mir.int .i64 xh, Mir.int .u64 xl], .agg [Mir.int .i64 yh, Mir.int .u64 yl], .agg [.arr .i64 2 [a, b]]]) (vs := [.agg #[.int .i64 xh, .int .u64 xl], .agg #[.int .i64 yh, .int .u64 yl], .agg #[.int .i64 a, .int .i64 b]])
    (Mir.s_11 1) (.inr (fun p => ?_)) Tryd.func11 (by kernel_rfl) (by kernel_rfl) (hr.trans hp) (fun g => ?_) ?_ (fun g x h => by rw [ho] at h; exact h)
  · match p with
    | 0 => rfl
    | 1 => rfl
    | 2 => rfl
    | n + 3 => rfl
  · exact ⟨_, _, rfl, ⟨_, rfl, _, _, rfl, rfl, _, _, rfl, rfl, rfl⟩, _, _, rfl, ⟨_, rfl, _, _, rfl, rfl, _, _, rfl, rfl, rfl⟩, _, _, rfl, ⟨[.int .i64 a, .int .i64 b], rfl, [], rfl, rfl, rfl⟩, rfl⟩
  · intro q hq
    obtain rfl := List.mem_singleton.1 hq
    exact hL
end Go.Proofs.YtkdjfakjnkemiaaDoor
