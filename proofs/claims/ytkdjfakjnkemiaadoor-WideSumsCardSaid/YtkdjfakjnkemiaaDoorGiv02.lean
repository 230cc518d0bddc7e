/- The contracts of fusee/wide and fuseeref02 as summaries for the mirror. -/
import Derived.Test.YtkdjfakjnkemiaaDoorMirY
import Derived.Test.YtkdjfakjnkemiaaDoorSure02
import Derived.Test.YtkdjfakjnkemiaaDoorBigF
import Derived.Test.YtkdjfakjnkemiaaDoorIs02
import Derived.Test.YtkdjfakjnkemiaaDoorCmp
namespace Go.Proofs.YtkdjfakjnkemiaaDoor.Mir
open Go Go.RowKit
set_option maxRecDepth 100000

def eW (v : Int) : Int × Int := (v / 18446744073709551616, v % 18446744073709551616)
def dl (m : Int) : List Int := [dgI m 0, dgI m 1, dgI m 2, dgI m 3, dgI m 4, dgI m 5, dgI m 6, dgI m 7]
def eB (v : Int) : Bool × List Int := (decide (v < 0), dl (absZ v))
abbrev lW : List Lf := [.d (.int .i64), .d (.int .u64)]
abbrev lB : List Lf := [.d .bool, .d (.arr .u64 8)]
theorem eW_inj {x y : Int} (h : eW x = eW y) : x = y := by
  unfold eW at h
  have h1 := congrArg Prod.fst h
  have h2 := congrArg Prod.snd h
  simp only at h1 h2
  omega
theorem repW {g : Gh} {v : Int} {x : Value} (h : RepA g (encA 0 (.agg lW) (eW v)) x) : x = wv v := by
  obtain ⟨l, rfl, _, _, rfl, hx, _, _, rfl, hy, rfl⟩ := h
  cases hx; cases hy; rfl
theorem wRep {g : Gh} {v : Int} : RepA g (encA 0 (.agg lW) (eW v)) (wv v) := ⟨_, rfl, _, _, rfl, rfl, _, _, rfl, rfl, rfl⟩
theorem repB {g : Gh} {s : Bool} {m : Int} {x : Value} (h : RepA g (encA 0 (.agg lB) (s, dl m)) x) : x = .agg (bigA s (dgI m)) := by
  obtain ⟨l, rfl, _, _, rfl, hx, r, _, rfl, hr⟩ := h
  cases hx
  have hr : r = [] := hr
  subst hr; rfl
theorem bRep {g : Gh} {s : Bool} {m : Int} : RepA g (encA 0 (.agg lB) (s, dl m)) (.agg (bigA s (dgI m))) := ⟨_, rfl, _, _, rfl, rfl, [], rfl, rfl, rfl⟩
theorem repD {g : Gh} {m : Int} {x : Value} (h : RepA g (encA 0 (.agg [.d (.arr .u64 8)]) (dl m)) x) : x = .agg (dgs m) := by
  obtain ⟨l, rfl, r, _, rfl, hr⟩ := h
  have hr : r = [] := hr
  subst hr; rfl
theorem rep1 {g : Gh} {a : A} {vs : List Value} (h : RepAs g [a] vs) : ∃ x, vs = [x] ∧ RepA g a x := by
  obtain ⟨x, _, rfl, h1, rfl⟩ := h; exact ⟨x, rfl, h1⟩
theorem rep2 {g : Gh} {a b : A} {vs : List Value} (h : RepAs g [a, b] vs) : ∃ x y, vs = [x, y] ∧ RepA g a x ∧ RepA g b y := by
  obtain ⟨x, _, rfl, h1, y, _, rfl, h2, rfl⟩ := h; exact ⟨x, y, rfl, h1, h2⟩

-- From
noncomputable def fromF (p : TAs [.agg lW]) : Option (TAs [.agg lB]) := relF (α := Int) (T := TAs [.agg lW]) (R := TAs [.agg lB]) eW in128 eB p
noncomputable def fromS : Sum := fnSum 1 0 1 [.agg lW] [.agg lB] fromF
theorem fromS_ok : SumOk Tryd.prog laidL 26 fromS :=
  rel_ok (PS := [.agg lW]) (RS := [.agg lB]) eW in128 eB (fun v => [wv v]) (fun v => .agg (bigV v)) Tryd.func26 (by kernel_rfl) (by kernel_rfl) rfl (fun _ => rfl)
    (fun v g vs _ h => by obtain ⟨x, rfl, h1⟩ := rep1 h; rw [repW h1]) (fun v g _ => bRep) (fun v w hv _ => ref_From v hv w)
theorem fromF_at {v : Int} (h : in128 v) : fromF (eW v) = some (eB v) := relF_at (fun a b _ _ e => by rw [eW_inj e]) h
-- wide.Add, Neg, Int
def fitD (s : Int) : (Int × Int) × Option Int := if in128 s then (eW s, none) else ((0, 0), some 2)
theorem fitRep {g : Gh} (s : Int) : RepV g (retV 2 (encAs 0 [.agg lW, .one (.d (.err 122))] (fitD s))) (fitW s) := by
  unfold fitD fitW
  by_cases h : in128 s
  · rw [if_pos h, if_pos h]; exact ⟨_, rfl, _, _, rfl, wRep, _, _, rfl, rfl, rfl⟩
  · rw [if_neg h, if_neg h]; exact ⟨_, rfl, _, _, rfl, wRep (v := 0), _, _, rfl, rfl, rfl⟩
noncomputable def addF2 (p : TAs [.agg lW, .agg lW]) : Option (TAs [.agg lW, .one (.d (.err 122))]) := relF (α := Int × Int) (T := TAs [.agg lW, .agg lW]) (R := TAs [.agg lW, .one (.d (.err 122))]) (fun a => (eW a.1, eW a.2)) (fun a => in128 a.1 ∧ in128 a.2) (fun a => fitD (a.1 + a.2)) p
noncomputable def addS2 : Sum := fnSum 2 0 2 [.agg lW, .agg lW] [.agg lW, .one (.d (.err 122))] addF2
theorem addS2_ok : SumOk Tryd.prog laidL 43 addS2 :=
  rel_ok (PS := [.agg lW, .agg lW]) (RS := [.agg lW, .one (.d (.err 122))]) (fun a : Int × Int => (eW a.1, eW a.2)) (fun a => in128 a.1 ∧ in128 a.2) (fun a => fitD (a.1 + a.2)) (fun a => [wv a.1, wv a.2]) (fun a => fitW (a.1 + a.2)) Tryd.func43 (by kernel_rfl) (by kernel_rfl) rfl (fun _ => rfl)
    (fun v g vs _ h => by obtain ⟨x, y, rfl, h1, h2⟩ := rep2 h; rw [repW h1, repW h2]) (fun v g _ => fitRep _) (fun v w hv _ => wide_Add v.1 v.2 hv.1 hv.2 w)
theorem addF2_at {x y : Int} (hx : in128 x) (hy : in128 y) : addF2 (eW x, eW y) = some (fitD (x + y)) :=
  relF_at (a := (x, y)) (fun a b _ _ e => by rw [eW_inj (congrArg Prod.fst e), eW_inj (congrArg Prod.snd e)]) ⟨hx, hy⟩
noncomputable def negF (p : TAs [.agg lW]) : Option (TAs [.agg lW, .one (.d (.err 122))]) := relF (α := Int) (T := TAs [.agg lW]) (R := TAs [.agg lW, .one (.d (.err 122))]) eW in128 (fun a => fitD (-a)) p
noncomputable def negS : Sum := fnSum 1 0 2 [.agg lW] [.agg lW, .one (.d (.err 122))] negF
theorem negS_ok : SumOk Tryd.prog laidL 56 negS :=
  rel_ok (PS := [.agg lW]) (RS := [.agg lW, .one (.d (.err 122))]) eW in128 (fun a => fitD (-a)) (fun a => [wv a]) (fun a => fitW (-a)) Tryd.func56 (by kernel_rfl) (by kernel_rfl) rfl (fun _ => rfl)
    (fun v g vs _ h => by obtain ⟨x, rfl, h1⟩ := rep1 h; rw [repW h1]) (fun v g _ => fitRep _) (fun v w hv _ => wide_Neg v hv w)
theorem negF_at {x : Int} (hx : in128 x) : negF (eW x) = some (fitD (-x)) := relF_at (fun a b _ _ e => by rw [eW_inj e]) hx
def intD (s : Int) : Int × Option Int := if in64 s then (s, none) else (0, some 2)
noncomputable def intF (p : TAs [.agg lW]) : Option (TAs [.one (.d (.int .i64)), .one (.d (.err 122))]) := relF (α := Int) (T := TAs [.agg lW]) (R := TAs [.one (.d (.int .i64)), .one (.d (.err 122))]) eW in128 intD p
noncomputable def intS : Sum := fnSum 1 0 2 [.agg lW] [.one (.d (.int .i64)), .one (.d (.err 122))] intF
theorem intS_ok : SumOk Tryd.prog laidL 42 intS :=
  rel_ok (PS := [.agg lW]) (RS := [.one (.d (.int .i64)), .one (.d (.err 122))]) eW in128 intD (fun a => [wv a]) fitI Tryd.func42 (by kernel_rfl) (by kernel_rfl) rfl (fun _ => rfl)
    (fun v g vs _ h => by obtain ⟨x, rfl, h1⟩ := rep1 h; rw [repW h1])
    (fun v g _ => by
      unfold intD fitI
      by_cases h : in64 v
      · rw [if_pos h, if_pos h]; exact ⟨_, rfl, _, _, rfl, rfl, _, _, rfl, rfl, rfl⟩
      · rw [if_neg h, if_neg h]; exact ⟨_, rfl, _, _, rfl, rfl, _, _, rfl, rfl, rfl⟩) (fun v w hv _ => wide_Int v hv w)
theorem intF_at {x : Int} (hx : in128 x) : intF (eW x) = some (intD x) := relF_at (fun a b _ _ e => by rw [eW_inj e]) hx
-- digits
theorem dl_inj {m n : Int} (m0 : 0 ≤ m) (m1 : m < 4294967296 ^ 8) (n0 : 0 ≤ n) (n1 : n < 4294967296 ^ 8) (h : dl m = dl n) : m = n := by
  have key : ∀ (x : Int), 0 ≤ x → x < 4294967296 ^ 8 → x = dgI x 0 + 4294967296 * (dgI x 1 + 4294967296 * (dgI x 2 + 4294967296 * (dgI x 3 + 4294967296 * (dgI x 4 + 4294967296 * (dgI x 5 + 4294967296 * (dgI x 6 + 4294967296 * dgI x 7)))))) := by
    intro x x0 x1
    have e : ∀ k : Nat, x / 4294967296 ^ (k + 1) = x / 4294967296 ^ k / 4294967296 := fun k => by rw [Int.pow_succ, Int.ediv_ediv_of_nonneg (Int.pow_nonneg (by decide))]
    have h8 : x / 4294967296 ^ 8 = 0 := Int.ediv_eq_zero_of_lt x0 x1
    have e0 := e 0; have e1 := e 1; have e2 := e 2; have e3 := e 3; have e4 := e 4; have e5 := e 5; have e6 := e 6; have e7 := e 7
    rw [Int.pow_zero, Int.ediv_one] at e0
    simp only [Nat.zero_add, Nat.reduceAdd] at e0 e1 e2 e3 e4 e5 e6 e7
    have z : x / 4294967296 ^ 0 = x := by rw [Int.pow_zero, Int.ediv_one]
    unfold dgI
    rw [z]
    generalize x / 4294967296 ^ 1 = x1 at *
    generalize x / 4294967296 ^ 2 = x2 at *
    generalize x / 4294967296 ^ 3 = x3 at *
    generalize x / 4294967296 ^ 4 = x4 at *
    generalize x / 4294967296 ^ 5 = x5 at *
    generalize x / 4294967296 ^ 6 = x6 at *
    generalize x / 4294967296 ^ 7 = x7 at *
    generalize x / 4294967296 ^ 8 = x8 at *
    omega
  unfold dl at h
  injection h with h0 h; injection h with h1 h; injection h with h2 h; injection h with h3 h; injection h with h4 h; injection h with h5 h; injection h with h6 h; injection h with h7 h
  rw [key m m0 m1, key n n0 n1, h0, h1, h2, h3, h4, h5, h6, h7]
theorem eB_inj {x y : Int} (x0 : -(4294967296 ^ 8) < x) (x1 : x < 4294967296 ^ 8) (y0 : -(4294967296 ^ 8) < y) (y1 : y < 4294967296 ^ 8) (h : eB x = eB y) : x = y := by
  have h1 := congrArg Prod.fst h
  have h2 : dl (absZ x) = dl (absZ y) := congrArg Prod.snd h
  have h3 := dl_inj (absZ_nn x) (absZ_lt x0 x1) (absZ_nn y) (absZ_lt y0 y1) h2
  have h1' : decide (x < 0) = decide (y < 0) := h1
  rw [decide_eq_decide] at h1'
  unfold absZ at h3
  split at h3 <;> split at h3 <;> omega
theorem eB_sgn (v : Int) : sgnZ (decide (v < 0)) (absZ v) = v := sgn_bigV v
-- ref Add
noncomputable def rAddF (p : TAs [.agg lB, .agg lB]) : Option (TAs [.agg lB]) := relF (α := (Bool × Int) × (Bool × Int)) (T := TAs [.agg lB, .agg lB]) (R := TAs [.agg lB]) (fun a => ((a.1.1, dl a.1.2), (a.2.1, dl a.2.2)))
  (fun a => (0 ≤ a.1.2 ∧ a.1.2 < 2 ^ 255) ∧ (0 ≤ a.2.2 ∧ a.2.2 < 2 ^ 255)) (fun a => eB (sgnZ a.1.1 a.1.2 + sgnZ a.2.1 a.2.2)) p
noncomputable def rAddS : Sum := fnSum 2 0 1 [.agg lB, .agg lB] [.agg lB] rAddF
theorem rAddS_ok : SumOk Tryd.prog laidL 57 rAddS :=
  rel_ok (PS := [.agg lB, .agg lB]) (RS := [.agg lB]) (fun a : (Bool × Int) × (Bool × Int) => ((a.1.1, dl a.1.2), (a.2.1, dl a.2.2))) (fun a => (0 ≤ a.1.2 ∧ a.1.2 < 2 ^ 255) ∧ (0 ≤ a.2.2 ∧ a.2.2 < 2 ^ 255)) (fun a => eB (sgnZ a.1.1 a.1.2 + sgnZ a.2.1 a.2.2))
    (fun a => [.agg (bigA a.1.1 (dgI a.1.2)), .agg (bigA a.2.1 (dgI a.2.2))]) (fun a => .agg (bigV (sgnZ a.1.1 a.1.2 + sgnZ a.2.1 a.2.2))) Tryd.func57 (by kernel_rfl) (by kernel_rfl) rfl (fun _ => rfl)
    (fun v g vs _ h => by obtain ⟨x, y, rfl, h1, h2⟩ := rep2 h; rw [repB h1, repB h2]) (fun v g _ => bRep) (fun v w hv _ => ref_Add_rows _ _ _ _ hv.1.1 hv.1.2 hv.2.1 hv.2.2 w)
theorem lt255 {m : Int} (h : m < 2 ^ 255) : m < 4294967296 ^ 8 := by omega
theorem rAddF_at {s t : Bool} {m n : Int} (m0 : 0 ≤ m) (m1 : m < 2 ^ 255) (n0 : 0 ≤ n) (n1 : n < 2 ^ 255) : rAddF ((s, dl m), (t, dl n)) = some (eB (sgnZ s m + sgnZ t n)) :=
  relF_at (a := ((s, m), (t, n))) (fun a b ha hb e => by
    have e1 : (a.1.1, dl a.1.2) = (b.1.1, dl b.1.2) := congrArg Prod.fst e
    have e2 : (a.2.1, dl a.2.2) = (b.2.1, dl b.2.2) := congrArg Prod.snd e
    have q1 := (Prod.mk.inj e1).1
    have q2 := dl_inj ha.1.1 (lt255 ha.1.2) hb.1.1 (lt255 hb.1.2) (Prod.mk.inj e1).2
    have q3 := (Prod.mk.inj e2).1
    have q4 := dl_inj ha.2.1 (lt255 ha.2.2) hb.2.1 (lt255 hb.2.2) (Prod.mk.inj e2).2
    rw [q1, q2, q3, q4]) ⟨⟨m0, m1⟩, ⟨n0, n1⟩⟩
-- To, Number, Zero
def inB (v : Int) : Prop := -(4294967296 ^ 8) < v ∧ v < 4294967296 ^ 8
def toD (v : Int) : (Int × Int) × Bool := if in128 v then (eW v, true) else ((0, 0), false)
noncomputable def toF (p : TAs [.agg lB]) : Option (TAs [.agg lW, .one (.d .bool)]) := relF (α := Int) (T := TAs [.agg lB]) (R := TAs [.agg lW, .one (.d .bool)]) eB inB toD p
noncomputable def toS : Sum := fnSum 1 0 2 [.agg lB] [.agg lW, .one (.d .bool)] toF
theorem toS_ok : SumOk Tryd.prog laidL 58 toS :=
  rel_ok (PS := [.agg lB]) (RS := [.agg lW, .one (.d .bool)]) eB inB toD (fun v => [.agg (bigV v)]) toR Tryd.func58 (by kernel_rfl) (by kernel_rfl) rfl (fun _ => rfl)
    (fun v g vs _ h => by obtain ⟨x, rfl, h1⟩ := rep1 h; rw [repB h1]; rfl)
    (fun v g _ => by
      unfold toD toR
      by_cases h : in128 v
      · rw [if_pos h, if_pos h]; exact ⟨_, rfl, _, _, rfl, wRep, _, _, rfl, rfl, rfl⟩
      · rw [if_neg h, if_neg h]; exact ⟨_, rfl, _, _, rfl, wRep (v := 0), _, _, rfl, rfl, rfl⟩) (fun v w hv _ => ref_To v hv.1 hv.2 w)
theorem toF_at {v : Int} (h : inB v) : toF (eB v) = some (toD v) := relF_at (fun a b ha hb e => by rw [eB_inj ha.1 ha.2 hb.1 hb.2 e]) h
def numD (v : Int) : Int × Bool := if in64 v then (v, true) else (0, false)
noncomputable def numbF (p : TAs [.agg lB]) : Option (TAs [.one (.d (.int .i64)), .one (.d .bool)]) := relF (α := Int) (T := TAs [.agg lB]) (R := TAs [.one (.d (.int .i64)), .one (.d .bool)]) eB inB numD p
noncomputable def numbS : Sum := fnSum 1 0 2 [.agg lB] [.one (.d (.int .i64)), .one (.d .bool)] numbF
theorem numbS_ok : SumOk Tryd.prog laidL 35 numbS :=
  rel_ok (PS := [.agg lB]) (RS := [.one (.d (.int .i64)), .one (.d .bool)]) eB inB numD (fun v => [.agg (bigV v)]) numR Tryd.func35 (by kernel_rfl) (by kernel_rfl) rfl (fun _ => rfl)
    (fun v g vs _ h => by obtain ⟨x, rfl, h1⟩ := rep1 h; rw [repB h1]; rfl)
    (fun v g _ => by
      unfold numD numR
      by_cases h : in64 v
      · rw [if_pos h, if_pos h]; exact ⟨_, rfl, _, _, rfl, rfl, _, _, rfl, rfl, rfl⟩
      · rw [if_neg h, if_neg h]; exact ⟨_, rfl, _, _, rfl, rfl, _, _, rfl, rfl, rfl⟩) (fun v w hv _ => ref_Number v hv.1 hv.2 w)
theorem numbF_at {v : Int} (h : inB v) : numbF (eB v) = some (numD v) := relF_at (fun a b ha hb e => by rw [eB_inj ha.1 ha.2 hb.1 hb.2 e]) h
noncomputable def zeroF (p : TAs [.agg [.d (.arr .u64 8)]]) : Option (TAs [.one (.d .bool)]) := relF (α := Int) (T := TAs [.agg [.d (.arr .u64 8)]]) (R := TAs [.one (.d .bool)]) dl (fun m => 0 ≤ m ∧ m < 4294967296 ^ 8) (fun m => decide (m = 0)) p
noncomputable def zeroS : Sum := fnSum 1 0 1 [.agg [.d (.arr .u64 8)]] [.one (.d .bool)] zeroF
theorem zeroS_ok : SumOk Tryd.prog laidL 59 zeroS :=
  rel_ok (PS := [.agg [.d (.arr .u64 8)]]) (RS := [.one (.d .bool)]) dl (fun m => 0 ≤ m ∧ m < 4294967296 ^ 8) (fun m => decide (m = 0)) (fun m => [.agg (dgs m)]) (fun m => .bool (decide (m = 0))) Tryd.func59 (by kernel_rfl) (by kernel_rfl) rfl (fun _ => rfl)
    (fun v g vs _ h => by obtain ⟨x, rfl, h1⟩ := rep1 h; rw [repD h1]) (fun v g _ => rfl) (fun v w hv _ => ref_Zero v hv.1 hv.2 w)
theorem zeroF_at {m : Int} (h0 : 0 ≤ m) (h1 : m < 4294967296 ^ 8) : zeroF (dl m) = some (decide (m = 0)) := relF_at (fun a b ha hb e => by rw [dl_inj ha.1 ha.2 hb.1 hb.2 e]) ⟨h0, h1⟩
-- is, num, Cmp, Of, Int, Mul, Mul, sure
noncomputable def isF (p : TAs [.agg lW, .agg lB]) : Option (TAs [.one (.d .bool)]) := relF (α := Int) (T := TAs [.agg lW, .agg lB]) (R := TAs [.one (.d .bool)]) (fun v => (eW v, eB v)) in128 (fun _ => true) p
noncomputable def isS : Sum := fnSum 2 0 1 [.agg lW, .agg lB] [.one (.d .bool)] isF
theorem isS_ok : SumOk Tryd.prog laidL 32 isS :=
  rel_ok (PS := [.agg lW, .agg lB]) (RS := [.one (.d .bool)]) (fun v : Int => (eW v, eB v)) in128 (fun _ => true) (fun v => [wv v, .agg (bigV v)]) (fun _ => .bool true) Tryd.func32 (by kernel_rfl) (by kernel_rfl) rfl (fun _ => rfl)
    (fun v g vs _ h => by obtain ⟨x, y, rfl, h1, h2⟩ := rep2 h; rw [repW h1, repB h2]; rfl) (fun v g _ => rfl) (fun v w hv _ => is02 v hv w)
theorem isF_at {v : Int} (h : in128 v) : isF (eW v, eB v) = some true := relF_at (a := v) (fun _ _ _ _ _ => rfl) h
noncomputable def nmF (p : TAs [.one (.d (.err 122))]) : Option (TAs [.one (.d (.int .i64))]) := relF (α := Option Int) (T := TAs [.one (.d (.err 122))]) (R := TAs [.one (.d (.int .i64))]) (fun e => e) (fun _ => True) numV p
noncomputable def nmS : Sum := fnSum 1 0 1 [.one (.d (.err 122))] [.one (.d (.int .i64))] nmF
theorem nmS_ok : SumOk Tryd.prog laidL 29 nmS :=
  rel_ok (PS := [.one (.d (.err 122))]) (RS := [.one (.d (.int .i64))]) (fun e : Option Int => e) (fun _ => True) numV (fun e => [Go.Proofs.YtkdjfakjnkemiaaDoor.errV e]) (fun e => .int .i64 (numV e)) Tryd.func29 (by kernel_rfl) (by kernel_rfl) rfl (fun _ => rfl)
    (fun v g vs _ h => by
      obtain ⟨x, rfl, h1⟩ := rep1 h
      have h1 : x = Mir.errV 122 v := h1
      rw [h1]; cases v <;> rfl) (fun v g _ => rfl) (fun v w _ hl => law02_num v w (laidW_of hl))
theorem nmF_at (e : Option Int) : nmF e = some (numV e) := relF_at (a := e) (enc := fun e => e) (fun a b _ _ e => by rw [e]) trivial
noncomputable def cmpF (p : TAs [.agg lW, .agg lW]) : Option (TAs [.one (.d (.int .i64))]) := relF (α := Int × Int) (T := TAs [.agg lW, .agg lW]) (R := TAs [.one (.d (.int .i64))]) (fun a => (eW a.1, eW a.2)) (fun _ => True) (fun a => cmpZ a.1 a.2) p
noncomputable def cmpS : Sum := fnSum 2 0 1 [.agg lW, .agg lW] [.one (.d (.int .i64))] cmpF
theorem cmpS_ok : SumOk Tryd.prog laidL 60 cmpS :=
  rel_ok (PS := [.agg lW, .agg lW]) (RS := [.one (.d (.int .i64))]) (fun a : Int × Int => (eW a.1, eW a.2)) (fun _ => True) (fun a => cmpZ a.1 a.2) (fun a => [wv a.1, wv a.2]) (fun a => .int .i64 (cmpZ a.1 a.2)) Tryd.func60 (by kernel_rfl) (by kernel_rfl) rfl (fun _ => rfl)
    (fun v g vs _ h => by obtain ⟨x, y, rfl, h1, h2⟩ := rep2 h; rw [repW h1, repW h2]) (fun v g _ => rfl) (fun v w _ _ => wide_Cmp v.1 v.2 w)
theorem cmpF_at (x y : Int) : cmpF (eW x, eW y) = some (cmpZ x y) := relF_at (a := (x, y)) (fun a b _ _ e => by rw [eW_inj (congrArg Prod.fst e), eW_inj (congrArg Prod.snd e)]) trivial
noncomputable def ofF (p : TAs [.one (.d (.int .i64))]) : Option (TAs [.agg lW]) := relF (α := Int) (T := TAs [.one (.d (.int .i64))]) (R := TAs [.agg lW]) (fun a => a) in64 eW p
noncomputable def ofS : Sum := fnSum 1 0 1 [.one (.d (.int .i64))] [.agg lW] ofF
theorem ofS_ok : SumOk Tryd.prog laidL 41 ofS :=
  rel_ok (PS := [.one (.d (.int .i64))]) (RS := [.agg lW]) (fun a : Int => a) in64 eW (fun a => [.int .i64 a]) wv Tryd.func41 (by kernel_rfl) (by kernel_rfl) rfl (fun _ => rfl)
    (fun v g vs _ h => by obtain ⟨x, rfl, h1⟩ := rep1 h; cases h1; rfl) (fun v g _ => wRep) (fun v w hv _ => wide_Of v hv w)
theorem ofF_at {a : Int} (h : in64 a) : ofF a = some (eW a) := relF_at (enc := fun a => a) (fun a b _ _ e => by rw [e]) h
noncomputable def rIntF (p : TAs [.one (.d (.int .i64))]) : Option (TAs [.agg lB]) := relF (α := Int) (T := TAs [.one (.d (.int .i64))]) (R := TAs [.agg lB]) (fun a => a) in64 eB p
noncomputable def rIntS : Sum := fnSum 1 0 1 [.one (.d (.int .i64))] [.agg lB] rIntF
theorem rIntS_ok : SumOk Tryd.prog laidL 34 rIntS :=
  rel_ok (PS := [.one (.d (.int .i64))]) (RS := [.agg lB]) (fun a : Int => a) in64 eB (fun a => [.int .i64 a]) (fun a => .agg (bigV a)) Tryd.func34 (by kernel_rfl) (by kernel_rfl) rfl (fun _ => rfl)
    (fun v g vs _ h => by obtain ⟨x, rfl, h1⟩ := rep1 h; cases h1; rfl) (fun v g _ => bRep) (fun v w hv _ => ref_Int v hv w)
theorem rIntF_at {a : Int} (h : in64 a) : rIntF a = some (eB a) := relF_at (enc := fun a => a) (fun a b _ _ e => by rw [e]) h
noncomputable def mulF (p : TAs [.one (.d (.int .i64)), .one (.d (.int .i64))]) : Option (TAs [.agg lW]) := relF (α := Int × Int) (T := TAs [.one (.d (.int .i64)), .one (.d (.int .i64))]) (R := TAs [.agg lW]) (fun a => a) (fun a => in64 a.1 ∧ in64 a.2) (fun a => eW (a.1 * a.2)) p
noncomputable def mulS : Sum := fnSum 2 0 1 [.one (.d (.int .i64)), .one (.d (.int .i64))] [.agg lW] mulF
theorem mulS_ok : SumOk Tryd.prog laidL 40 mulS :=
  rel_ok (PS := [.one (.d (.int .i64)), .one (.d (.int .i64))]) (RS := [.agg lW]) (fun a : Int × Int => a) (fun a => in64 a.1 ∧ in64 a.2) (fun a => eW (a.1 * a.2)) (fun a => [.int .i64 a.1, .int .i64 a.2]) (fun a => wv (a.1 * a.2)) Tryd.func40 (by kernel_rfl) (by kernel_rfl) rfl (fun _ => rfl)
    (fun v g vs _ h => by obtain ⟨x, y, rfl, h1, h2⟩ := rep2 h; cases h1; cases h2; rfl) (fun v g _ => wRep) (fun v w hv _ => wide_Mul v.1 v.2 hv.1 hv.2 w)
theorem mulF_at {a b : Int} (ha : in64 a) (hb : in64 b) : mulF (a, b) = some (eW (a * b)) := relF_at (a := (a, b)) (enc := fun a => a) (fun a b _ _ e => by rw [e]) ⟨ha, hb⟩
def in4 (u : Int) : Prop := -(4294967296 ^ 4) < u ∧ u < 4294967296 ^ 4
noncomputable def rMulF (p : TAs [.agg lB, .agg lB]) : Option (TAs [.agg lB]) := relF (α := Int × Int) (T := TAs [.agg lB, .agg lB]) (R := TAs [.agg lB]) (fun a => (eB a.1, eB a.2)) (fun a => in4 a.1 ∧ in4 a.2) (fun a => eB (a.1 * a.2)) p
noncomputable def rMulS : Sum := fnSum 2 0 1 [.agg lB, .agg lB] [.agg lB] rMulF
theorem rMulS_ok : SumOk Tryd.prog laidL 61 rMulS :=
  rel_ok (PS := [.agg lB, .agg lB]) (RS := [.agg lB]) (fun a : Int × Int => (eB a.1, eB a.2)) (fun a => in4 a.1 ∧ in4 a.2) (fun a => eB (a.1 * a.2)) (fun a => [.agg (bigV a.1), .agg (bigV a.2)]) (fun a => .agg (bigV (a.1 * a.2))) Tryd.func61 (by kernel_rfl) (by kernel_rfl) rfl (fun _ => rfl)
    (fun v g vs _ h => by obtain ⟨x, y, rfl, h1, h2⟩ := rep2 h; rw [repB h1, repB h2]; rfl) (fun v g _ => bRep) (fun v w hv _ => ref_Mul v.1 v.2 hv.1.1 hv.1.2 hv.2.1 hv.2.2 w)
theorem in4_B {u : Int} (h : in4 u) : inB u := by unfold in4 at h; unfold inB; omega
theorem rMulF_at {a b : Int} (ha : in4 a) (hb : in4 b) : rMulF (eB a, eB b) = some (eB (a * b)) := relF_at (a := (a, b)) (fun a b ha hb e => by
  rw [eB_inj (in4_B ha.1).1 (in4_B ha.1).2 (in4_B hb.1).1 (in4_B hb.1).2 (congrArg Prod.fst e), eB_inj (in4_B ha.2).1 (in4_B ha.2).2 (in4_B hb.2).1 (in4_B hb.2).2 (congrArg Prod.snd e)]) ⟨ha, hb⟩
noncomputable def sureF (p : TAs []) : Option (TAs [.one (.d .bool)]) := relF (α := Unit) (T := TAs []) (R := TAs [.one (.d .bool)]) (fun _ => ()) (fun _ => True) (fun _ => true) p
noncomputable def sureS : Sum := fnSum 0 0 1 [] [.one (.d .bool)] sureF
theorem sureS_ok : SumOk Tryd.prog laidL 33 sureS :=
  rel_ok (PS := []) (RS := [.one (.d .bool)]) (fun _ : Unit => ()) (fun _ => True) (fun _ => true) (fun _ => []) (fun _ => .bool true) Tryd.func33 (by kernel_rfl) (by kernel_rfl) rfl (fun _ => rfl)
    (fun v g vs _ h => h) (fun v g _ => rfl) (fun v w _ hl => sure02 w (laidW_of hl))
theorem sureF_at : sureF () = some true := relF_at (a := ()) (fun _ _ _ _ _ => rfl) trivial
end Go.Proofs.YtkdjfakjnkemiaaDoor.Mir
