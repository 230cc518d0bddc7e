/- Numbers as rows of digits of 32 bits: plain arithmetic; no program in sight. -/
import Derived.WalkKit
namespace Go.Proofs.YtmdnnlfoljdfpaaDoor
open Go.RowKit

/-- A digit of 32 bits; what is below a digit. -/
def dgI (m : Int) (k : Nat) : Int := m / 4294967296 ^ k % 4294967296
def cutI (m : Int) (k : Nat) : Int := m % 4294967296 ^ k
theorem pw_pos (k : Nat) : (0 : Int) < 4294967296 ^ k := Int.pow_pos (by omega)
theorem dgI_nn (m : Int) (k : Nat) : 0 ≤ dgI m k := Int.emod_nonneg _ (by omega)
theorem dgI_lt (m : Int) (k : Nat) : dgI m k < 4294967296 := Int.emod_lt_of_pos _ (by omega)
theorem cutI_nn (m : Int) (k : Nat) : 0 ≤ cutI m k := Int.emod_nonneg _ (Int.ne_of_gt (pw_pos k))
theorem cutI_lt (m : Int) (k : Nat) : cutI m k < 4294967296 ^ k := Int.emod_lt_of_pos _ (pw_pos k)
theorem cutI_zero (m : Int) : cutI m 0 = 0 := by simp [cutI, Int.emod_one]
theorem cut_split (m : Int) (k : Nat) : 4294967296 ^ k * (m / 4294967296 ^ k) + cutI m k = m := Int.mul_ediv_add_emod m _
theorem dg_split (m : Int) (k : Nat) : 4294967296 * (m / 4294967296 ^ (k + 1)) + dgI m k = m / 4294967296 ^ k := by
  have h := Int.mul_ediv_add_emod (m / 4294967296 ^ k) 4294967296
  rw [Int.ediv_ediv_of_nonneg (Int.le_of_lt (pw_pos k))] at h
  rw [Int.pow_succ]
  exact h
theorem cut_succ (m : Int) (k : Nat) : cutI m (k + 1) = cutI m k + 4294967296 ^ k * dgI m k := by
  have h1 := cut_split m k
  have h2 := cut_split m (k + 1)
  have h3 := dg_split m k
  rw [← h3] at h1
  rw [Int.pow_succ] at h2
  have e : (4294967296 : Int) ^ k * (4294967296 * (m / 4294967296 ^ (k + 1)) + dgI m k) = 4294967296 ^ k * 4294967296 * (m / (4294967296 ^ k * 4294967296)) + 4294967296 ^ k * dgI m k := by
    rw [Int.mul_add, ← Int.mul_assoc, Int.pow_succ]
  omega
/-- The carry of a T = p * m + q * n + r. -/
def carI (p q r m n : Int) (k : Nat) : Int := (p * cutI m k + q * cutI n k + r) / 4294967296 ^ k
theorem sum_split (p q r m n : Int) (k : Nat) : (p * m + q * n + r) / 4294967296 ^ k = p * (m / 4294967296 ^ k) + q * (n / 4294967296 ^ k) + carI p q r m n k := by
  have h1 := cut_split m k
  have h2 := cut_split n k
  unfold carI
  have e : p * m + q * n + r = (p * cutI m k + q * cutI n k + r) + 4294967296 ^ k * (p * (m / 4294967296 ^ k) + q * (n / 4294967296 ^ k)) := by
    conv => lhs; rw [← h1, ← h2]
    generalize (4294967296 : Int) ^ k = P
    generalize m / P = a
    generalize n / P = b
    grind
  rw [e, Int.add_mul_ediv_left _ _ (Int.ne_of_gt (pw_pos k))]
  omega
theorem dg_sum (p q r m n : Int) (k : Nat) : dgI (p * m + q * n + r) k = (p * dgI m k + q * dgI n k + carI p q r m n k) % 4294967296 := by
  unfold dgI
  rw [sum_split]
  generalize carI p q r m n k = c
  generalize m / 4294967296 ^ k = a
  generalize n / 4294967296 ^ k = b
  have ha := Int.mul_ediv_add_emod a 4294967296
  have hb := Int.mul_ediv_add_emod b 4294967296
  generalize a / 4294967296 = a' at *
  generalize b / 4294967296 = b' at *
  generalize a % 4294967296 = x at *
  generalize b % 4294967296 = y at *
  subst ha hb
  have e : p * (4294967296 * a' + x) + q * (4294967296 * b' + y) + c = (p * x + q * y + c) + 4294967296 * (p * a' + q * b') := by grind
  rw [e, Int.add_mul_emod_self_left]
theorem car_succ (p q r m n : Int) (k : Nat) : carI p q r m n (k + 1) = (p * dgI m k + q * dgI n k + carI p q r m n k) / 4294967296 := by
  unfold carI
  rw [cut_succ, cut_succ, Int.pow_succ, ← Int.ediv_ediv_of_nonneg (Int.le_of_lt (pw_pos k))]
  congr 1
  have e : p * (cutI m k + 4294967296 ^ k * dgI m k) + q * (cutI n k + 4294967296 ^ k * dgI n k) + r = (p * cutI m k + q * cutI n k + r) + 4294967296 ^ k * (p * dgI m k + q * dgI n k) := by grind
  rw [e, Int.add_mul_ediv_left _ _ (Int.ne_of_gt (pw_pos k))]
  omega
theorem car_zero (p q r m n : Int) : carI p q r m n 0 = r := by simp [carI, cutI_zero]
theorem car_add (m n : Int) (k : Nat) : 0 ≤ carI 1 1 0 m n k ∧ carI 1 1 0 m n k ≤ 1 := by
  induction k with
  | zero => rw [car_zero]; omega
  | succ k ih =>
    rw [car_succ]
    have := dgI_nn m k; have := dgI_lt m k; have := dgI_nn n k; have := dgI_lt n k
    omega
theorem car_sub (m n : Int) (k : Nat) : -1 ≤ carI 1 (-1) 0 m n k ∧ carI 1 (-1) 0 m n k ≤ 0 := by
  induction k with
  | zero => rw [car_zero]; omega
  | succ k ih =>
    rw [car_succ]
    have := dgI_nn m k; have := dgI_lt m k; have := dgI_nn n k; have := dgI_lt n k
    omega
theorem car_dbl (m r : Int) (h0 : 0 ≤ r) (h1 : r ≤ 1) (k : Nat) : 0 ≤ carI 2 0 r m 0 k ∧ carI 2 0 r m 0 k ≤ 1 := by
  induction k with
  | zero => rw [car_zero]; omega
  | succ k ih =>
    rw [car_succ]
    have := dgI_nn m k; have := dgI_lt m k
    omega
/-- A row of eight digits. -/
def rowF (f : Nat → Int) : Array Value := #[.int .u64 (f 0), .int .u64 (f 1), .int .u64 (f 2), .int .u64 (f 3), .int .u64 (f 4), .int .u64 (f 5), .int .u64 (f 6), .int .u64 (f 7)]
theorem rowF_size (f : Nat → Int) : (rowF f).size = 8 := rfl
theorem lt8 {k : Nat} (h : k < 8) : k = 0 ∨ k = 1 ∨ k = 2 ∨ k = 3 ∨ k = 4 ∨ k = 5 ∨ k = 6 ∨ k = 7 := by omega
theorem rowF_get (f : Nat → Int) (k : Nat) (h : k < 8) : (rowF f)[k]? = some (.int .u64 (f k)) := by
  rcases lt8 h with rfl | rfl | rfl | rfl | rfl | rfl | rfl | rfl <;> rfl
def updF (f : Nat → Int) (k : Nat) (v : Int) : Nat → Int := fun j => if j = k then v else f j
theorem rowF_set (f : Nat → Int) (k : Nat) (h : k < 8) (v : Int) : (rowF f).setIfInBounds k (.int .u64 v) = rowF (updF f k v) := by
  rcases lt8 h with rfl | rfl | rfl | rfl | rfl | rfl | rfl | rfl <;> rfl
theorem rowF_congr {f g : Nat → Int} (h : ∀ j, j < 8 → f j = g j) : rowF f = rowF g := by
  unfold rowF
  rw [h 0 (by omega), h 1 (by omega), h 2 (by omega), h 3 (by omega), h 4 (by omega), h 5 (by omega), h 6 (by omega), h 7 (by omega)]
/-- The digits of a number; those of s below p, and those of r from p on. -/
def dgs (m : Int) : Array Value := rowF (dgI m)
def mixF (s r : Int) (p : Nat) : Nat → Int := fun j => if j < p then dgI s j else dgI r j
theorem mixF_zero (s r : Int) : rowF (mixF s r 0) = dgs r := rowF_congr fun j _ => by simp [mixF]
theorem mixF_all (s r : Int) : rowF (mixF s r 8) = dgs s := rowF_congr fun j h => by simp [mixF, h]
theorem mixF_at (s r : Int) (p : Nat) : mixF s r p p = dgI r p := by simp [mixF]
theorem dgI_high (s z : Int) (p j : Nat) (h : j < p) : dgI (s + 4294967296 ^ p * z) j = dgI s j := by
  obtain ⟨d, rfl⟩ : ∃ d, p = j + (d + 1) := ⟨p - j - 1, by omega⟩
  unfold dgI
  rw [Int.pow_add, Int.mul_assoc, Int.add_mul_ediv_left _ _ (Int.ne_of_gt (pw_pos j)), Int.pow_succ, Int.mul_comm (4294967296 ^ d), Int.mul_assoc, Int.add_mul_emod_self_left]
theorem mix_step (s s' r : Int) (p : Nat) (h : p < 8) (z : Int) (hs : s' = s + 4294967296 ^ p * z) :
    (rowF (mixF s r p)).setIfInBounds p (.int .u64 (dgI s' p)) = rowF (mixF s' r (p + 1)) := by
  rw [rowF_set _ _ h]
  refine rowF_congr fun j _ => ?_
  unfold updF mixF
  by_cases h1 : j = p
  · subst h1; simp
  · by_cases h2 : j < p
    · rw [if_neg h1, if_pos h2, if_pos (by omega), hs, dgI_high _ _ _ _ h2]
    · rw [if_neg h1, if_neg h2, if_neg (by omega)]
theorem mix_step' (s r : Int) (p : Nat) (h : p < 8) :
    (rowF (mixF s r p)).setIfInBounds p (.int .u64 (dgI s p)) = rowF (mixF s r (p + 1)) := mix_step s s r p h 0 (by omega)
/-- What is above eight digits. -/
theorem div_top (m : Int) (h0 : 0 ≤ m) (p : Nat) (h : m < 4294967296 ^ p) : m / 4294967296 ^ p = 0 := Int.ediv_eq_zero_of_lt h0 h
theorem dgI_top (m : Int) (h0 : 0 ≤ m) (p j : Nat) (h : m < 4294967296 ^ p) (hj : p ≤ j) : dgI m j = 0 := by
  obtain ⟨d, rfl⟩ : ∃ d, j = p + d := ⟨j - p, by omega⟩
  unfold dgI
  rw [Int.pow_add, ← Int.ediv_ediv_of_nonneg (Int.le_of_lt (pw_pos p)), div_top m h0 p h]
  simp
theorem dgs_inj_zero (m : Int) (h0 : 0 ≤ m) (h : m < 4294967296 ^ 8) (hz : ∀ j, j < 8 → dgI m j = 0) : m = 0 := by
  have e0 := dg_split m 0
  have e1 := dg_split m 1
  have e2 := dg_split m 2
  have e3 := dg_split m 3
  have e4 := dg_split m 4
  have e5 := dg_split m 5
  have e6 := dg_split m 6
  have e7 := dg_split m 7
  rw [hz _ (by omega)] at e0 e1 e2 e3 e4 e5 e6 e7
  rw [div_top m h0 8 h] at e7
  simp only [Int.pow_zero, Int.ediv_one] at e0
  omega
theorem dg_lt (m n : Int) (j : Nat) (h : m / 4294967296 ^ (j + 1) = n / 4294967296 ^ (j + 1)) (hd : dgI n j < dgI m j) : n < m := by
  have h1 := dg_split m j
  have h2 := dg_split n j
  rw [h] at h1
  by_cases hm : m ≤ n
  · have := Int.ediv_le_ediv (pw_pos j) hm
    omega
  · omega
theorem dg_same (m n : Int) (j : Nat) (h : m / 4294967296 ^ (j + 1) = n / 4294967296 ^ (j + 1)) (hd : dgI n j = dgI m j) : m / 4294967296 ^ j = n / 4294967296 ^ j := by
  have h1 := dg_split m j
  have h2 := dg_split n j
  rw [h] at h1
  omega
/-- Which number is the greater. -/
def szZ (a b : Int) : Int := if b < a then 1 else if a < b then -1 else 0
theorem szZ_gt {a b : Int} (h : b < a) : szZ a b = 1 := by unfold szZ; rw [if_pos h]
theorem szZ_lt {a b : Int} (h : a < b) : szZ a b = -1 := by unfold szZ; rw [if_neg (by omega), if_pos h]
theorem szZ_eq (a : Int) : szZ a a = 0 := by unfold szZ; rw [if_neg (by omega), if_neg (by omega)]
theorem run_equalIn_rows {P : Program} (w : World) (d : Nat) (t e : TypeId) (f g : Nat → Int) (ht : P.underlying t = some (.array 8 e)) (he : P.underlying e = some (.int .u64))
    (hs : (Go.sizeOf e).run P w = .ok 1 w) :
    (Op.equalIn (d + 2) t (.agg (rowF f)) (.agg (rowF g))).run P w = .ok (f 0 == g 0 && (f 1 == g 1 && (f 2 == g 2 && (f 3 == g 3 && (f 4 == g 4 && (f 5 == g 5 && (f 6 == g 6 && f 7 == g 7))))))) w := by
  have hp : ∀ (f : Nat → Int) (k : Nat), k < 8 → (part e (rowF f) k).run P w = .ok (.int .u64 (f k)) w := by
    intro f k hk
    simp only [part, isAgg, Sem.run_bind, run_underlying he, Result.andThen_ok, Sem.run_pure, Bool.false_eq_true, if_false, rowF_get f k hk]
  have hq : ∀ a b : Int, (Op.equalIn (d + 1) e (.int .u64 a) (.int .u64 b)).run P w = .ok (a == b) w := fun a b => run_equalIn_int w d e .u64 .u64 a b he
  rw [Op.equalIn]
  simp only [Sem.run_bind, run_underlying ht, Result.andThen_ok, hs]
  rw [Std.Legacy.Range.forIn_eq_forIn_range']
  simp only [Std.Legacy.Range.size]
  have key : ∀ l : List Nat, (∀ i ∈ l, i < 8) → (Sem.run P (forIn l ((none : Option Bool), ()) fun i (_ : Option Bool × Unit) => do
            let a ← part e (rowF f) (i * 1)
            let b ← part e (rowF g) (i * 1)
            let c ← Op.equalIn (d + 1) e a b
            if (!c) = true then pure (ForInStep.done (some false, ())) else pure (ForInStep.yield (none, ()))) w) = .ok (if l.all (fun i => f i == g i) then (none, ()) else (some false, ())) w := by
    intro l
    induction l with
    | nil => intro _; simp
    | cons j l ih =>
      intro hl
      have hj := hl j (by simp)
      simp only [List.forIn_cons, Sem.run_bind, Nat.mul_one, hp _ _ hj, Result.andThen_ok, hq]
      cases hfg : (f j == g j)
      · simp [hfg]
      · simp only [hfg, Bool.not_true, Bool.false_eq_true, if_false, Sem.run_pure, Result.andThen_ok, List.all_cons, Bool.true_and]
        simpa using ih (fun i hi => hl i (by simp [hi]))
  rw [key _ (by simp [List.mem_range'])]
  simp only [Result.andThen_ok]
  have e8 : List.range' 0 ((8 - 0 + 1 - 1) / 1) = [0, 1, 2, 3, 4, 5, 6, 7] := rfl
  rw [e8]
  simp only [List.all_cons, List.all_nil, Bool.and_true]
  generalize (f 0 == g 0 && (f 1 == g 1 && (f 2 == g 2 && (f 3 == g 3 && (f 4 == g 4 && (f 5 == g 5 && (f 6 == g 6 && f 7 == g 7))))))) = b
  cases b <;> simp
theorem rows_zero (m : Int) (h0 : 0 ≤ m) (h : m < 4294967296 ^ 8) : (dgI m 0 == 0 && (dgI m 1 == 0 && (dgI m 2 == 0 && (dgI m 3 == 0 && (dgI m 4 == 0 && (dgI m 5 == 0 && (dgI m 6 == 0 && dgI m 7 == 0))))))) = decide (m = 0) := by
  by_cases hm : m = 0
  · subst hm; rfl
  · rw [decide_eq_false hm, Bool.eq_false_iff]
    intro hc
    simp only [Bool.and_eq_true, beq_iff_eq] at hc
    refine hm (dgs_inj_zero m h0 h fun j hj => ?_)
    rcases lt8 hj with rfl | rfl | rfl | rfl | rfl | rfl | rfl | rfl <;> simp [hc]
theorem run_eq_zero {P : Program} (t e : TypeId) (m : Int) (h0 : 0 ≤ m) (h : m < 4294967296 ^ 8) (ht : P.underlying t = some (.array 8 e)) (he : P.underlying e = some (.int .u64))
    (hs : ∀ w, (Go.sizeOf e).run P w = .ok 1 w) (w : World) :
    (Op.equalIn 10000 t (.agg (rowF (dgI m))) (.agg (rowF fun _ => 0))).run P w = .ok (decide (m = 0)) w := by
  rw [run_equalIn_rows w 9998 t e _ _ ht he (hs w), rows_zero m h0 h]
/-- A sign and a row, as a struct's cells. -/
def bigA (s : Bool) (f : Nat → Int) : Array Value := #[.bool s, .int .u64 (f 0), .int .u64 (f 1), .int .u64 (f 2), .int .u64 (f 3), .int .u64 (f 4), .int .u64 (f 5), .int .u64 (f 6), .int .u64 (f 7)]
theorem addr_add (b o j : Nat) : (⟨b, o, none⟩ : Addr).add j = ⟨b, o + j, none⟩ := by unfold Addr.add; split <;> simp_all
theorem cells_from {P : Program} {w : World} {b : Nat} {c : Array Value} {t : TypeId} (h : w.heap[b]? = some (.cells c t)) (o n : Nat) (c' : Array Value) (hn : c'.size = n)
    (hc : ∀ j v, c'[j]? = some v → c[o + j]? = some v) : (loadCellsFrom ⟨b, o, none⟩ 0 n #[]).run P w = .ok c' w := by
  subst hn
  have := run_loadCells_list (P := P) w ⟨b, o, none⟩ c'.toList (fun j v hv => by
    rw [addr_add, cell_of_row _ _ (o + j) c t (0, 0) h]
    exact hc j v (by simpa using hv))
  simpa [loadCells] using this
theorem load_row {P : Program} {w : World} {b : Nat} {f : Nat → Int} {t : TypeId} (h : w.heap[b]? = some (.cells (rowF f) t)) : (loadCellsFrom ⟨b, 0, none⟩ 0 8 #[]).run P w = .ok (rowF f) w :=
  cells_from h 0 8 _ rfl fun j v hv => by rw [Nat.zero_add]; exact hv
theorem load_big {P : Program} {w : World} {b : Nat} {s : Bool} {f : Nat → Int} {t : TypeId} (h : w.heap[b]? = some (.cells (bigA s f) t)) : (loadCellsFrom ⟨b, 0, none⟩ 0 9 #[]).run P w = .ok (bigA s f) w :=
  cells_from h 0 9 _ rfl fun j v hv => by rw [Nat.zero_add]; exact hv
theorem load_dig {P : Program} {w : World} {b : Nat} {s : Bool} {f : Nat → Int} {t : TypeId} (h : w.heap[b]? = some (.cells (bigA s f) t)) : (loadCellsFrom ⟨b, 1, none⟩ 0 8 #[]).run P w = .ok (rowF f) w :=
  cells_from h 1 8 _ rfl fun j v hv => by
    have hj : j < 8 := (Array.getElem?_eq_some_iff.1 hv).1
    rcases lt8 hj with rfl | rfl | rfl | rfl | rfl | rfl | rfl | rfl <;> exact hv
theorem store_shift (g o : Nat) : ∀ (vs : List Value) (i : Nat), storeCells ⟨g, o, none⟩ vs i = storeCells ⟨g, 0, none⟩ vs (o + i)
  | [], i => by simp only [storeCells]
  | v :: vs, i => by
    simp only [storeCells]
    rw [store_shift g o vs (i + 1), addr_add, addr_add, Nat.zero_add, Nat.add_assoc]
theorem store_row {P : Program} {w : World} {b : Nat} {f g : Nat → Int} {t : TypeId} (h : w.heap[b]? = some (.cells (rowF f) t)) : (storeCells ⟨b, 0, none⟩ (rowF g).toList 0).run P w = .ok () (w.setRow b (rowF g)) :=
  run_storeCells_from b t (rowF g).toList 0 (rowF f) w h rfl (by simp [rowF, Value.oneCell'])
theorem store_big {P : Program} {w : World} {b : Nat} {s s' : Bool} {f g : Nat → Int} {t : TypeId} (h : w.heap[b]? = some (.cells (bigA s f) t)) : (storeCells ⟨b, 0, none⟩ (bigA s' g).toList 0).run P w = .ok () (w.setRow b (bigA s' g)) :=
  run_storeCells_from b t (bigA s' g).toList 0 (bigA s f) w h rfl (by simp [bigA, Value.oneCell'])
theorem store_dig {P : Program} {w : World} {b : Nat} {s : Bool} {f g : Nat → Int} {t : TypeId} (h : w.heap[b]? = some (.cells (bigA s f) t)) : (storeCells ⟨b, 1, none⟩ (rowF g).toList 0).run P w = .ok () (w.setRow b (bigA s g)) := by
  rw [store_shift]
  exact run_storeCells_from b t (rowF g).toList 1 (bigA s f) w h rfl (by simp [rowF, Value.oneCell'])
theorem setRow_at {w : World} {b : Nat} {c c' : Array Value} {t : TypeId} (h : w.heap[b]? = some (.cells c t)) : (w.setRow b c').heap[b]? = some (.cells c' t) := by
  simp [World.setRow, Array.getElem?_modify, h]
theorem setRow_other {w : World} {b b' : Nat} {c' : Array Value} {x : Option Obj} (h : w.heap[b]? = x) (hn : b ≠ b') : (w.setRow b' c').heap[b]? = x := by
  rw [← h]
  simp [World.setRow, Array.getElem?_modify, Ne.symm hn]
theorem setRow_size (w : World) (b : Nat) (c : Array Value) : (w.setRow b c).heap.size = w.heap.size := by simp [World.setRow]
theorem below_setRow {B : Nat} {a w : World} {b : Nat} {c : Array Value} (h : Below B a w) (hb : B ≤ b) : Below B a (w.setRow b c) :=
  ⟨h.os, h.tape, h.output, by rw [setRow_size]; exact h.size, fun k hk => by rw [setRow_other rfl (by omega)]; exact h.block k hk⟩
/-- A whole number's size; a whole number as a sign and digits. -/
def absZ (v : Int) : Int := if v < 0 then -v else v
theorem absZ_nn (v : Int) : 0 ≤ absZ v := by unfold absZ; split <;> omega
def bigV (v : Int) : Array Value := bigA (decide (v < 0)) (dgI (absZ v))
def sgnZ (s : Bool) (m : Int) : Int := if s then -m else m
theorem bigA_sgn (s : Bool) (m : Int) (h : 0 ≤ m) : bigA (s && !decide (m = 0)) (dgI m) = bigV (sgnZ s m) := by
  unfold bigV sgnZ absZ
  cases s
  · simp only [Bool.false_and, Bool.false_eq_true, if_false]
    rw [if_neg (by omega), decide_eq_false (by omega)]
  · by_cases hm : m = 0
    · subst hm; rfl
    · simp only [Bool.true_and, if_true]
      rw [if_pos (by omega), decide_eq_false hm, decide_eq_true (by omega), Int.neg_neg]; rfl
theorem bigV_open (v : Int) : bigV v = bigA (decide (v < 0)) (dgI (absZ v)) := rfl
theorem sgn_bigV (v : Int) : sgnZ (decide (v < 0)) (absZ v) = v := by
  unfold sgnZ absZ
  by_cases h : v < 0
  · simp [h]
  · simp [h]
theorem dg_wide (h l : Int) (h0 : 0 ≤ h) (h1 : h < 18446744073709551616) (l0 : 0 ≤ l) (l1 : l < 18446744073709551616) :
    dgI (h * 18446744073709551616 + l) 0 = l % 4294967296 ∧ dgI (h * 18446744073709551616 + l) 1 = l / 4294967296 ∧ dgI (h * 18446744073709551616 + l) 2 = h % 4294967296 ∧ dgI (h * 18446744073709551616 + l) 3 = h / 4294967296 ∧
    dgI (h * 18446744073709551616 + l) 4 = 0 ∧ dgI (h * 18446744073709551616 + l) 5 = 0 ∧ dgI (h * 18446744073709551616 + l) 6 = 0 ∧ dgI (h * 18446744073709551616 + l) 7 = 0 := by
  unfold dgI
  simp only [Int.reducePow]
  refine ⟨?_, ?_, ?_, ?_, ?_, ?_, ?_, ?_⟩ <;> omega
theorem row_wide (s : Bool) (h l : Int) (h0 : 0 ≤ h) (h1 : h < 18446744073709551616) (l0 : 0 ≤ l) (l1 : l < 18446744073709551616) :
    bigA s (dgI (h * 18446744073709551616 + l)) = #[.bool s, .int .u64 (l % 4294967296), .int .u64 (l / 4294967296), .int .u64 (h % 4294967296), .int .u64 (h / 4294967296), .int .u64 0, .int .u64 0, .int .u64 0, .int .u64 0] := by
  obtain ⟨e0, e1, e2, e3, e4, e5, e6, e7⟩ := dg_wide h l h0 h1 l0 l1
  unfold bigA
  rw [e0, e1, e2, e3, e4, e5, e6, e7]
/-- The product's sum behind k steps of round i; its carry. -/
def mulS (x y : Int) (i k : Nat) : Int := cutI x i * y + 4294967296 ^ i * (dgI x i * cutI y k)
def carM (x y : Int) (i k : Nat) : Int := mulS x y i k / 4294967296 ^ (i + k) - cutI x i * y / 4294967296 ^ (i + k)
theorem mulS_zero (x y : Int) (i : Nat) : mulS x y i 0 = cutI x i * y := by simp [mulS, cutI_zero]
theorem mulS_succ (x y : Int) (i k : Nat) : mulS x y i (k + 1) = mulS x y i k + 4294967296 ^ (i + k) * (dgI x i * dgI y k) := by
  unfold mulS
  rw [cut_succ, Int.pow_add]
  generalize (4294967296 : Int) ^ i = P
  generalize (4294967296 : Int) ^ k = Q
  grind
theorem carM_zero (x y : Int) (i : Nat) : carM x y i 0 = 0 := by simp [carM, mulS_zero]
theorem mul_step (x y : Int) (i k : Nat) : dgI (mulS x y i (k + 1)) (i + k) = (dgI x i * dgI y k + dgI (cutI x i * y) (i + k) + carM x y i k) % 4294967296 ∧
    carM x y i (k + 1) = (dgI x i * dgI y k + dgI (cutI x i * y) (i + k) + carM x y i k) / 4294967296 := by
  have hP := pw_pos (i + k)
  have e : mulS x y i (k + 1) / 4294967296 ^ (i + k) = cutI x i * y / 4294967296 ^ (i + k) + carM x y i k + dgI x i * dgI y k := by
    rw [mulS_succ, Int.add_mul_ediv_left _ _ (Int.ne_of_gt hP)]
    unfold carM
    omega
  have e2 : carM x y i (k + 1) = mulS x y i (k + 1) / 4294967296 ^ (i + k) / 4294967296 - cutI x i * y / 4294967296 ^ (i + k) / 4294967296 := by
    unfold carM
    rw [← Nat.add_assoc, Int.pow_succ, Int.ediv_ediv_of_nonneg (Int.le_of_lt hP), Int.ediv_ediv_of_nonneg (Int.le_of_lt hP)]
  rw [e2]
  unfold dgI at *
  rw [e]
  generalize cutI x i * y / 4294967296 ^ (i + k) = r
  generalize carM x y i k = c
  generalize x / 4294967296 ^ i % 4294967296 * (y / 4294967296 ^ k % 4294967296) = z
  omega
theorem dg_mul (x y : Int) (i k : Nat) : 0 ≤ dgI x i * dgI y k ∧ dgI x i * dgI y k ≤ 4294967295 * 4294967295 := by
  have a0 := dgI_nn x i; have a1 := dgI_lt x i; have b0 := dgI_nn y k; have b1 := dgI_lt y k
  exact ⟨Int.mul_nonneg a0 b0, Int.mul_le_mul (by omega) (by omega) b0 (by omega)⟩
theorem carM_bd (x y : Int) (i k : Nat) : 0 ≤ carM x y i k ∧ carM x y i k < 4294967296 := by
  induction k with
  | zero => rw [carM_zero]; omega
  | succ k ih =>
    rw [(mul_step x y i k).2]
    have := dg_mul x y i k
    have := dgI_nn (cutI x i * y) (i + k); have := dgI_lt (cutI x i * y) (i + k)
    omega
theorem mulS_four (x y : Int) (i : Nat) (y0 : 0 ≤ y) (y1 : y < 4294967296 ^ 4) : mulS x y i 4 = cutI x (i + 1) * y := by
  have : cutI y 4 = y := Int.emod_eq_of_lt y0 y1
  unfold mulS
  rw [this, cut_succ]
  generalize (4294967296 : Int) ^ i = P
  grind
theorem mul_top (x y : Int) (i : Nat) (y0 : 0 ≤ y) (y1 : y < 4294967296 ^ 4) : 0 ≤ cutI x i * y ∧ cutI x i * y < 4294967296 ^ (i + 4) := by
  refine ⟨Int.mul_nonneg (cutI_nn x i) y0, ?_⟩
  rw [Int.pow_add]
  by_cases h : y = 0
  · subst h
    rw [Int.mul_zero]
    exact Int.mul_pos (pw_pos i) (pw_pos 4)
  · exact Int.mul_lt_mul (cutI_lt x i) (Int.le_of_lt y1) (by omega) (Int.le_of_lt (pw_pos i))
theorem mul_last (x y : Int) (i : Nat) (y0 : 0 ≤ y) (y1 : y < 4294967296 ^ 4) : carM x y i 4 = dgI (cutI x (i + 1) * y) (i + 4) := by
  have h := carM_bd x y i 4
  have t := mul_top x y i y0 y1
  have e : carM x y i 4 = cutI x (i + 1) * y / 4294967296 ^ (i + 4) := by
    unfold carM
    rw [mulS_four x y i y0 y1, div_top _ t.1 _ t.2]
    omega
  unfold dgI
  rw [← e]
  omega
theorem mul_round (s : Bool) (x y : Int) (i : Nat) (y0 : 0 ≤ y) (y1 : y < 4294967296 ^ 4) :
    bigA s (updF (mixF (mulS x y i 4) (cutI x i * y) (i + 4)) (i + 4) (carM x y i 4)) = bigA s (dgI (cutI x (i + 1) * y)) := by
  have t := mul_top x y i y0 y1
  have t' := mul_top x y (i + 1) y0 y1
  have h : ∀ j, j < 8 → updF (mixF (mulS x y i 4) (cutI x i * y) (i + 4)) (i + 4) (carM x y i 4) j = dgI (cutI x (i + 1) * y) j := by
    intro j hj
    rw [mul_last x y i y0 y1, mulS_four x y i y0 y1]
    unfold updF mixF
    by_cases h1 : j = i + 4
    · subst h1; simp
    · rw [if_neg h1]
      by_cases h2 : j < i + 4
      · rw [if_pos h2]
      · rw [if_neg h2, dgI_top _ t.1 (i + 4) j t.2 (by omega), dgI_top _ t'.1 (i + 1 + 4) j t'.2 (by omega)]
  unfold bigA
  rw [h 0 (by omega), h 1 (by omega), h 2 (by omega), h 3 (by omega), h 4 (by omega), h 5 (by omega), h 6 (by omega), h 7 (by omega)]
/-- One bit of a number. -/
theorem two_pos (k : Nat) : (0 : Int) < 2 ^ k := Int.pow_pos (by omega)
theorem pw_two (k : Nat) : (4294967296 : Int) ^ k = 2 ^ (32 * k) := by
  rw [Int.pow_mul]; rfl
theorem bit_of (x : Int) (i : Nat) : dgI x (i / 32) / 2 ^ (i % 32) % 2 = x / 2 ^ i % 2 := by
  obtain ⟨q, r, hr, rfl⟩ : ∃ q r, r < 32 ∧ i = 32 * q + r := ⟨i / 32, i % 32, Nat.mod_lt _ (by omega), by omega⟩
  have e1 : (32 * q + r) / 32 = q := by omega
  have e2 : (32 * q + r) % 32 = r := by omega
  rw [e1, e2]
  unfold dgI
  rw [pw_two, Int.pow_add, ← Int.ediv_ediv_of_nonneg (Int.le_of_lt (two_pos (32 * q)))]
  generalize x / 2 ^ (32 * q) = Y
  obtain ⟨d, hd⟩ : ∃ d, 32 = r + (d + 1) := ⟨31 - r, by omega⟩
  have hB : (4294967296 : Int) = 2 ^ r * (2 * 2 ^ d) := by
    have : (4294967296 : Int) = 2 ^ (r + (d + 1)) := by rw [← hd]; rfl
    rw [this, Int.pow_add, Int.pow_succ, Int.mul_comm (2 ^ d)]
  have hs := Int.mul_ediv_add_emod Y 4294967296
  have e3 : Y = Y % 4294967296 + 2 ^ r * (2 * (2 ^ d * (Y / 4294967296))) := by
    have : 4294967296 * (Y / 4294967296) = 2 ^ r * (2 * (2 ^ d * (Y / 4294967296))) := by
      conv => lhs; lhs; rw [hB]
      rw [Int.mul_assoc, Int.mul_assoc]
    omega
  conv => rhs; rw [e3]
  rw [Int.add_mul_ediv_left _ _ (Int.ne_of_gt (two_pos r)), Int.add_mul_emod_self_left]
theorem bit_split (x : Int) (i : Nat) : x / 2 ^ i = 2 * (x / 2 ^ (i + 1)) + x / 2 ^ i % 2 := by
  have h := Int.mul_ediv_add_emod (x / 2 ^ i) 2
  have e : x / 2 ^ (i + 1) = x / 2 ^ i / 2 := by rw [Int.pow_succ, Int.ediv_ediv_of_nonneg (Int.le_of_lt (two_pos i))]
  omega
/-- One step of a long division. -/
theorem div_step (Y d b : Int) (hd : 0 < d) (b0 : 0 ≤ b) (b1 : b ≤ 1) :
    (d ≤ 2 * (Y % d) + b → (2 * Y + b) / d = 2 * (Y / d) + 1 ∧ (2 * Y + b) % d = 2 * (Y % d) + b - d) ∧
    (2 * (Y % d) + b < d → (2 * Y + b) / d = 2 * (Y / d) ∧ (2 * Y + b) % d = 2 * (Y % d) + b) := by
  have h := Int.mul_ediv_add_emod Y d
  have h0 := Int.emod_nonneg Y (Int.ne_of_gt hd)
  have h1 := Int.emod_lt_of_pos Y hd
  constructor
  · intro hc
    have e : 2 * Y + b = (2 * (Y % d) + b - d) + d * (2 * (Y / d) + 1) := by grind
    constructor
    · rw [e, Int.add_mul_ediv_left _ _ (Int.ne_of_gt hd), Int.ediv_eq_zero_of_lt (by omega) (by omega)]; omega
    · rw [e, Int.add_mul_emod_self_left, Int.emod_eq_of_lt (by omega) (by omega)]
  · intro hc
    have e : 2 * Y + b = (2 * (Y % d) + b) + d * (2 * (Y / d)) := by grind
    constructor
    · rw [e, Int.add_mul_ediv_left _ _ (Int.ne_of_gt hd), Int.ediv_eq_zero_of_lt (by omega) (by omega)]; omega
    · rw [e, Int.add_mul_emod_self_left, Int.emod_eq_of_lt (by omega) (by omega)]
theorem div_neg (x d : Int) (hd : 0 < d) : (-x) / d = (if x % d = 0 then -(x / d) else -(x / d) + -1) ∧ (-x) % d = (if x % d = 0 then 0 else d - x % d) := by
  have h := Int.mul_ediv_add_emod x d
  have h0 := Int.emod_nonneg x (Int.ne_of_gt hd)
  have h1 := Int.emod_lt_of_pos x hd
  by_cases hz : x % d = 0
  · rw [if_pos hz, if_pos hz]
    have e : -x = 0 + d * (-(x / d)) := by grind
    constructor
    · rw [e, Int.add_mul_ediv_left _ _ (Int.ne_of_gt hd)]; simp
    · rw [e, Int.add_mul_emod_self_left]; simp
  · rw [if_neg hz, if_neg hz]
    have e : -x = (d - x % d) + d * (-(x / d) + -1) := by grind
    constructor
    · rw [e, Int.add_mul_ediv_left _ _ (Int.ne_of_gt hd), Int.ediv_eq_zero_of_lt (by omega) (by omega)]; omega
    · rw [e, Int.add_mul_emod_self_left, Int.emod_eq_of_lt (by omega) (by omega)]
theorem wpList_load_at {P : Program} {ops : Array Oper} {rest : List Oper} {o : Oper} {a : Act} {w : World} {Q : Exit → Act → World → Prop} (ty : TypeId) (x : Operand) (ho : o.op = .load ty x)
    (hw : Region.wanted o (yielded ops a.tmps) = true) (p : Addr) (hx : a.eval x = .pointer (some p)) (v : Value) (hl : (loadVar ty p).run P w = .ok v w)
    (h : wpList P ops Q rest (a.put o.dst v) w) : wpList P ops Q (o :: rest) a w :=
  wpList_step fun K hK => by
    rw [if_pos hw]
    unfold Oper.wp execOp
    simp only [ho, hx, Instr.loadAt, Instr.sureAddr, Sem.run_bind, Sem.run_pure, Result.andThen_ok, hl]
    exact hK _ _ h
theorem wpList_store_at {P : Program} {ops : Array Oper} {rest : List Oper} {o : Oper} {a : Act} {w w' : World} {Q : Exit → Act → World → Prop} (ty : TypeId) (x y : Operand) (ho : o.op = .store ty x y)
    (hw : Region.wanted o (yielded ops a.tmps) = true) (p : Addr) (hx : a.eval x = .pointer (some p)) (v : Value) (hl : (storeVar ty p v).run P w = .ok () w') (hy : a.eval y = v)
    (h : wpList P ops Q rest (a.put o.dst undef) w') : wpList P ops Q (o :: rest) a w :=
  wpList_step fun K hK => by
    rw [if_pos hw]
    unfold Oper.wp execOp
    simp only [ho, hx, hy, Instr.storeAt, Instr.sureAddr, Sem.run_bind, Sem.run_pure, Result.andThen_ok, hl]
    exact hK _ _ h
theorem loadVar_agg {P : Program} {w : World} {ty : TypeId} {p : Addr} {n : Nat} {c : Array Value} {d : TypeDesc} (hu : P.underlying ty = some d) (hd : (match d with | .struct _ | .array _ _ => true | _ => false) = true)
    (hi : (P.info? ty).map (·.size) = some n) (hl : (loadCellsFrom p 0 n #[]).run P w = .ok c w) : (loadVar ty p).run P w = .ok (.agg c) w := by
  cases hq : P.info? ty with
  | none => simp [hq] at hi
  | some i =>
    have hs : i.size = n := by simpa [hq] using hi
    cases d <;> simp_all [loadVar, isAgg, sizeOf, typeInfo, loadCells, run_underlying hu]
theorem storeVar_agg {P : Program} {w w' : World} {ty : TypeId} {p : Addr} {c : Array Value} (hi : (P.info? ty).map (·.size) = some c.size)
    (hl : (storeCells p c.toList 0).run P w = .ok () w') : (storeVar ty p (.agg c)).run P w = .ok () w' := by
  cases hq : P.info? ty with
  | none => simp [hq] at hi
  | some i =>
    have hs : c.size = i.size := by simp [hq] at hi; omega
    simp [storeVar, sizeOf, typeInfo, hq, Value.cells, hs, hl]
end Go.Proofs.YtmdnnlfoljdfpaaDoor
