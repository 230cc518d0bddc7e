/- Texts joined. -/
import Derived.Test.YtgkanacfffilmaaGreatDoorKx9d822b
import Derived.Test.YtgkanacfffilmaaGreatDoorKxf93213
import Derived.Lib.LaidTab
import Derived.Lib.ItoaNum
import Derived.Lib.AtoiAll
import Derived.Lib.Split
import Derived.Lib.AppendIntMem
import Derived.Lib.AtoiErrMem
import Derived.Test.YtgkanacfffilmaaGreatDoorProg
import Derived.Lay
import Derived.LaidSub
import Derived.Stop.LaidErr
namespace Go.Proofs.YtgkanacfffilmaaGreatDoor.Mir
open Go Go.RowKit
def R64 (n : Int) : Prop := -9223372036854775808 ≤ n ∧ n < 9223372036854775808
theorem bindP {A B : Type} (o : Option A) (a : A) (k : A → Option B) (h : o = some a) : Option.bind o k = k a := by subst h; exact id rfl
def errN : Option Int → Int
 | none => 0
 | some e => e
end Go.Proofs.YtgkanacfffilmaaGreatDoor.Mir
namespace Go.Proofs.YtgkanacfffilmaaGreatDoor.Mir
open Go Go.RowKit
set_option maxRecDepth 100000
structure LQ where
 m : Int
 es : Value
 er : Value
 hs : ∃ t p, es = .iface t p
 hr : ∃ t p, er = .iface t p
def tabL (g : Nat) (zs : List Int) : List (Nat × Nat × Value) := (List.range zs.length).map fun i => (g, i, Value.int .u64 (zs.getD i 0))
def laidQ (q : LQ) : List (Nat × Nat × Value) :=
 laidL ++ ((3, 0, .int .i64 q.m) :: (1, 0, q.es) :: (2, 0, q.er) :: tabL 4 Lib.pow10Tab)
def CellsQ (q : LQ) (w : World) : Prop := ∀ x ∈ laidQ q, w.cell? ⟨x.1, x.2.1, none⟩ = some x.2.2
theorem lift {q : LQ} {f : FuncId} {S : Sum} (h : SumOk Tryz.prog laidL f S) : SumOk Tryz.prog (laidQ q) f S :=
 fun al bs r hr g w vs h1 h2 h3 => h al bs r hr g w vs (fun p hp => h1 p (List.mem_append_left _ hp)) (fun p hp => by
  obtain ⟨row, ty, x, e, s⟩ := h2 p (List.mem_append_left _ hp)
  refine ⟨row, ty, x, e, s.trans ?_⟩
  obtain rfl := List.mem_singleton.1 hp
  rfl) (fun β hb p hp => h3 β hb p (List.mem_append_left _ hp))
theorem pow10_mem {q : LQ} (i : Nat) (hi : i < 20) : (4, i, Value.int .u64 (Lib.pow10Tab.getD i 0)) ∈ laidQ q := by
 refine List.mem_append_right _ (List.mem_cons_of_mem _ (List.mem_cons_of_mem _ (List.mem_cons_of_mem _ ?_)))
 exact List.mem_map.2 ⟨i, List.mem_range.2 (by rw [Lib.pow10Tab_length]; exact hi), rfl⟩
theorem pow10_size {q : LQ} : ((laidQ q).filter fun x => x.1 == 4).length = 20 := by rfl
theorem tab_is {q : LQ} {w : World} (hc : CellsQ q w) (hw : Whole (laidQ q) w) : Lib.TabIs Tryz.prog w "internal/strconv.uint64pow10" .u64 Lib.pow10Tab := by
 obtain ⟨row, ty, x, e, s⟩ := hw _ (pow10_mem (q := q) 0 (by decide))
 have s : row.size = 20 := s.trans pow10_size
 unfold Lib.TabIs World.var?
 rw [show Tryz.prog.globalNamed "internal/strconv.uint64pow10" = some 4 by kernel_rfl]
 show (match w.heap[4]? with | some (.cells cs _ _) => some cs | _ => none) = _
 rw [e]
 show some row = some _
 congr 1
 apply Array.ext
 ·simp [s, Lib.pow10Tab_length]
 ·intro i h1 h2
  have hi : i < 20 := by omega
  have h := hc _ (pow10_mem (q := q) i hi)
  simp only at h
  rw [cell_row e, Array.getElem?_eq_getElem h1] at h
  have h := Option.some.inj h
  rw [h, List.getElem_toArray, List.getElem_map, List.getD_eq_getElem?_getD, List.getElem?_eq_getElem (by rw [Lib.pow10Tab_length]; exact hi)]; rfl
theorem cell_max {q : LQ} {w : World} (hc : CellsQ q w) : w.cell? ⟨3, 0, none⟩ = some (.int .i64 q.m) :=
 hc (3, 0, .int .i64 q.m) (List.mem_append_right _ (List.mem_cons_self ..))
theorem cell_syn {q : LQ} {w : World} (hc : CellsQ q w) : w.cell? ⟨1, 0, none⟩ = some q.es :=
 hc (1, 0, q.es) (List.mem_append_right _ (List.mem_cons_of_mem _ (List.mem_cons_self ..)))
theorem cell_ran {q : LQ} {w : World} (hc : CellsQ q w) : w.cell? ⟨2, 0, none⟩ = some q.er :=
 hc (2, 0, q.er) (List.mem_append_right _ (List.mem_cons_of_mem _ (List.mem_cons_of_mem _ (List.mem_cons_self ..))))
end Go.Proofs.YtgkanacfffilmaaGreatDoor.Mir
namespace Go.Proofs.YtgkanacfffilmaaGreatDoor.Mir
def Leap (y : Int) : Prop := y % 4 = 0 ∧ (y % 100 ≠ 0 ∨ y % 400 = 0)
instance (y : Int) : Decidable (Leap y) := by unfold Leap; infer_instance
def lenM (y m : Int) : Int := if m < 1 ∨ 12 < m then 0 else if m = 2 then (if Leap y then 29 else 28) else if m = 4 ∨ m = 6 ∨ m = 9 ∨ m = 11 then 30 else 31
def yearN (y : Int) : Int := 365 * (y - 1) + (y - 1) / 4 - (y - 1) / 100 + (y - 1) / 400
def monN (y m : Int) : Int := if m ≤ 1 then 0 else if m = 2 then 31 else (153 * (m - 3) + 2) / 5 + (if Leap y then 60 else 59)
def daysD (y m d : Int) : Int := yearN y + monN y m + d - 719163
def MayD (y m d : Int) : Prop := 1 ≤ y ∧ y ≤ 9999 ∧ 1 ≤ d ∧ d ≤ lenM y m
instance (y m d : Int) : Decidable (MayD y m d) := by unfold MayD; infer_instance
theorem lenM_in {y m : Int} (h : 1 ≤ lenM y m) : 1 ≤ m ∧ m ≤ 12 := by
 unfold lenM at h
 split at h <;> omega
theorem MayD.m {y m d : Int} (h : MayD y m d) : 1 ≤ m ∧ m ≤ 12 := lenM_in (y := y) (by have := h.2.2; omega)
theorem lenM_le (y m : Int) : lenM y m ≤ 31 := by
 unfold lenM
 repeat' split
 all_goals omega
theorem yoe {day y : Int} (h0 : 0 ≤ day) (h1 : day < 146097) (hy : y = (day - day / 1460 + day / 36524 - day / 146096) / 365) :
  0 ≤ y ∧ y ≤ 399 ∧ 365 * y + y / 4 - y / 100 ≤ day ∧ (day < 365 * (y + 1) + (y + 1) / 4 - (y + 1) / 100 ∨ (y = 399 ∧ day = 146096)) := by
 generalize hq1 : day / 1460 = q1 at hy
 generalize hq2 : day / 36524 = q2 at hy
 generalize hq3 : day / 146096 = q3 at hy
 refine ⟨by omega, by omega, ?_, ?_⟩
 ·generalize hc : y / 100 = c
  generalize hd : y / 4 = d
  have hc3 : c = 0 ∨ c = 1 ∨ c = 2 ∨ c = 3 := by omega
  rcases hc3 with rfl | rfl | rfl | rfl <;> omega
 ·by_cases h : y = 399
  ·omega
  ·left
   generalize hc : (y + 1) / 100 = c
   generalize hd : (y + 1) / 4 = d
   have hc3 : c = 0 ∨ c = 1 ∨ c = 2 ∨ c = 3 := by omega
   rcases hc3 with rfl | rfl | rfl | rfl <;> omega
theorem mar_ok {E y r m Y : Int} (y0 : 0 ≤ y) (y1 : y ≤ 399) (r0 : 0 ≤ r) (r1 : r < 365 + ((y + 1) / 4 - y / 4) - ((y + 1) / 100 - y / 100) ∨ (y = 399 ∧ r ≤ 365)) (hm : m = (5 * r + 2) / 153) (hY : Y = 400 * E + y + m / 10) :
  0 ≤ m ∧ m ≤ 11 ∧ 1 ≤ r - (153 * m + 2) / 5 + 1 ∧ r - (153 * m + 2) / 5 + 1 ≤ lenM Y ((m + 2) % 12 + 1) ∧ daysD Y ((m + 2) % 12 + 1) (r - (153 * m + 2) / 5 + 1) = 146097 * E + (365 * y + y / 4 - y / 100) + r - 719468 := by
 have hr : r ≤ 365 := by omega
 have hm1 : 0 ≤ m ∧ m ≤ 11 := by omega
 refine ⟨hm1.1, hm1.2, ?_⟩
 have hc : m = 0 ∨ m = 1 ∨ m = 2 ∨ m = 3 ∨ m = 4 ∨ m = 5 ∨ m = 6 ∨ m = 7 ∨ m = 8 ∨ m = 9 ∨ m = 10 ∨ m = 11 := by omega
 unfold lenM daysD yearN monN Leap
 rcases hc with rfl | rfl | rfl | rfl | rfl | rfl | rfl | rfl | rfl | rfl | rfl | rfl <;> simp only [Int.reduceMul, Int.reduceAdd, Int.reduceDiv, Int.reduceMod, Int.reduceLT, Int.reduceLE, Int.reduceEq, Int.reduceSub, if_true, if_false, or_self, or_false, or_true] at * <;> (subst hY; first | omega | (refine ⟨by omega, ?_, ?_⟩ <;> (split <;> omega)))
def ofY (n : Int) : Int := let r := (n + 719468) % 146097; let y := (r - r / 1460 + r / 36524 - r / 146096) / 365; let m := (5 * (r - (365 * y + y / 4 - y / 100)) + 2) / 153; 400 * ((n + 719468) / 146097) + y + m / 10
def ofM (n : Int) : Int := let r := (n + 719468) % 146097; let y := (r - r / 1460 + r / 36524 - r / 146096) / 365; let m := (5 * (r - (365 * y + y / 4 - y / 100)) + 2) / 153; (m + 2) % 12 + 1
def ofD (n : Int) : Int := let r := (n + 719468) % 146097; let y := (r - r / 1460 + r / 36524 - r / 146096) / 365; let q := r - (365 * y + y / 4 - y / 100); q - (153 * ((5 * q + 2) / 153) + 2) / 5 + 1
theorem of_ok (n : Int) : 1 ≤ ofD n ∧ ofD n ≤ lenM (ofY n) (ofM n) ∧ daysD (ofY n) (ofM n) (ofD n) = n ∧ 400 * ((n + 719468) / 146097) ≤ ofY n ∧ ofY n ≤ 400 * ((n + 719468) / 146097) + 400 := by
 unfold ofY ofM ofD
 simp only
 have h0 := Int.emod_nonneg (n + 719468) (show (146097 : Int) ≠ 0 by decide)
 have h1 := Int.emod_lt_of_pos (n + 719468) (show (0 : Int) < 146097 by decide)
 have he := Int.mul_ediv_add_emod (n + 719468) 146097
 generalize (n + 719468) / 146097 = E at *
 generalize (n + 719468) % 146097 = r at *
 generalize hy : (r - r / 1460 + r / 36524 - r / 146096) / 365 = y
 obtain ⟨y0, y1, y2, y3⟩ := yoe h0 h1 hy.symm
 generalize hq : r - (365 * y + y / 4 - y / 100) = q
 generalize hm : (5 * q + 2) / 153 = m
 obtain ⟨m0, m1, m2, m3, m4⟩ := mar_ok (E := E) (y := y) (r := q) (m := m) y0 y1 (by omega) (by omega) hm.symm rfl
 refine ⟨m2, m3, by rw [m4]; omega, by omega, by omega⟩
theorem yearN_mono {a b : Int} (h : a ≤ b) : yearN a ≤ yearN b := by unfold yearN; omega
theorem yearN_step (y : Int) : yearN (y + 1) = yearN y + (if Leap y then 366 else 365) := by
 by_cases h : Leap y
 ·rw [if_pos h]; unfold Leap at h; unfold yearN; omega
 ·rw [if_neg h]; unfold Leap at h; unfold yearN; omega
theorem monN_step {y m : Int} (h1 : 1 ≤ m) (h2 : m ≤ 12) : monN y (m + 1) = monN y m + lenM y m := by
 have hc : m = 1 ∨ m = 2 ∨ m = 3 ∨ m = 4 ∨ m = 5 ∨ m = 6 ∨ m = 7 ∨ m = 8 ∨ m = 9 ∨ m = 10 ∨ m = 11 ∨ m = 12 := by omega
 unfold monN lenM
 by_cases L : Leap y <;> simp only [L, if_true, if_false] <;> (rcases hc with rfl | rfl | rfl | rfl | rfl | rfl | rfl | rfl | rfl | rfl | rfl | rfl <;> decide)
theorem monN_mono {y a b : Int} (_ : 1 ≤ a) (h : a ≤ b) : monN y a ≤ monN y b := by
 unfold monN
 repeat' split
 all_goals omega
theorem monN_13 (y : Int) : monN y 13 = if Leap y then 366 else 365 := by
 unfold monN
 rw [if_neg (by decide), if_neg (by decide)]
 split <;> rfl
theorem daysD_in {y m d : Int} (h : 1 ≤ d ∧ d ≤ lenM y m) : yearN y ≤ daysD y m d + 719162 ∧ daysD y m d + 719162 < yearN (y + 1) ∧ monN y m ≤ daysD y m d + 719162 - yearN y ∧ daysD y m d + 719162 - yearN y < monN y (m + 1) := by
 have hm := lenM_in (y := y) (m := m) (by omega)
 have h1 := monN_step (y := y) hm.1 hm.2
 have h2 := yearN_step y
 have h3 := monN_13 y
 have h4 := monN_mono (y := y) (a := m + 1) (b := 13) (by omega) (by omega)
 have h5 : 0 ≤ monN y m := by
  have := monN_mono (y := y) (a := 1) (b := m) (by omega) (by omega)
  have : monN y 1 = 0 := rfl
  omega
 unfold daysD
 omega
theorem daysD_inj {y m d y' m' d' : Int} (h : 1 ≤ d ∧ d ≤ lenM y m) (h' : 1 ≤ d' ∧ d' ≤ lenM y' m') (e : daysD y m d = daysD y' m' d') : y = y' ∧ m = m' ∧ d = d' := by
 obtain ⟨a1, a2, a3, a4⟩ := daysD_in h
 obtain ⟨b1, b2, b3, b4⟩ := daysD_in h'
 have hm := lenM_in (y := y) (m := m) (by omega)
 have hm' := lenM_in (y := y') (m := m') (by omega)
 have hy : y = y' := by
  rcases Int.lt_trichotomy y y' with q | q | q
  ·have := yearN_mono (a := y + 1) (b := y') (by omega); omega
  ·exact q
  ·have := yearN_mono (a := y' + 1) (b := y) (by omega); omega
 subst hy
 have hmm : m = m' := by
  rcases Int.lt_trichotomy m m' with q | q | q
  ·have := monN_mono (y := y) (a := m + 1) (b := m') (by omega) (by omega); omega
  ·exact q
  ·have := monN_mono (y := y) (a := m' + 1) (b := m) (by omega) (by omega); omega
 subst hmm
 refine ⟨rfl, rfl, ?_⟩
 unfold daysD at e
 omega
theorem of_days {y m d : Int} (h : 1 ≤ d ∧ d ≤ lenM y m) : ofY (daysD y m d) = y ∧ ofM (daysD y m d) = m ∧ ofD (daysD y m d) = d := by
 obtain ⟨h1, h2, h3, _⟩ := of_ok (daysD y m d)
 exact daysD_inj ⟨h1, h2⟩ h h3
theorem of_year (n : Int) : (1 ≤ ofY n ↔ -719162 ≤ n) ∧ (ofY n ≤ 9999 ↔ n ≤ 2932896) := by
 obtain ⟨h1, h2, h3, _⟩ := of_ok n
 obtain ⟨a1, a2, _⟩ := daysD_in ⟨h1, h2⟩
 rw [h3] at a1 a2
 have k0 : yearN 1 = 0 := rfl
 have k1 : yearN 10000 = 3652059 := rfl
 refine ⟨⟨fun h => ?_, fun h => ?_⟩, ⟨fun h => ?_, fun h => ?_⟩⟩
 ·have := yearN_mono (a := 1) (b := ofY n) h; omega
 ·rcases Int.lt_or_le (ofY n) 1 with q | q
  ·have := yearN_mono (a := ofY n + 1) (b := 1) (by omega); omega
  ·exact q
 ·have := yearN_mono (a := ofY n + 1) (b := 10000) (by omega); omega
 ·rcases Int.lt_or_le 9999 (ofY n) with q | q
  ·have := yearN_mono (a := 10000) (b := ofY n) (by omega); omega
  ·exact q
theorem days_mar {y m d : Int} (h1 : 1 ≤ m) (h2 : m ≤ 12) :
  daysD y m d = (if m < 3 then (y - 1) / 400 * 146097 + (y - 1) % 400 * 365 + (y - 1) % 400 / 4 - (y - 1) % 400 / 100 + (153 * (m + 9) + 2) / 5 else y / 400 * 146097 + y % 400 * 365 + y % 400 / 4 - y % 400 / 100 + (153 * (m - 3) + 2) / 5) + d - 1 - 719468 := by
 have hc : m = 1 ∨ m = 2 ∨ m = 3 ∨ m = 4 ∨ m = 5 ∨ m = 6 ∨ m = 7 ∨ m = 8 ∨ m = 9 ∨ m = 10 ∨ m = 11 ∨ m = 12 := by omega
 unfold daysD yearN monN Leap
 rcases hc with rfl | rfl | rfl | rfl | rfl | rfl | rfl | rfl | rfl | rfl | rfl | rfl <;> simp <;> first | omega | (split <;> omega)
def dgF : Nat → Nat → List UInt8
 | 0, _ => []
 | k + 1, u => if u < 10 then [UInt8.ofNat (48 + u)] else dgF k (u / 10) ++ [UInt8.ofNat (48 + u % 10)]
def twoL : Nat → Nat → List UInt8
 | 0, _ => []
 | k + 1, n => twoL k (n / 10) ++ [UInt8.ofNat (48 + n % 10)]
theorem dgF_len : ∀ (k f u : Nat), u < 10 ^ (k + 1) → k < f → (dgF f u).length ≤ k + 1
 | k, 0, u, _, h => by omega
 | k, f + 1, u, hu, h => by
  unfold dgF
  split
  ·simp
  ·rename_i h10
   cases k with
   | zero => simp at hu; omega
   | succ k =>
    have := dgF_len k f (u / 10) (by rw [Nat.pow_succ] at hu; omega) (by omega)
    simp; omega
theorem dgF_eq : ∀ (k f u : Nat), u < 10 ^ (k + 1) → k < f → dgF f u = Lib.decDigits u
 | k, 0, u, _, h => by omega
 | k, f + 1, u, hu, h => by
  unfold dgF
  rw [Lib.decDigits]
  split
  ·rfl
  ·rename_i h10
   cases k with
   | zero => simp at hu; omega
   | succ k => rw [dgF_eq k f (u / 10) (by rw [Nat.pow_succ] at hu; omega) (by omega)]
theorem twoL_zero : ∀ k, twoL k 0 = List.replicate k 48
 | 0 => rfl
 | k + 1 => by
  unfold twoL
  rw [show 0 / 10 = 0 from rfl, twoL_zero k, show UInt8.ofNat (48 + 0 % 10) = 48 from rfl, ← List.replicate_succ']
theorem pad_eq : ∀ (k f u : Nat), u < 10 ^ (k + 1) → k < f → List.replicate (k + 1 - (dgF f u).length) 48 ++ dgF f u = twoL (k + 1) u
 | k, 0, u, _, h => by omega
 | k, f + 1, u, hu, h => by
  unfold dgF twoL
  split
  ·rename_i h10
   rw [show u / 10 = 0 by omega, twoL_zero, Nat.mod_eq_of_lt h10]; simp
  ·rename_i h10
   cases k with
   | zero => simp at hu; omega
   | succ k =>
    have ih := pad_eq k f (u / 10) (by rw [Nat.pow_succ] at hu; omega) (by omega)
    have hl := dgF_len k f (u / 10) (by rw [Nat.pow_succ] at hu; omega) (by omega)
    rw [← ih]
    simp only [List.length_append, List.length_singleton]
    rw [← List.append_assoc]
    congr 3
    omega
theorem twoL_len : ∀ k n, (twoL k n).length = k
 | 0, _ => rfl
 | k + 1, n => by unfold twoL; simp [twoL_len k]
theorem dig_nat {d : Nat} (h : d < 10) : (UInt8.ofNat (48 + d)).toNat = 48 + d := by
 rw [UInt8.toNat_ofNat']
 omega
def valL (acc : Nat) : List UInt8 → Nat
 | [] => acc
 | c :: r => valL (acc * 10 + (c.toNat - 48)) r
def digB (c : UInt8) : Bool := decide (48 ≤ c.toNat) && decide (c.toNat ≤ 57)
theorem valL_app : ∀ (l r : List UInt8) (a : Nat), valL a (l ++ r) = valL (valL a l) r
 | [], _, _ => rfl
 | _ :: l, r, _ => valL_app l r _
theorem valL_two : ∀ (k n a : Nat), n < 10 ^ k → valL a (twoL k n) = a * 10 ^ k + n
 | 0, n, a, h => by
  have : n = 0 := by rw [Nat.pow_zero] at h; omega
  subst this
  show a = a * 10 ^ 0 + 0
  rw [Nat.pow_zero, Nat.mul_one, Nat.add_zero]
 | k + 1, n, a, h => by
  rw [Nat.pow_succ] at h ⊢
  have ih := valL_two k (n / 10) a (by omega)
  have hd := dig_nat (Nat.mod_lt n (by decide : 0 < 10))
  generalize hc : UInt8.ofNat (48 + n % 10) = c at hd
  have e : twoL (k + 1) n = twoL k (n / 10) ++ [c] := by rw [← hc]; rfl
  rw [e, valL_app, ih]
  show (a * 10 ^ k + n / 10) * 10 + (c.toNat - 48) = _
  rw [hd, Nat.add_mul, Nat.mul_assoc]
  omega
theorem twoL_dig : ∀ (k n : Nat), ∀ c ∈ twoL k n, digB c = true
 | 0, _, c, h => by cases h
 | k + 1, n, c, h => by
  unfold twoL at h
  rcases List.mem_append.1 h with h | h
  ·exact twoL_dig k _ c h
  ·obtain rfl := List.mem_singleton.1 h
   unfold digB
   rw [dig_nat (Nat.mod_lt n (by decide : 0 < 10)), decide_eq_true (by omega), decide_eq_true (by omega)]; rfl
theorem digB_ok {c : UInt8} (h : digB c = true) : 48 ≤ c.toNat ∧ c.toNat ≤ 57 := by simpa [digB] using h
theorem ofNat_dig {c : UInt8} (h : digB c = true) : UInt8.ofNat (48 + (c.toNat - 48)) = c := by
 obtain ⟨h1, h2⟩ := digB_ok h
 rw [show 48 + (c.toNat - 48) = c.toNat by omega]; simp
theorem two_val : ∀ (l : List UInt8) (m a : Nat), (∀ c ∈ l, digB c = true) → twoL (m + l.length) (valL a l) = twoL m a ++ l
 | [], m, a, _ => (List.append_nil _).symm
 | c :: l, m, a, h => by
  have hc := digB_ok (h c (List.mem_cons_self ..))
  have ih := two_val l (m + 1) (a * 10 + (c.toNat - 48)) (fun x hx => h x (List.mem_cons_of_mem _ hx))
  rw [show m + (c :: l).length = m + 1 + l.length by simp; omega]
  show twoL _ (valL (a * 10 + (c.toNat - 48)) l) = _
  rw [ih]
  show (twoL m ((a * 10 + (c.toNat - 48)) / 10) ++ [UInt8.ofNat (48 + (a * 10 + (c.toNat - 48)) % 10)]) ++ l = _
  rw [show (a * 10 + (c.toNat - 48)) / 10 = a by omega, show (a * 10 + (c.toNat - 48)) % 10 = c.toNat - 48 by omega, ofNat_dig (h c (List.mem_cons_self ..)), List.append_assoc]; rfl
theorem valL_lt : ∀ (l : List UInt8) (a m : Nat), (∀ c ∈ l, digB c = true) → a < 10 ^ m → valL a l < 10 ^ (m + l.length)
 | [], _, _, _, h => h
 | c :: l, a, m, hd, h => by
  have hc := digB_ok (hd c (List.mem_cons_self ..))
  have := valL_lt l (a * 10 + (c.toNat - 48)) (m + 1) (fun x hx => hd x (List.mem_cons_of_mem _ hx)) (by rw [Nat.pow_succ]; omega)
  rw [show m + (c :: l).length = m + 1 + l.length by simp; omega]
  exact this
theorem parse_dig : ∀ (l : List UInt8) (a : Nat), (∀ c ∈ l, digB c = true) → (a + 1) * 10 ^ l.length ≤ 1000000000000000000 → Lib.parseUint10 a l = .ok (valL a l)
 | [], a, _, _ => rfl
 | c :: l, a, hd, h => by
  obtain ⟨c1, c2⟩ := digB_ok (hd c (List.mem_cons_self ..))
  rw [List.length_cons, Nat.pow_succ] at h
  have hp : 1 ≤ 10 ^ l.length := Nat.one_le_pow _ _ (by decide)
  have h1 : (a + 1) * 10 ≤ 1000000000000000000 := by
   have : (a + 1) * (1 * 10) ≤ (a + 1) * (10 ^ l.length * 10) := Nat.mul_le_mul_left _ (Nat.mul_le_mul_right _ hp)
   omega
  unfold Lib.parseUint10 valL
  rw [if_pos ⟨c1, c2⟩, if_neg (by omega), if_neg (by omega)]
  refine parse_dig l _ (fun x hx => hd x (List.mem_cons_of_mem _ hx)) ?_
  refine Nat.le_trans (Nat.mul_le_mul_right _ (show a * 10 + (c.toNat - 48) + 1 ≤ (a + 1) * 10 by omega)) ?_
  rw [Nat.mul_assoc, Nat.mul_comm 10]
  exact h
theorem atoi_two {k n : Nat} (hk : 1 ≤ k) (hk2 : k ≤ 17) (h : n < 10 ^ k) : Lib.atoiAll (twoL k n) = .ok (n : Int) := by
 have hp : Lib.parseUint10 0 (twoL k n) = .ok n := by
  rw [parse_dig _ 0 (twoL_dig k n) (by
   rw [twoL_len, Nat.zero_add, Nat.one_mul]
   exact Nat.le_trans (Nat.pow_le_pow_right (by decide) hk2) (by decide)), valL_two k n 0 h, Nat.zero_mul, Nat.zero_add]
 have hl := twoL_len k n
 have hd := twoL_dig k n
 have hn : n < 10 ^ 17 := Nat.lt_of_lt_of_le h (Nat.pow_le_pow_right (by decide) hk2)
 generalize twoL k n = l at hp hl hd
 cases l with
 | nil => simp at hl; omega
 | cons c r =>
  obtain ⟨c1, c2⟩ := digB_ok (hd c (List.mem_cons_self ..))
  unfold Lib.atoiAll
  simp only
  rw [if_neg (show ¬ (c.toNat = 43 ∨ c.toNat = 45) by omega)]
  unfold Lib.parseMag
  rw [if_neg (by simp), hp]
  simp only
  rw [if_neg (by omega), if_neg (by omega), if_neg (by omega)]
end Go.Proofs.YtgkanacfffilmaaGreatDoor.Mir
namespace Go.Proofs.YtgkanacfffilmaaGreatDoor.Mir
open Go Go.RowKit
set_option maxRecDepth 100000
def r64B (x : Int) : Bool := decide (-9223372036854775808 ≤ x ∧ x < 9223372036854775808)
theorem r64B_iff {x : Int} : r64B x = true ↔ -9223372036854775808 ≤ x ∧ x < 9223372036854775808 := by simp [r64B]
def itoaL (n : Int) : List UInt8 := if n < 0 then 45 :: dgF 20 n.natAbs else dgF 20 n.toNat
theorem itoaL_eq {n : Int} (h0 : -9223372036854775808 ≤ n) (h1 : n < 9223372036854775808) : itoaL n = Lib.itoa n := by
 unfold itoaL Lib.itoa
 split
 ·rw [dgF_eq 19 20 _ (by omega) (by omega)]
 ·rw [dgF_eq 19 20 _ (by omega) (by omega)]
abbrev shI : ShA := .one (.d (.int .i64))
abbrev shT : ShA := .one (.d .str)
abbrev shX : ShA := .one (.d .erx)
def itoaF (n : Int) : Option (TAs [shT]) := bif r64B n then some ⟨(itoaL n).toArray⟩ else none
def itoaS : Sum := fnSum 1 0 1 [shI] [shT] (fun n => itoaF n)
theorem itoaS_ok {q : LQ} : SumOk Tryz.prog (laidQ q) 53 itoaS := by
 refine bridgeW rfl (fun _ => rfl) ?_
 rintro n r h g w vs hc hw ⟨_, _, rfl, ha, rfl⟩
 simp only [itoaF] at h
 cases hk : r64B n with
 | false => rw [hk] at h; cases h
 | true =>
  rw [hk] at h
  obtain rfl := Option.some.inj h
  obtain ⟨k0, k1⟩ := r64B_iff.1 hk
  cases ha
  refine invokes_of_calls Tryz.func53 (by kernel_rfl) (by kernel_rfl) ((Tryz.strconv_Itoa n k0 (by omega) w (tab_is hc hw)).mono ?_)
  rintro e w' ⟨rfl, k, os, rfl⟩
  refine ⟨_, rfl, ?_, Lib.below_grow _ w (Nat.le_refl _) k os⟩
  rw [itoaL_eq k0 k1]; rfl
def fmtF (n b : Int) : Option (TAs [shT]) := bif r64B n && b == 10 then some ⟨(itoaL n).toArray⟩ else none
def fmtS : Sum := fnSum 2 0 1 [shI, shI] [shT] (fun p => fmtF p.1 p.2)
theorem fmtS_ok {q : LQ} : SumOk Tryz.prog (laidQ q) 58 fmtS := by
 refine bridgeW rfl (fun _ => rfl) ?_
 rintro ⟨n, b⟩ r h g w vs hc hw ⟨_, _, rfl, ha, _, _, rfl, hb, rfl⟩
 simp only [fmtF] at h
 cases hk : (r64B n && b == 10) with
 | false => rw [hk] at h; cases h
 | true =>
  rw [hk] at h
  obtain rfl := Option.some.inj h
  simp only [Bool.and_eq_true, r64B_iff, beq_iff_eq] at hk
  obtain ⟨⟨k0, k1⟩, rfl⟩ := hk
  cases ha; cases hb
  refine invokes_of_calls Tryz.func58 (by kernel_rfl) (by kernel_rfl) ((Tryz.strconv_FormatInt_10 n k0 (by omega) w (tab_is hc hw)).mono ?_)
  rintro e w' ⟨rfl, k, os, rfl⟩
  refine ⟨_, rfl, ?_, Lib.below_grow _ w (Nat.le_refl _) k os⟩
  rw [itoaL_eq k0 k1]; rfl
def repF (s : ByteArray) (n : Int) : Option (TAs [shT]) := bif decide (0 ≤ n) && decide (s.size * n.toNat ≤ 140737488355328) && decide (n ≤ 9223372036854775807) then some ⟨(Lib.repeatL s.data.toList n.toNat).toArray⟩ else none
def repS : Sum := fnSum 2 0 1 [shT, shI] [shT] (fun p => repF p.1 p.2)
theorem repS_ok {q : LQ} : SumOk Tryz.prog (laidQ q) 54 repS := by
 refine bridgeW rfl (fun _ => rfl) ?_
 rintro ⟨s, n⟩ r h g w vs hc hw ⟨_, _, rfl, ha, _, _, rfl, hb, rfl⟩
 simp only [repF] at h
 cases hk : (decide (0 ≤ n) && decide (s.size * n.toNat ≤ 140737488355328) && decide (n ≤ 9223372036854775807)) with
 | false => rw [hk] at h; cases h
 | true =>
  rw [hk] at h
  obtain rfl := Option.some.inj h
  simp only [Bool.and_eq_true, decide_eq_true_eq] at hk
  obtain ⟨⟨k0, k1⟩, k2⟩ := hk
  cases ha; cases hb
  have k2 : n ≤ (9223372036854775807 : Int) := k2
  have hc := Tryz.strings_Repeat s n.toNat w (Int.toNat_le.2 k2) k1
  rw [Int.toNat_of_nonneg k0] at hc
  refine invokes_of_calls Tryz.func54 (by kernel_rfl) (by kernel_rfl) (hc.mono ?_)
  rintro e w' ⟨rfl, hw⟩
  exact ⟨_, rfl, rfl, hw⟩
def splF (s c : ByteArray) : Option (TAs [.one (.d (.sl [.str]))]) := bif decide (s.size < 4294967281) && decide (1 ≤ c.size) then some (Lib.splitB c 0 (Lib.countB s c) s) else none
def splS : Sum := fnSum 2 0 1 [shT, shT] [.one (.d (.sl [.str]))] (fun p => splF p.1 p.2)
theorem splS_ok {q : LQ} : SumOk Tryz.prog (laidQ q) 43 splS := by
 refine bridgeK rfl (fun _ => rfl) ?_
 rintro ⟨s, c⟩ r h g w vs hc hw ⟨_, _, rfl, ha, _, _, rfl, hb, rfl⟩ hlt
 simp only [splF] at h
 cases hk : (decide (s.size < 4294967281) && decide (1 ≤ c.size)) with
 | false => rw [hk] at h; cases h
 | true =>
  rw [hk] at h
  obtain rfl := Option.some.inj h
  simp only [Bool.and_eq_true, decide_eq_true_eq] at hk
  obtain ⟨k0, k1⟩ := hk
  cases ha; cases hb
  have hlen := Lib.splitB_all c k1 0 _ s rfl
  generalize hP : Lib.splitB c 0 (Lib.countB s c) s = P at hlen
  have hC := Tryz.strings_Split s c q.m w k0 (cell_max hc) k1
  rw [hP] at hC
  refine invokes_of_calls Tryz.func43 (by kernel_rfl) (by kernel_rfl) (hC.mono ?_)
  rintro e w' ⟨rfl, rfl⟩
  have hnew : (w.alloc (.cells (P.map Value.string).toArray 9)).heap[w.heap.size]? = some (.cells (P.map Value.string).toArray 9) := heap_alloc_new w _
  refine ⟨_, rfl, fun β o => if β = w.heap.size then (P.map Value.string)[o]? else g.K β o, fun β o v e => ?_, fun β o v e => ?_, ?_, (Below.refl _ _).alloc (Nat.le_refl _) _⟩
  ·have := hlt β o v e
   show (if β = w.heap.size then _ else _) = _
   rw [if_neg (Nat.ne_of_lt this)]; exact e
  ·have e : (if β = w.heap.size then (P.map Value.string)[o]? else g.K β o) = some v := e
   by_cases hβ : β = w.heap.size
   ·rw [if_pos hβ] at e
    subst hβ
    refine .inr ⟨Nat.le_refl _, ?_⟩
    rw [cell_row hnew]
    simpa using e
   ·rw [if_neg hβ] at e; exact .inl e
  ·refine ⟨.inr ⟨w.heap.size, 0, Lib.countB s c + 1, by rw [hlen], by omega, fun i x hx => ⟨[.string x], rfl, rfl, fun j u hu => ?_⟩⟩, fun _ _ e => by cases e⟩
   cases j with
   | succ j => simp at hu
   | zero =>
    simp only [List.getElem?_cons_zero, Option.some.injEq] at hu
    subst hu
    show (if w.heap.size = w.heap.size then (P.map Value.string)[0 + (i * 1 + 0)]? else _) = _
    rw [if_pos rfl, show 0 + (i * 1 + 0) = i by omega, List.getElem?_map, hx]; rfl
def endD (r : Lib.NumEnd Int) (m : Int) : Int × Bool := match r with | .ok v => (v, true) | .range => (m, false) | _ => (0, false)
def atoiF (s : ByteArray) : Option (TAs [shI, shX]) := bif decide (s.size ≤ 281474976710656) then some (endD (Lib.atoiAll s.data.toList) (Lib.atoiSat s.data.toList)) else none
def atoiS : Sum := fnSum 1 0 2 [shT] [shI, shX] (fun s => atoiF s)
theorem atoiS_ok {q : LQ} : SumOk Tryz.prog (laidQ q) 44 atoiS := by
 refine bridgeW rfl (fun _ => rfl) ?_
 rintro s r h g w vs hc hw ⟨_, _, rfl, ha, rfl⟩
 simp only [atoiF] at h
 by_cases hk : s.size ≤ 281474976710656
 ·rw [decide_eq_true hk] at h
  obtain rfl := Option.some.inj h
  cases ha
  obtain ⟨t1, p1, e1⟩ := q.hs
  obtain ⟨t2, p2, e2⟩ := q.hr
  cases hr : Lib.atoiAll s.data.toList with
  | ok v =>
   refine invokes_of_calls Tryz.func44 (by kernel_rfl) (by kernel_rfl) ((Tryz.strconv_Atoi_ok s (by omega) v hr w).mono ?_)
   rintro e w' ⟨rfl, hw⟩
   refine ⟨_, rfl, ⟨_, rfl, _, _, rfl, rfl, _, _, rfl, .inl ⟨rfl, rfl⟩, rfl⟩, ?_⟩
   rcases hw with rfl | ⟨t, rfl⟩
   ·exact Below.refl _ _
   ·exact Lib.bytesWorld_below _ _ _
  | range =>
   refine invokes_of_calls Tryz.func44 (by kernel_rfl) (by kernel_rfl) ((Tryz.strconv_Atoi_range s hk hr q.er w (cell_ran hc) (.inr ⟨_, _, e2⟩)).mono ?_)
   rintro e w' ⟨N, rfl, _, _, hw⟩
   exact ⟨_, rfl, ⟨_, rfl, _, _, rfl, rfl, _, _, rfl, .inr ⟨rfl, _, _, rfl⟩, rfl⟩, hw⟩
  | _ =>
   refine invokes_of_calls Tryz.func44 (by kernel_rfl) (by kernel_rfl) ((Tryz.strconv_Atoi_syntax s hk hr q.es w (cell_syn hc) (.inr ⟨_, _, e1⟩)).mono ?_)
   rintro e w' ⟨N, rfl, _, _, hw⟩
   exact ⟨_, rfl, ⟨_, rfl, _, _, rfl, rfl, _, _, rfl, .inr ⟨rfl, _, _, rfl⟩, rfl⟩, hw⟩
 ·rw [decide_eq_false hk] at h; cases h
def pintF (s : ByteArray) (b z : Int) : Option (TAs [shI, shX]) := bif decide (s.size ≤ 281474976710656) && (b == 10 && z == 64) then some (endD (Lib.parseIntB 64 s.data.toList) (Lib.intSat 64 s.data.toList)) else none
def pintS : Sum := fnSum 3 0 2 [shT, shI, shI] [shI, shX] (fun p => pintF p.1 p.2.1 p.2.2)
theorem pintS_ok {q : LQ} : SumOk Tryz.prog (laidQ q) 59 pintS := by
 refine bridgeW rfl (fun _ => rfl) ?_
 rintro ⟨s, b, z⟩ r h g w vs hc hw ⟨_, _, rfl, ha, _, _, rfl, hb, _, _, rfl, hz, rfl⟩
 simp only [pintF] at h
 cases hk : (decide (s.size ≤ 281474976710656) && (b == 10 && z == 64)) with
 | false => rw [hk] at h; cases h
 | true =>
  rw [hk] at h
  obtain rfl := Option.some.inj h
  simp only [Bool.and_eq_true, decide_eq_true_eq, beq_iff_eq] at hk
  obtain ⟨hk, rfl, rfl⟩ := hk
  cases ha; cases hb; cases hz
  obtain ⟨t1, p1, e1⟩ := q.hs
  obtain ⟨t2, p2, e2⟩ := q.hr
  cases hr : Lib.parseIntB 64 s.data.toList with
  | ok v =>
   refine invokes_of_calls Tryz.func59 (by kernel_rfl) (by kernel_rfl) ((Tryz.strconv_ParseInt_10_at64_ok s (by omega) v hr w).mono ?_)
   rintro e w' ⟨rfl, hw⟩
   refine ⟨_, rfl, ⟨_, rfl, _, _, rfl, rfl, _, _, rfl, .inl ⟨rfl, rfl⟩, rfl⟩, ?_⟩
   rcases hw with rfl | ⟨t, rfl⟩
   ·exact Below.refl _ _
   ·exact Lib.bytesWorld_below _ _ _
  | range =>
   refine invokes_of_calls Tryz.func59 (by kernel_rfl) (by kernel_rfl) ((Tryz.strconv_ParseInt_10_at64_range s hk hr q.er w (cell_ran hc) (.inr ⟨_, _, e2⟩)).mono ?_)
   rintro e w' ⟨N, rfl, _, _, hw⟩
   exact ⟨_, rfl, ⟨_, rfl, _, _, rfl, rfl, _, _, rfl, .inr ⟨rfl, _, _, rfl⟩, rfl⟩, hw⟩
  | _ =>
   refine invokes_of_calls Tryz.func59 (by kernel_rfl) (by kernel_rfl) ((Tryz.strconv_ParseInt_10_at64_syntax s hk hr q.es w (cell_syn hc) (.inr ⟨_, _, e1⟩)).mono ?_)
   rintro e w' ⟨N, rfl, _, _, hw⟩
   exact ⟨_, rfl, ⟨_, rfl, _, _, rfl, rfl, _, _, rfl, .inr ⟨rfl, _, _, rfl⟩, rfl⟩, hw⟩
end Go.Proofs.YtgkanacfffilmaaGreatDoor.Mir
namespace Go.Proofs.YtgkanacfffilmaaGreatDoor.Mir
open Go Go.RowKit
set_option maxRecDepth 100000
def ti_2 : TI := ⟨.int .i64, 1, 8, [int .i64 0], [.int .i64]⟩
theorem tk_2 : TyOk1 Go.Proofs.Tryz.prog 2 ti_2 := ⟨by kernel_rfl, fieldsNone (fun fs h => by cases h), ⟨Go.Proofs.Tryz.t2, (Go.Proofs.Tryz.t2.zero).getD .nilIface, by kernel_rfl, by kernel_rfl, by kernel_rfl, by kernel_rfl, by kernel_rfl⟩⟩
def ti_3 : TI := ⟨.int .i64, 1, 8, [int .i64 0], [.int .i64]⟩
theorem tk_3 : TyOk1 Go.Proofs.Tryz.prog 3 ti_3 := ⟨by kernel_rfl, fieldsNone (fun fs h => by cases h), ⟨Go.Proofs.Tryz.t3, (Go.Proofs.Tryz.t3.zero).getD .nilIface, by kernel_rfl, by kernel_rfl, by kernel_rfl, by kernel_rfl, by kernel_rfl⟩⟩
def ti_4 : TI := ⟨.bool, 1, 1, [boolC false], [.bool]⟩
theorem tk_4 : TyOk1 Go.Proofs.Tryz.prog 4 ti_4 := ⟨by kernel_rfl, fieldsNone (fun fs h => by cases h), ⟨Go.Proofs.Tryz.t4, (Go.Proofs.Tryz.t4.zero).getD .nilIface, by kernel_rfl, by kernel_rfl, by kernel_rfl, by kernel_rfl, by kernel_rfl⟩⟩
def ti_5 : TI := ⟨.int .u8, 1, 1, [int .u8 0], [.int .u8]⟩
theorem tk_5 : TyOk1 Go.Proofs.Tryz.prog 5 ti_5 := ⟨by kernel_rfl, fieldsNone (fun fs h => by cases h), ⟨Go.Proofs.Tryz.t5, (Go.Proofs.Tryz.t5.zero).getD .nilIface, by kernel_rfl, by kernel_rfl, by kernel_rfl, by kernel_rfl, by kernel_rfl⟩⟩
def ti_9 : TI := ⟨.string, 1, 16, [.lit (.string ByteArray.empty)], [.str]⟩
theorem tk_9 : TyOk1 Go.Proofs.Tryz.prog 9 ti_9 := ⟨by kernel_rfl, fieldsNone (fun fs h => by cases h), ⟨Go.Proofs.Tryz.t9, (Go.Proofs.Tryz.t9.zero).getD .nilIface, by kernel_rfl, by kernel_rfl, by kernel_rfl, by kernel_rfl, by kernel_rfl⟩⟩
def ti_23 : TI := ⟨.struct #[{ name := "Y", type := 3, offset := 0, embedded := false, tag := "", pkgPath := "", byteOffset := 0 }, { name := "M", type := 3, offset := 1, embedded := false, tag := "", pkgPath := "", byteOffset := 8 }, { name := "D", type := 3, offset := 2, embedded := false, tag := "", pkgPath := "", byteOffset := 16 }], 3, 24, [int .i64 0, int .i64 0, int .i64 0], [.int .i64, .int .i64, .int .i64]⟩
theorem tk_23 : TyOk1 Go.Proofs.Tryz.prog 23 ti_23 := ⟨by kernel_rfl, fieldsSome rfl (by kernel_rfl), ⟨Go.Proofs.Tryz.t23, (Go.Proofs.Tryz.t23.zero).getD .nilIface, by kernel_rfl, by kernel_rfl, by kernel_rfl, by kernel_rfl, by kernel_rfl⟩⟩
def ti_26 : TI := ⟨.struct #[{ name := "Y", type := 3, offset := 0, embedded := false, tag := "", pkgPath := "", byteOffset := 0 }, { name := "M", type := 3, offset := 1, embedded := false, tag := "", pkgPath := "", byteOffset := 8 }, { name := "D", type := 3, offset := 2, embedded := false, tag := "", pkgPath := "", byteOffset := 16 }], 3, 24, [int .i64 0, int .i64 0, int .i64 0], [.int .i64, .int .i64, .int .i64]⟩
theorem tk_26 : TyOk1 Go.Proofs.Tryz.prog 26 ti_26 := ⟨by kernel_rfl, fieldsSome rfl (by kernel_rfl), ⟨Go.Proofs.Tryz.t26, (Go.Proofs.Tryz.t26.zero).getD .nilIface, by kernel_rfl, by kernel_rfl, by kernel_rfl, by kernel_rfl, by kernel_rfl⟩⟩
def ti_28 : TI := ⟨.interface #[("Error", 127)], 1, 16, [.lit .nilIface], [.err 72]⟩
theorem tk_28 : TyOk1 Go.Proofs.Tryz.prog 28 ti_28 := ⟨by kernel_rfl, fieldsNone (fun fs h => by cases h), ⟨Go.Proofs.Tryz.t28, (Go.Proofs.Tryz.t28.zero).getD .nilIface, by kernel_rfl, by kernel_rfl, by kernel_rfl, by kernel_rfl, by kernel_rfl⟩⟩
def ti_49 : TI := ⟨.struct #[{ name := "H", type := 3, offset := 0, embedded := false, tag := "", pkgPath := "", byteOffset := 0 }, { name := "M", type := 3, offset := 1, embedded := false, tag := "", pkgPath := "", byteOffset := 8 }, { name := "S", type := 3, offset := 2, embedded := false, tag := "", pkgPath := "", byteOffset := 16 }], 3, 24, [int .i64 0, int .i64 0, int .i64 0], [.int .i64, .int .i64, .int .i64]⟩
theorem tk_49 : TyOk1 Go.Proofs.Tryz.prog 49 ti_49 := ⟨by kernel_rfl, fieldsSome rfl (by kernel_rfl), ⟨Go.Proofs.Tryz.t49, (Go.Proofs.Tryz.t49.zero).getD .nilIface, by kernel_rfl, by kernel_rfl, by kernel_rfl, by kernel_rfl, by kernel_rfl⟩⟩
def ti_50 : TI := ⟨.struct #[{ name := "H", type := 3, offset := 0, embedded := false, tag := "", pkgPath := "", byteOffset := 0 }, { name := "M", type := 3, offset := 1, embedded := false, tag := "", pkgPath := "", byteOffset := 8 }, { name := "S", type := 3, offset := 2, embedded := false, tag := "", pkgPath := "", byteOffset := 16 }], 3, 24, [int .i64 0, int .i64 0, int .i64 0], [.int .i64, .int .i64, .int .i64]⟩
theorem tk_50 : TyOk1 Go.Proofs.Tryz.prog 50 ti_50 := ⟨by kernel_rfl, fieldsSome rfl (by kernel_rfl), ⟨Go.Proofs.Tryz.t50, (Go.Proofs.Tryz.t50.zero).getD .nilIface, by kernel_rfl, by kernel_rfl, by kernel_rfl, by kernel_rfl, by kernel_rfl⟩⟩
def ti_58 : TI := ⟨.array 2 2, 2, 16, [.arr .i64 2 (List.replicate 2 0)], [.arr .i64 2]⟩
theorem tk_58 : TyOk1 Go.Proofs.Tryz.prog 58 ti_58 := ⟨by kernel_rfl, fieldsNone (fun fs h => by cases h), ⟨Go.Proofs.Tryz.t58, (Go.Proofs.Tryz.t58.zero).getD .nilIface, by kernel_rfl, by kernel_rfl, by kernel_rfl, by kernel_rfl, by kernel_rfl⟩⟩
def ti_67 : TI := ⟨.array 3 2, 3, 24, [.arr .i64 3 (List.replicate 3 0)], [.arr .i64 3]⟩
theorem tk_67 : TyOk1 Go.Proofs.Tryz.prog 67 ti_67 := ⟨by kernel_rfl, fieldsNone (fun fs h => by cases h), ⟨Go.Proofs.Tryz.t67, (Go.Proofs.Tryz.t67.zero).getD .nilIface, by kernel_rfl, by kernel_rfl, by kernel_rfl, by kernel_rfl, by kernel_rfl⟩⟩
def ti_72 : TI := ⟨.int .i64, 1, 8, [int .i64 0], [.int .i64]⟩
theorem tk_72 : TyOk1 Go.Proofs.Tryz.prog 72 ti_72 := ⟨by kernel_rfl, fieldsNone (fun fs h => by cases h), ⟨Go.Proofs.Tryz.t72, (Go.Proofs.Tryz.t72.zero).getD .nilIface, by kernel_rfl, by kernel_rfl, by kernel_rfl, by kernel_rfl, by kernel_rfl⟩⟩
def ti_73 : TI := ⟨.slice 3, 1, 24, [.lit (.slice none 0 0)], [.sl [.int .i64]]⟩
theorem tk_73 : TyOk1 Go.Proofs.Tryz.prog 73 ti_73 := ⟨by kernel_rfl, fieldsNone (fun fs h => by cases h), ⟨Go.Proofs.Tryz.t73, (Go.Proofs.Tryz.t73.zero).getD .nilIface, by kernel_rfl, by kernel_rfl, by kernel_rfl, by kernel_rfl, by kernel_rfl⟩⟩
def ti_75 : TI := ⟨.pointer 72, 1, 8, [.lit (Value.pointer none)], []⟩
theorem tk_75 : TyOk1 Go.Proofs.Tryz.prog 75 ti_75 := ⟨by kernel_rfl, fieldsNone (fun fs h => by cases h), ⟨Go.Proofs.Tryz.t75, (Go.Proofs.Tryz.t75.zero).getD .nilIface, by kernel_rfl, by kernel_rfl, by kernel_rfl, by kernel_rfl, by kernel_rfl⟩⟩
def ti_78 : TI := ⟨.slice 9, 1, 24, [.lit (.slice none 0 0)], [.sl [.str]]⟩
theorem tk_78 : TyOk1 Go.Proofs.Tryz.prog 78 ti_78 := ⟨by kernel_rfl, fieldsNone (fun fs h => by cases h), ⟨Go.Proofs.Tryz.t78, (Go.Proofs.Tryz.t78.zero).getD .nilIface, by kernel_rfl, by kernel_rfl, by kernel_rfl, by kernel_rfl, by kernel_rfl⟩⟩
def ti_80 : TI := ⟨.array 3 3, 3, 24, [.arr .i64 3 (List.replicate 3 0)], [.arr .i64 3]⟩
theorem tk_80 : TyOk1 Go.Proofs.Tryz.prog 80 ti_80 := ⟨by kernel_rfl, fieldsNone (fun fs h => by cases h), ⟨Go.Proofs.Tryz.t80, (Go.Proofs.Tryz.t80.zero).getD .nilIface, by kernel_rfl, by kernel_rfl, by kernel_rfl, by kernel_rfl, by kernel_rfl⟩⟩
def tab : List (Nat × TI) := [(2, ti_2), (3, ti_3), (4, ti_4), (5, ti_5), (9, ti_9), (23, ti_23), (26, ti_26), (28, ti_28), (49, ti_49), (50, ti_50), (58, ti_58), (67, ti_67), (72, ti_72), (73, ti_73), (75, ti_75), (78, ti_78), (80, ti_80)]
def tyT : TypeId → Option TI := lookT tab
theorem tyOk : TyOk Go.Proofs.Tryz.prog tyT := TysOk.ok (tysOk_cons tk_2 (tysOk_cons tk_3 (tysOk_cons tk_4 (tysOk_cons tk_5 (tysOk_cons tk_9 (tysOk_cons tk_23 (tysOk_cons tk_26 (tysOk_cons tk_28 (tysOk_cons tk_49 (tysOk_cons tk_50 (tysOk_cons tk_58 (tysOk_cons tk_67 (tysOk_cons tk_72 (tysOk_cons tk_73 (tysOk_cons tk_75 (tysOk_cons tk_78 (tysOk_cons tk_80 tysOk_nil)))))))))))))))))
theorem ek_26 : EqOk Go.Proofs.Tryz.prog 26 (eqQ [.int .i64, .int .i64, .int .i64]) := eqQ_ok (d := 9) (by kernel_rfl) (by omega) (by kernel_rfl) (by kernel_rfl)
theorem ek_50 : EqOk Go.Proofs.Tryz.prog 50 (eqQ [.int .i64, .int .i64, .int .i64]) := eqQ_ok (d := 9) (by kernel_rfl) (by omega) (by kernel_rfl) (by kernel_rfl)
theorem ek_67 : EqOk Go.Proofs.Tryz.prog 67 (eqQ [.arr .i64 3]) := eqQ_ok (d := 9) (by kernel_rfl) (by omega) (by kernel_rfl) (by kernel_rfl)
def eqT : TypeId → Option (List C → List C → Option Bool) := lookE [(26, eqQ [.int .i64, .int .i64, .int .i64]), (50, eqQ [.int .i64, .int .i64, .int .i64]), (67, eqQ [.arr .i64 3])]
theorem eqOk : ∀ t q, eqT t = some q → EqOk Go.Proofs.Tryz.prog t q := (eqsOk_cons ek_26 (eqsOk_cons ek_50 (eqsOk_cons ek_67 eqsOk_nil)))
variable {q : LQ}
theorem mix0 : Tryz.prog.follows .mixedOrders = true := by kernel_rfl
def h0 : Nat → Bool := fun _ => false
theorem fz : FnsOk Tryz.prog (laidQ q) [] := fnsOk_nil
theorem fk {g : Nat} {S : Sum} {l : List (Nat × Sum)} (h : SumOk Tryz.prog (laidQ q) g S) (t : FnsOk Tryz.prog (laidQ q) l) : FnsOk Tryz.prog (laidQ q) ((g, S) :: l) := fnsOk_cons h t
def cX (l : List (Nat × Sum)) (h : Nat → Bool) : Ctx := ⟨tyT, lookF l, eqT, h⟩
theorem cx {l : List (Nat × Sum)} (h : Nat → Bool) (H : FnsOk Tryz.prog (laidQ q) l) : CtxOk Tryz.prog (laidQ q) (cX l h) := ⟨tyOk, eqOk, fun _ _ => H.get, mix0⟩
theorem fn_x {l : List (Nat × Sum)} (h : Nat → Bool) (H : FnsOk Tryz.prog (laidQ q) l) {f : FuncId} {fn : Func} (hf : Tryz.prog.funcs[f]? = some fn) {n nOut nr : Nat} {PS RS : List ShA} {F : TAs PS → Option (TAs RS)} {ls : List (Nat × LSum)} (hl : LksOk Tryz.prog (laidQ q) nOut fn.ntmps 0 (bodyOf fn) ls)
  (hF : ∀ p, F p = exec (cX l h) fn.ntmps (lookL ls) (bodyOf fn) 0 (fnK (cX l h) fn.results.toList nOut RS) (fnSt n nOut PS p) := by intro _; kernel_rfl)
  (hb : fn.body = some (bodyOf fn) := by kernel_rfl) (hname : (fn.name == "runtime.NumGoroutine") = false := by kernel_rfl) (hnr : fn.results.size = nr := by exact rfl) (hn : nodupB ((loopsIn 0 (bodyOf fn)).map (·.1)) = true := by kernel_rfl) : SumOk Tryz.prog (laidQ q) f (fnSum n nOut nr PS RS F) :=
 fn_ok (cx h H) hf hb hname hnr hF (loopsAll hn hl)
theorem lp_x {l : List (Nat × Sum)} (h : Nat → Bool) (H : FnsOk Tryz.prog (laidQ q) l) {nOut NT cur k : Nat} {θ : Type} {live bl : List Nat} {sh : List ShA} {O : OutK nOut θ} {c : Code} {b : (TAs sh → Option θ) → TAs sh → Option θ} {N : Nat} {ls : List (Nat × LSum)} (hl : LksOk Tryz.prog (laidQ q) nOut NT k (unloop (loopAt cur k c)) ls)
  (hs : ∀ ih p, b ih p = exec (cX l h) NT (lookL ls) (unloop (loopAt cur k c)) k (roundK live bl sh O ih) (stOf live bl sh p) := by intro _ _; kernel_rfl)
  (hne : loopAt cur k c = .loop (unloop (loopAt cur k c)) := by kernel_rfl) (hn : nodupB ((loopsIn k (unloop (loopAt cur k c))).map (·.1)) = true := by kernel_rfl) : SegOk Tryz.prog (laidQ q) nOut NT (loopAt cur k c) (loopSum live bl sh O (iter b N)) :=
 (congrArg (fun c => SegOk Tryz.prog (laidQ q) nOut NT c (loopSum live bl sh O (iter b N))) hne).mpr (loop_ok (cx h H) (fun n => iter b n) (fun _ => rfl) (fun n p => hs (iter b n) p) (loopsAll hn hl) N)
theorem seg_x {l : List (Nat × Sum)} (h : Nat → Bool) (H : FnsOk Tryz.prog (laidQ q) l) {nOut NT cur : Nat} {θ : Type} {live bl : List Nat} {sh : List ShA} {O : OutK nOut θ} {body : Code} {F : TAs sh → Option θ} {ls : List (Nat × LSum)} (hl : LksOk Tryz.prog (laidQ q) nOut NT cur body ls)
  (hs : ∀ p, F p = exec (cX l h) NT (lookL ls) body cur O.K0 (stOf live bl sh p) := by intro _; kernel_rfl) (hn : nodupB ((loopsIn cur body).map (·.1)) = true := by kernel_rfl) : SegOk Tryz.prog (laidQ q) nOut NT body (loopSum live bl sh O F) :=
 seg_ok (cx h H) F hs (loopsAll hn hl)
abbrev zg0 : ShA := .agg [.d (.int .i64), .d (.int .i64), .d (.int .i64)]
end Go.Proofs.YtgkanacfffilmaaGreatDoor.Mir
namespace Go.Proofs.YtgkanacfffilmaaGreatDoor.Mir
open Go Go.RowKit
set_option maxRecDepth 100000
noncomputable section
variable {q : LQ}
def f_15 (_ : Nat) (x1 : Int) : Option (TAs [.one (.d (.bool))]) :=
 (bif ((Int.tmod x1 4) == 0) then (bif ((Int.tmod x1 100) != 0) then (some true) else (some ((Int.tmod x1 400) == 0))) else (some false))
def S_15 (N : Nat) : Sum := fnSum 1 0 1 [.one (.d (.int .i64))] [.one (.d (.bool))] (fun x1 => f_15 N x1)
theorem s_15 (N : Nat) : SumOk Tryz.prog (laidQ q) 15 (S_15 N) := fn_x h0 fz Tryz.func15 (lookOk_nil)
def f_28 (_ : Nat) (x1 : Int) : Option (TAs [zg0, .one (.d (.err 72))]) :=
 (bif (decide (x1 < 0)) then (some ((0, 0, 0), (some 1))) else (bif (decide (x1 > 86400)) then (some ((0, 0, 0), (some 1))) else (bif (x1 == 86400) then (some ((23, 59, 60), none)) else (some (((IntKind.i64.wrap (Int.tdiv x1 3600)), (Int.tmod (IntKind.i64.wrap (Int.tdiv x1 60)) 60), (Int.tmod x1 60)), none)))))
def S_28 (N : Nat) : Sum := fnSum 1 0 2 [.one (.d (.int .i64))] [zg0, .one (.d (.err 72))] (fun x1 => f_28 N x1)
theorem s_28 (N : Nat) : SumOk Tryz.prog (laidQ q) 28 (S_28 N) := fn_x h0 fz Tryz.func28 (lookOk_nil)
def f_30 (_ : Nat) (x1 x2 x3 : Int) : Option (TAs [.one (.d (.err 72))]) :=
 (bif ((x1 == 23) && ((x2 == 59) && (x3 == 60))) then (some none) else (bif (decide (x1 < 0)) then (some (some 1)) else (bif (decide (x1 > 23)) then (some (some 1)) else (bif (decide (x2 < 0)) then (some (some 1)) else (bif (decide (x2 > 59)) then (some (some 1)) else (bif (decide (x3 < 0)) then (some (some 1)) else (bif (decide (x3 > 59)) then (some (some 1)) else (some none))))))))
def S_30 (N : Nat) : Sum := fnSum 1 0 1 [zg0] [.one (.d (.err 72))] (fun (x1, x2, x3) => f_30 N x1 x2 x3)
theorem s_30 (N : Nat) : SumOk Tryz.prog (laidQ q) 30 (S_30 N) := fn_x h0 fz Tryz.func30 (lookOk_nil)
def f_31 (_ : Nat) (x1 : Option Int) : Option (TAs [.one (.d (.int .i64))]) :=
 (bif (Option.isNone x1) then (some 0) else ((some (x1, (0 : Int)) : Option (Option Int × Int)).bind fun r2 => (bif (Option.isSome r2.1) then (some (asVal r2.2 r2.1)) else (some (-1)))))
def S_31 (N : Nat) : Sum := fnSum 1 0 1 [.one (.d (.err 72))] [.one (.d (.int .i64))] (fun x1 => f_31 N x1)
theorem s_31 (N : Nat) : SumOk Tryz.prog (laidQ q) 31 (S_31 N) := fn_x h0 (fk (lift asS_ok) fz) Tryz.func31 (lookOk_nil)
def f_38 (_ : Nat) (x1 x2 : Int) : Option (TAs [.one (.d (.int .i64)), .one (.d (.int .i64)), .one (.d (.err 72))]) :=
 (bif (decide (x2 < 1)) then (some (0, 0, (some 1))) else (bif (decide (x2 = 0)) then none else (bif (decide (x2 = 0)) then none else (bif (decide ((Int.tmod x1 x2) < 0)) then (some ((IntKind.i64.wrap ((IntKind.i64.wrap (Int.tdiv x1 x2)) - 1)), (IntKind.i64.wrap ((Int.tmod x1 x2) + x2)), none)) else (some ((IntKind.i64.wrap (Int.tdiv x1 x2)), (Int.tmod x1 x2), none))))))
def S_38 (N : Nat) : Sum := fnSum 2 0 3 [.one (.d (.int .i64)), .one (.d (.int .i64))] [.one (.d (.int .i64)), .one (.d (.int .i64)), .one (.d (.err 72))] (fun (x1, x2) => f_38 N x1 x2)
theorem s_38 (N : Nat) : SumOk Tryz.prog (laidQ q) 38 (S_38 N) := fn_x h0 fz Tryz.func38 (lookOk_nil)
def f_39 (_ : Nat) (x1 x2 : Int) : Option (TAs [.one (.d (.int .i64)), .one (.d (.err 72))]) :=
 (bif (!((decide ((IntKind.i64.wrap (x1 + x2)) < x1)) == (decide (x2 < 0)))) then (some (0, (some 2))) else (some ((IntKind.i64.wrap (x1 + x2)), none)))
def S_39 (N : Nat) : Sum := fnSum 2 0 2 [.one (.d (.int .i64)), .one (.d (.int .i64))] [.one (.d (.int .i64)), .one (.d (.err 72))] (fun (x1, x2) => f_39 N x1 x2)
theorem s_39 (N : Nat) : SumOk Tryz.prog (laidQ q) 39 (S_39 N) := fn_x h0 fz Tryz.func39 (lookOk_nil)
def f_42 (_ : Nat) (x1 x2 : Int) : Option (TAs [.one (.d (.str))]) :=
 ((itoaF x1).bind fun r3 => ((repF (⟨#[48]⟩) (IntKind.i64.wrap (x2 - (ByteArray.size r3 : Int)))).bind fun r4 => (bif (decide (((ByteArray.size r4 + ByteArray.size r3 : Nat) : Int) > 9223372036854775807)) then none else (some (r4 ++ r3)))))
def S_42 (N : Nat) : Sum := fnSum 2 0 1 [.one (.d (.int .i64)), .one (.d (.int .i64))] [.one (.d (.str))] (fun (x1, x2) => f_42 N x1 x2)
theorem s_42 (N : Nat) : SumOk Tryz.prog (laidQ q) 42 (S_42 N) := fn_x h0 (fk itoaS_ok (fk repS_ok fz)) Tryz.func42 (lookOk_nil)
def f_47 (_ : Nat) (x1 x2 : Int) : Option (TAs [.one (.d (.str))]) :=
 ((fmtF x1 10).bind fun r3 => ((repF (⟨#[48]⟩) (if (IntKind.i64.wrap (x2 - (ByteArray.size r3 : Int))) > 0 then (IntKind.i64.wrap (x2 - (ByteArray.size r3 : Int))) else 0)).bind fun r4 => (bif (decide (((ByteArray.size r4 + ByteArray.size r3 : Nat) : Int) > 9223372036854775807)) then none else (some (r4 ++ r3)))))
def S_47 (N : Nat) : Sum := fnSum 2 0 1 [.one (.d (.int .i64)), .one (.d (.int .i64))] [.one (.d (.str))] (fun (x1, x2) => f_47 N x1 x2)
theorem s_47 (N : Nat) : SumOk Tryz.prog (laidQ q) 47 (S_47 N) := fn_x h0 (fk fmtS_ok (fk repS_ok fz)) Tryz.func47 (lookOk_nil)
def f_48 (_ : Nat) (x1 : ByteArray) : Option (TAs [.one (.d (.int .i64))]) :=
 ((pintF x1 10 64).bind fun r2 => (bif (!r2.2) then (some (-1)) else (some r2.1)))
def S_48 (N : Nat) : Sum := fnSum 1 0 1 [.one (.d (.str))] [.one (.d (.int .i64))] (fun x1 => f_48 N x1)
theorem s_48 (N : Nat) : SumOk Tryz.prog (laidQ q) 48 (S_48 N) := fn_x h0 (fk pintS_ok fz) Tryz.func48 (lookOk_nil)
def f_13 (N : Nat) (x1 x2 : Int) : Option (TAs [.one (.d (.int .i64))]) :=
 (bif (x2 == 1) then (some 31) else (bif (x2 == 3) then (some 31) else (bif (x2 == 5) then (some 31) else (bif (x2 == 7) then (some 31) else (bif (x2 == 8) then (some 31) else (bif (x2 == 10) then (some 31) else (bif (x2 == 12) then (some 31) else (bif (x2 == 4) then (some 30) else (bif (x2 == 6) then (some 30) else (bif (x2 == 9) then (some 30) else (bif (x2 == 11) then (some 30) else (bif (x2 == 2) then ((f_15 N x1).bind fun r3 => (bif r3 then (some 29) else (some 28))) else (some 0)))))))))))))
def S_13 (N : Nat) : Sum := fnSum 2 0 1 [.one (.d (.int .i64)), .one (.d (.int .i64))] [.one (.d (.int .i64))] (fun (x1, x2) => f_13 N x1 x2)
theorem s_13 (N : Nat) : SumOk Tryz.prog (laidQ q) 13 (S_13 N) := fn_x h0 (fk (s_15 N) fz) Tryz.func13 (lookOk_nil)
def f_17 (N : Nat) (x1 x2 x3 : Int) : Option (TAs [.one (.d (.err 72))]) :=
 (bif (decide (x1 < 1)) then (some (some 1)) else (bif (decide (x1 > 9999)) then (some (some 1)) else (bif (decide (x3 < 1)) then (some (some 1)) else ((f_13 N x1 x2).bind fun r4 => (bif (decide (x3 > r4)) then (some (some 1)) else (some none))))))
def S_17 (N : Nat) : Sum := fnSum 1 0 1 [zg0] [.one (.d (.err 72))] (fun (x1, x2, x3) => f_17 N x1 x2 x3)
theorem s_17 (N : Nat) : SumOk Tryz.prog (laidQ q) 17 (S_17 N) := fn_x h0 (fk (s_13 N) fz) Tryz.func17 (lookOk_nil)
def f_21 (N : Nat) (x1 x2 x3 : Int) : Option (TAs [.one (.d (.str)), .one (.d (.err 72))]) :=
 ((f_17 N x1 x2 x3).bind fun r4 => (bif (!(Option.isNone r4)) then (some (⟨#[]⟩, r4)) else ((f_42 N x1 4).bind fun r5 => (bif (decide (((ByteArray.size r5 + ByteArray.size (⟨#[45]⟩ : ByteArray) : Nat) : Int) > 9223372036854775807)) then none else ((f_42 N x2 2).bind fun r6 => (bif (decide (((ByteArray.size (r5 ++ (⟨#[45]⟩ : ByteArray)) + ByteArray.size r6 : Nat) : Int) > 9223372036854775807)) then none else (bif (decide (((ByteArray.size ((r5 ++ (⟨#[45]⟩ : ByteArray)) ++ r6) + ByteArray.size (⟨#[45]⟩ : ByteArray) : Nat) : Int) > 9223372036854775807)) then none else ((f_42 N x3 2).bind fun r7 => (bif (decide (((ByteArray.size (((r5 ++ (⟨#[45]⟩ : ByteArray)) ++ r6) ++ (⟨#[45]⟩ : ByteArray)) + ByteArray.size r7 : Nat) : Int) > 9223372036854775807)) then none else (some (((((r5 ++ (⟨#[45]⟩ : ByteArray)) ++ r6) ++ (⟨#[45]⟩ : ByteArray)) ++ r7), none)))))))))))
def S_21 (N : Nat) : Sum := fnSum 1 0 2 [zg0] [.one (.d (.str)), .one (.d (.err 72))] (fun (x1, x2, x3) => f_21 N x1 x2 x3)
theorem s_21 (N : Nat) : SumOk Tryz.prog (laidQ q) 21 (S_21 N) := fn_x h0 (fk (s_17 N) (fk (s_42 N) fz)) Tryz.func21 (lookOk_nil)
def X_22 (N : Nat) : List (Nat × Sum) := [(43, splS), (44, atoiS), (21, (S_21 N))]
theorem x_22 (N : Nat) : FnsOk Tryz.prog (laidQ q) (X_22 N) := fk splS_ok (fk atoiS_ok (fk (s_21 N) fz))
def sh_22_0 : List ShA := [.one (.d (.str)), .one (.ptr 160 0), .one (.d (.sl [.str])), .one (.ptr 208 0), .one (.d (.int .i64)), zg0, .agg [.d (.arr .i64 3)]]
abbrev T_22_0 := ((TAs [.one (.ptr 160 0), .one (.d (.err 72)), zg0]) ⊕ (TAs [.one (.d (.str)), .one (.ptr 160 0), .one (.ptr 208 0), zg0, .agg [.d (.arr .i64 3)]]))
def o_22_0 : OutK 0 T_22_0 := (outTwo (outOne 0 .ret [2, 3] [160] [.one (.ptr 160 0), .one (.d (.err 72)), zg0]) (outOne 0 (.exit 0) [0, 2, 5] [160, 208] [.one (.d (.str)), .one (.ptr 160 0), .one (.ptr 208 0), zg0, .agg [.d (.arr .i64 3)]]))
def b_22_0 (_ : Nat) (ih : TAs sh_22_0 → Option T_22_0) : TAs sh_22_0 → Option T_22_0 := fun (y3, _, y4, _, y5, (y6, y7, y8), y9) =>
 (bif (decide (y5 < 3)) then (bif (decide (0 ≤ y5 ∧ y5 < (List.length y4 : Int))) then ((atoiF (List.getD y4 (Int.toNat y5) ByteArray.empty)).bind fun r10 => (bif (!r10.2) then (some (.inl ((), (some 3), (0, 0, 0)))) else (bif (decide (0 ≤ y5 ∧ y5 < 3)) then (ih (y3, (), y4, (), (IntKind.i64.wrap (y5 + 1)), (y6, y7, y8), (List.set y9 (Int.toNat y5) r10.1))) else none))) else none) else (some (.inr (y3, (), (), (y6, y7, y8), y9))))
def l_22_0 (N : Nat) : TAs sh_22_0 → Option T_22_0 := iter (b_22_0 N) N
def L_22_0 (N : Nat) : LSum := loopSum [0, 2, 4, 5, 19] [160, 208] sh_22_0 o_22_0 (l_22_0 N)
theorem L_ok_22_0 (N : Nat) : SegOk Tryz.prog (laidQ q) 0 Tryz.f22.ntmps (loopAt 0 0 (bodyOf Tryz.f22)) (L_22_0 N) :=
 lp_x h0 (x_22 N) (lookOk_nil)
def f_22 (N : Nat) (x1 : ByteArray) : Option (TAs [zg0, .one (.d (.err 72))]) :=
 ((splF x1 (⟨#[45]⟩)).bind fun r2 => (bif ((List.length r2 : Int) != 3) then (some ((0, 0, 0), (some 3))) else ((l_22_0 N (x1, (), r2, (), 0, (0, 0, 0), [0, 0, 0])).bind fun q => (match q with | .inl q11 => (some ((q11.2.2.1, q11.2.2.2.1, q11.2.2.2.2), q11.2.1)) | .inr q12 => ((f_21 N (List.getD q12.2.2.2.2 (Int.toNat 0) 0) (List.getD q12.2.2.2.2 (Int.toNat 1) 0) (List.getD q12.2.2.2.2 (Int.toNat 2) 0)).bind fun r13 => (bif (!(Option.isNone r13.2)) then (some ((0, 0, 0), (some 3))) else (bif (!((ByteArray.toList r13.1) == (ByteArray.toList q12.1))) then (some ((0, 0, 0), (some 3))) else (some (((List.getD q12.2.2.2.2 (Int.toNat 0) 0), (List.getD q12.2.2.2.2 (Int.toNat 1) 0), (List.getD q12.2.2.2.2 (Int.toNat 2) 0)), none)))))))))
def S_22 (N : Nat) : Sum := fnSum 1 0 2 [.one (.d (.str))] [zg0, .one (.d (.err 72))] (fun x1 => f_22 N x1)
theorem s_22 (N : Nat) : SumOk Tryz.prog (laidQ q) 22 (S_22 N) := fn_x h0 (x_22 N) Tryz.func22 ((lookOk_cons (L_ok_22_0 N) lookOk_nil))
def f_27 (N : Nat) (x1 x2 x3 : Int) : Option (TAs [.one (.d (.int .i64)), .one (.d (.err 72))]) :=
 ((f_30 N x1 x2 x3).bind fun r4 => (bif (!(Option.isNone r4)) then (some (0, r4)) else (some ((IntKind.i64.wrap ((IntKind.i64.wrap ((IntKind.i64.wrap (x1 * 3600)) + (IntKind.i64.wrap (x2 * 60)))) + x3)), none))))
def S_27 (N : Nat) : Sum := fnSum 1 0 2 [zg0] [.one (.d (.int .i64)), .one (.d (.err 72))] (fun (x1, x2, x3) => f_27 N x1 x2 x3)
theorem s_27 (N : Nat) : SumOk Tryz.prog (laidQ q) 27 (S_27 N) := fn_x h0 (fk (s_30 N) fz) Tryz.func27 (lookOk_nil)
def f_11 (N : Nat) (x1 x2 x3 : Int) : Option (TAs [.one (.d (.int .i64)), .one (.d (.err 72))]) :=
 ((f_17 N x1 x2 x3).bind fun r4 => (bif (!(Option.isNone r4)) then (some (0, r4)) else (bif (decide ((IntKind.i64.wrap (x2 - 3)) < 0)) then ((f_38 N (IntKind.i64.wrap (x1 - 1)) 400).bind fun r5 => (bif (!(Option.isNone r5.2.2)) then (some (0, r5.2.2)) else (some ((IntKind.i64.wrap ((IntKind.i64.wrap ((IntKind.i64.wrap ((IntKind.i64.wrap ((IntKind.i64.wrap ((IntKind.i64.wrap ((IntKind.i64.wrap ((IntKind.i64.wrap (r5.1 * 146097)) + (IntKind.i64.wrap (r5.2.1 * 365)))) + (IntKind.i64.wrap (Int.tdiv r5.2.1 4)))) - (IntKind.i64.wrap (Int.tdiv r5.2.1 100)))) + (IntKind.i64.wrap (Int.tdiv (IntKind.i64.wrap ((IntKind.i64.wrap (153 * (IntKind.i64.wrap ((IntKind.i64.wrap (x2 - 3)) + 12)))) + 2)) 5)))) + x3)) - 1)) - 719468)), none)))) else ((f_38 N x1 400).bind fun r6 => (bif (!(Option.isNone r6.2.2)) then (some (0, r6.2.2)) else (some ((IntKind.i64.wrap ((IntKind.i64.wrap ((IntKind.i64.wrap ((IntKind.i64.wrap ((IntKind.i64.wrap ((IntKind.i64.wrap ((IntKind.i64.wrap ((IntKind.i64.wrap (r6.1 * 146097)) + (IntKind.i64.wrap (r6.2.1 * 365)))) + (IntKind.i64.wrap (Int.tdiv r6.2.1 4)))) - (IntKind.i64.wrap (Int.tdiv r6.2.1 100)))) + (IntKind.i64.wrap (Int.tdiv (IntKind.i64.wrap ((IntKind.i64.wrap (153 * (IntKind.i64.wrap (x2 - 3)))) + 2)) 5)))) + x3)) - 1)) - 719468)), none)))))))
def S_11 (N : Nat) : Sum := fnSum 1 0 2 [zg0] [.one (.d (.int .i64)), .one (.d (.err 72))] (fun (x1, x2, x3) => f_11 N x1 x2 x3)
theorem s_11 (N : Nat) : SumOk Tryz.prog (laidQ q) 11 (S_11 N) := fn_x h0 (fk (s_17 N) (fk (s_38 N) fz)) Tryz.func11 (lookOk_nil)
def X_12 (N : Nat) : List (Nat × Sum) := [(39, (S_39 N)), (38, (S_38 N)), (17, (S_17 N))]
theorem x_12 (N : Nat) : FnsOk Tryz.prog (laidQ q) (X_12 N) := fk (s_39 N) (fk (s_38 N) (fk (s_17 N) fz))
def sh_12_1000000 : List ShA := [.one (.d (.int .i64))]
abbrev T_12_1000000 := TAs [.one (.d (.int .i64)), .one (.ptr 160 0), zg0]
def o_12_1000000 : OutK 0 T_12_1000000 := (outOne 0 .normal [0, 2] [160] [.one (.d (.int .i64)), .one (.ptr 160 0), zg0])
def l_12_1000000 (_ : Nat) : TAs sh_12_1000000 → Option T_12_1000000 := fun y2 =>
 (some ((y2, (), (0, 0, 0))))
def L_12_1000000 (N : Nat) : LSum := loopSum [0] [] sh_12_1000000 o_12_1000000 (l_12_1000000 N)
theorem L_ok_12_1000000 (N : Nat) : SegOk Tryz.prog (laidQ q) 0 Tryz.f12.ntmps (loopAt 0 1000000 (bodyOf Tryz.f12)) (L_12_1000000 N) :=
 seg_x (cur := 0) h0 (x_12 N) (lookOk_nil)
def sh_12_1000064 : List ShA := [.one (.d (.int .i64)), .one (.ptr 160 0), zg0]
abbrev T_12_1000064 := TAs [.one (.ptr 160 0), .one (.d (.int .i64)), .one (.d (.err 72)), zg0]
def o_12_1000064 : OutK 0 T_12_1000064 := (outOne 0 .normal [2, 4, 5] [160] [.one (.ptr 160 0), .one (.d (.int .i64)), .one (.d (.err 72)), zg0])
def l_12_1000064 (N : Nat) : TAs sh_12_1000064 → Option T_12_1000064 := fun (y4, _, (y5, y6, y7)) =>
 ((f_39 N y4 719468).bind fun r8 => (some (((), r8.1, r8.2, (y5, y6, y7)))))
def L_12_1000064 (N : Nat) : LSum := loopSum [0, 2] [160] sh_12_1000064 o_12_1000064 (l_12_1000064 N)
theorem L_ok_12_1000064 (N : Nat) : SegOk Tryz.prog (laidQ q) 0 Tryz.f12.ntmps (loopAt 0 1000064 (bodyOf Tryz.f12)) (L_12_1000064 N) :=
 seg_x (cur := 0) h0 (x_12 N) (lookOk_nil)
def sh_12_1000128 : List ShA := [.one (.ptr 160 0), .one (.d (.int .i64)), .one (.d (.err 72)), zg0]
abbrev T_12_1000128 := TAs [.one (.ptr 160 0), .one (.d (.int .i64)), .one (.d (.bool)), zg0]
def o_12_1000128 : OutK 0 T_12_1000128 := (outOne 0 .normal [2, 4, 17] [160] [.one (.ptr 160 0), .one (.d (.int .i64)), .one (.d (.bool)), zg0])
def l_12_1000128 (_ : Nat) : TAs sh_12_1000128 → Option T_12_1000128 := fun (_, y10, y11, (y12, y13, y14)) =>
 (some (((), y10, (!(Option.isNone y11)), (y12, y13, y14))))
def L_12_1000128 (N : Nat) : LSum := loopSum [2, 4, 5] [160] sh_12_1000128 o_12_1000128 (l_12_1000128 N)
theorem L_ok_12_1000128 (N : Nat) : SegOk Tryz.prog (laidQ q) 0 Tryz.f12.ntmps (loopAt 0 1000128 (bodyOf Tryz.f12)) (L_12_1000128 N) :=
 seg_x (cur := 0) h0 (x_12 N) (lookOk_nil)
def sh_12_1000256 : List ShA := [.one (.ptr 160 0), .one (.d (.int .i64)), zg0]
abbrev T_12_1000256 := TAs [.one (.ptr 160 0), .one (.d (.err 72)), .one (.d (.int .i64)), .one (.d (.int .i64)), zg0]
def o_12_1000256 : OutK 0 T_12_1000256 := (outOne 0 .normal [2, 5, 6, 7] [160] [.one (.ptr 160 0), .one (.d (.err 72)), .one (.d (.int .i64)), .one (.d (.int .i64)), zg0])
def l_12_1000256 (N : Nat) : TAs sh_12_1000256 → Option T_12_1000256 := fun (_, y16, (y17, y18, y19)) =>
 ((f_38 N y16 146097).bind fun r20 => (some (((), r20.2.2, r20.1, r20.2.1, (y17, y18, y19)))))
def L_12_1000256 (N : Nat) : LSum := loopSum [2, 4] [160] sh_12_1000256 o_12_1000256 (l_12_1000256 N)
theorem L_ok_12_1000256 (N : Nat) : SegOk Tryz.prog (laidQ q) 0 Tryz.f12.ntmps (loopAt 0 1000256 (bodyOf Tryz.f12)) (L_12_1000256 N) :=
 seg_x (cur := 0) h0 (x_12 N) (lookOk_nil)
def sh_12_1000320 : List ShA := [.one (.ptr 160 0), .one (.d (.err 72)), .one (.d (.int .i64)), .one (.d (.int .i64)), zg0]
abbrev T_12_1000320 := TAs [.one (.ptr 160 0), .one (.d (.int .i64)), .one (.d (.int .i64)), .one (.d (.bool)), zg0]
def o_12_1000320 : OutK 0 T_12_1000320 := (outOne 0 .normal [2, 6, 7, 31] [160] [.one (.ptr 160 0), .one (.d (.int .i64)), .one (.d (.int .i64)), .one (.d (.bool)), zg0])
def l_12_1000320 (_ : Nat) : TAs sh_12_1000320 → Option T_12_1000320 := fun (_, y22, y23, y24, (y25, y26, y27)) =>
 (bif (!(Option.isNone y22)) then (some (((), y23, y24, true, (y25, y26, y27)))) else (some (((), y23, y24, (decide (y23 > 9999)), (y25, y26, y27)))))
def L_12_1000320 (N : Nat) : LSum := loopSum [2, 5, 6, 7] [160] sh_12_1000320 o_12_1000320 (l_12_1000320 N)
theorem L_ok_12_1000320 (N : Nat) : SegOk Tryz.prog (laidQ q) 0 Tryz.f12.ntmps (loopAt 0 1000320 (bodyOf Tryz.f12)) (L_12_1000320 N) :=
 seg_x (cur := 0) h0 (x_12 N) (lookOk_nil)
def sh_12_1000448 : List ShA := [.one (.ptr 160 0), .one (.d (.int .i64)), .one (.d (.int .i64)), zg0]
abbrev T_12_1000448 := TAs [.one (.ptr 160 0), .one (.d (.int .i64)), .one (.d (.int .i64)), .one (.d (.int .i64)), zg0]
def o_12_1000448 : OutK 0 T_12_1000448 := (outOne 0 .normal [2, 6, 7, 8] [160] [.one (.ptr 160 0), .one (.d (.int .i64)), .one (.d (.int .i64)), .one (.d (.int .i64)), zg0])
def l_12_1000448 (_ : Nat) : TAs sh_12_1000448 → Option T_12_1000448 := fun (_, y29, y30, (y31, y32, y33)) =>
 (some (((), y29, y30, (IntKind.i64.wrap (Int.tdiv (IntKind.i64.wrap ((IntKind.i64.wrap ((IntKind.i64.wrap (y30 - (IntKind.i64.wrap (Int.tdiv y30 1460)))) + (IntKind.i64.wrap (Int.tdiv y30 36524)))) - (IntKind.i64.wrap (Int.tdiv y30 146096)))) 365)), (y31, y32, y33))))
def L_12_1000448 (N : Nat) : LSum := loopSum [2, 6, 7] [160] sh_12_1000448 o_12_1000448 (l_12_1000448 N)
theorem L_ok_12_1000448 (N : Nat) : SegOk Tryz.prog (laidQ q) 0 Tryz.f12.ntmps (loopAt 0 1000448 (bodyOf Tryz.f12)) (L_12_1000448 N) :=
 seg_x (cur := 0) h0 (x_12 N) (lookOk_nil)
def sh_12_1000512 : List ShA := [.one (.ptr 160 0), .one (.d (.int .i64)), .one (.d (.int .i64)), .one (.d (.int .i64)), zg0]
abbrev T_12_1000512 := TAs [.one (.ptr 160 0), .one (.d (.int .i64)), .one (.d (.int .i64)), .one (.d (.int .i64)), zg0]
def o_12_1000512 : OutK 0 T_12_1000512 := (outOne 0 .normal [2, 6, 7, 8] [160] [.one (.ptr 160 0), .one (.d (.int .i64)), .one (.d (.int .i64)), .one (.d (.int .i64)), zg0])
def l_12_1000512 (_ : Nat) : TAs sh_12_1000512 → Option T_12_1000512 := fun (_, y35, y36, y37, (y38, y39, y40)) =>
 (some (((), y35, (IntKind.i64.wrap (y36 - (IntKind.i64.wrap ((IntKind.i64.wrap ((IntKind.i64.wrap (365 * y37)) + (IntKind.i64.wrap (Int.tdiv y37 4)))) - (IntKind.i64.wrap (Int.tdiv y37 100)))))), y37, (y38, y39, y40))))
def L_12_1000512 (N : Nat) : LSum := loopSum [2, 6, 7, 8] [160] sh_12_1000512 o_12_1000512 (l_12_1000512 N)
theorem L_ok_12_1000512 (N : Nat) : SegOk Tryz.prog (laidQ q) 0 Tryz.f12.ntmps (loopAt 0 1000512 (bodyOf Tryz.f12)) (L_12_1000512 N) :=
 seg_x (cur := 0) h0 (x_12 N) (lookOk_nil)
def sh_12_1000576 : List ShA := [.one (.ptr 160 0), .one (.d (.int .i64)), .one (.d (.int .i64)), .one (.d (.int .i64)), zg0]
abbrev T_12_1000576 := TAs [.one (.ptr 160 0), .one (.d (.int .i64)), .one (.d (.int .i64)), .one (.d (.int .i64)), .one (.d (.int .i64)), zg0]
def o_12_1000576 : OutK 0 T_12_1000576 := (outOne 0 .normal [2, 6, 7, 8, 9] [160] [.one (.ptr 160 0), .one (.d (.int .i64)), .one (.d (.int .i64)), .one (.d (.int .i64)), .one (.d (.int .i64)), zg0])
def l_12_1000576 (_ : Nat) : TAs sh_12_1000576 → Option T_12_1000576 := fun (_, y42, y43, y44, (y45, y46, y47)) =>
 (some (((), y42, y43, y44, (IntKind.i64.wrap (Int.tdiv (IntKind.i64.wrap ((IntKind.i64.wrap (5 * y43)) + 2)) 153)), (y45, y46, y47))))
def L_12_1000576 (N : Nat) : LSum := loopSum [2, 6, 7, 8] [160] sh_12_1000576 o_12_1000576 (l_12_1000576 N)
theorem L_ok_12_1000576 (N : Nat) : SegOk Tryz.prog (laidQ q) 0 Tryz.f12.ntmps (loopAt 0 1000576 (bodyOf Tryz.f12)) (L_12_1000576 N) :=
 seg_x (cur := 0) h0 (x_12 N) (lookOk_nil)
def sh_12_1000640 : List ShA := [.one (.ptr 160 0), .one (.d (.int .i64)), .one (.d (.int .i64)), .one (.d (.int .i64)), .one (.d (.int .i64)), zg0]
abbrev T_12_1000640 := TAs [.one (.ptr 160 0), .one (.ptr 288 0), zg0, zg0]
def o_12_1000640 : OutK 0 T_12_1000640 := (outOne 0 .normal [2, 10] [160, 288] [.one (.ptr 160 0), .one (.ptr 288 0), zg0, zg0])
def l_12_1000640 (_ : Nat) : TAs sh_12_1000640 → Option T_12_1000640 := fun (_, y49, y50, y51, y52, (y53, y54, y55)) =>
 (some (((), (), (y53, y54, y55), ((IntKind.i64.wrap ((IntKind.i64.wrap ((IntKind.i64.wrap (400 * y49)) + y51)) + (IntKind.i64.wrap (Int.tdiv y52 10)))), (IntKind.i64.wrap ((Int.tmod (IntKind.i64.wrap (y52 + 2)) 12) + 1)), (IntKind.i64.wrap ((IntKind.i64.wrap (y50 - (IntKind.i64.wrap (Int.tdiv (IntKind.i64.wrap ((IntKind.i64.wrap (153 * y52)) + 2)) 5)))) + 1))))))
def L_12_1000640 (N : Nat) : LSum := loopSum [2, 6, 7, 8, 9] [160] sh_12_1000640 o_12_1000640 (l_12_1000640 N)
theorem L_ok_12_1000640 (N : Nat) : SegOk Tryz.prog (laidQ q) 0 Tryz.f12.ntmps (loopAt 0 1000640 (bodyOf Tryz.f12)) (L_12_1000640 N) :=
 seg_x (cur := 0) h0 (x_12 N) (lookOk_nil)
def sh_12_1000704 : List ShA := [.one (.ptr 160 0), .one (.ptr 288 0), zg0, zg0]
abbrev T_12_1000704 := TAs [.one (.ptr 160 0), .one (.ptr 288 0), .one (.d (.bool)), zg0, zg0]
def o_12_1000704 : OutK 0 T_12_1000704 := (outOne 0 .normal [2, 10, 80] [160, 288] [.one (.ptr 160 0), .one (.ptr 288 0), .one (.d (.bool)), zg0, zg0])
def l_12_1000704 (N : Nat) : TAs sh_12_1000704 → Option T_12_1000704 := fun (_, _, (y57, y58, y59), (y60, y61, y62)) =>
 ((f_17 N y60 y61 y62).bind fun r63 => (some (((), (), (!(Option.isNone r63)), (y57, y58, y59), (y60, y61, y62)))))
def L_12_1000704 (N : Nat) : LSum := loopSum [2, 10] [160, 288] sh_12_1000704 o_12_1000704 (l_12_1000704 N)
theorem L_ok_12_1000704 (N : Nat) : SegOk Tryz.prog (laidQ q) 0 Tryz.f12.ntmps (loopAt 0 1000704 (bodyOf Tryz.f12)) (L_12_1000704 N) :=
 seg_x (cur := 0) h0 (x_12 N) (lookOk_nil)
def f_12 (N : Nat) (x1 : Int) : Option (TAs [zg0, .one (.d (.err 72))]) :=
 ((l_12_1000000 N x1).bind fun q3 => ((l_12_1000064 N (q3.1, (), (q3.2.2.1, q3.2.2.2.1, q3.2.2.2.2))).bind fun q9 => ((l_12_1000128 N ((), q9.2.1, q9.2.2.1, (q9.2.2.2.1, q9.2.2.2.2.1, q9.2.2.2.2.2))).bind fun q15 => (bif q15.2.2.1 then (some ((0, 0, 0), (some 2))) else ((l_12_1000256 N ((), q15.2.1, (q15.2.2.2.1, q15.2.2.2.2.1, q15.2.2.2.2.2))).bind fun q21 => ((l_12_1000320 N ((), q21.2.1, q21.2.2.1, q21.2.2.2.1, (q21.2.2.2.2.1, q21.2.2.2.2.2.1, q21.2.2.2.2.2.2))).bind fun q28 => (bif q28.2.2.2.1 then (some ((0, 0, 0), (some 2))) else ((l_12_1000448 N ((), q28.2.1, q28.2.2.1, (q28.2.2.2.2.1, q28.2.2.2.2.2.1, q28.2.2.2.2.2.2))).bind fun q34 => ((l_12_1000512 N ((), q34.2.1, q34.2.2.1, q34.2.2.2.1, (q34.2.2.2.2.1, q34.2.2.2.2.2.1, q34.2.2.2.2.2.2))).bind fun q41 => ((l_12_1000576 N ((), q41.2.1, q41.2.2.1, q41.2.2.2.1, (q41.2.2.2.2.1, q41.2.2.2.2.2.1, q41.2.2.2.2.2.2))).bind fun q48 => ((l_12_1000640 N ((), q48.2.1, q48.2.2.1, q48.2.2.2.1, q48.2.2.2.2.1, (q48.2.2.2.2.2.1, q48.2.2.2.2.2.2.1, q48.2.2.2.2.2.2.2))).bind fun q56 => ((l_12_1000704 N ((), (), (q56.2.2.1.1, q56.2.2.1.2.1, q56.2.2.1.2.2), (q56.2.2.2.1, q56.2.2.2.2.1, q56.2.2.2.2.2))).bind fun q64 => (bif q64.2.2.1 then (some ((0, 0, 0), (some 2))) else (some ((q64.2.2.2.2.1, q64.2.2.2.2.2.1, q64.2.2.2.2.2.2), none)))))))))))))))
def S_12 (N : Nat) : Sum := fnSum 1 0 2 [.one (.d (.int .i64))] [zg0, .one (.d (.err 72))] (fun x1 => f_12 N x1)
theorem s_12 (N : Nat) : SumOk Tryz.prog (laidQ q) 12 (S_12 N) := fn_x h0 (x_12 N) Tryz.func12 ((lookOk_cons (L_ok_12_1000000 N) (lookOk_cons (L_ok_12_1000064 N) (lookOk_cons (L_ok_12_1000128 N) (lookOk_cons (L_ok_12_1000256 N) (lookOk_cons (L_ok_12_1000320 N) (lookOk_cons (L_ok_12_1000448 N) (lookOk_cons (L_ok_12_1000512 N) (lookOk_cons (L_ok_12_1000576 N) (lookOk_cons (L_ok_12_1000640 N) (lookOk_cons (L_ok_12_1000704 N) lookOk_nil)))))))))))
def f_34 (N : Nat) (x1 x2 x3 : Int) : Option (TAs [.one (.d (.str)), .one (.d (.err 72))]) :=
 ((f_28 N x2).bind fun r4 => (bif (!(Option.isNone r4.2)) then (some (⟨#[]⟩, (some 1))) else (bif (decide (x3 < 0)) then (some (⟨#[]⟩, (some 1))) else (bif (decide (x3 ≥ 1000000000)) then (some (⟨#[]⟩, (some 1))) else ((f_12 N x1).bind fun r5 => (bif (!(Option.isNone r5.2)) then (some (⟨#[]⟩, r5.2)) else ((f_21 N r5.1.1 r5.1.2.1 r5.1.2.2).bind fun r6 => (bif (!(Option.isNone r6.2)) then (some (⟨#[]⟩, r6.2)) else (bif (decide (((ByteArray.size r6.1 + ByteArray.size (⟨#[84]⟩ : ByteArray) : Nat) : Int) > 9223372036854775807)) then none else ((f_47 N r4.1.1 2).bind fun r7 => (bif (decide (((ByteArray.size (r6.1 ++ (⟨#[84]⟩ : ByteArray)) + ByteArray.size r7 : Nat) : Int) > 9223372036854775807)) then none else (bif (decide (((ByteArray.size ((r6.1 ++ (⟨#[84]⟩ : ByteArray)) ++ r7) + ByteArray.size (⟨#[58]⟩ : ByteArray) : Nat) : Int) > 9223372036854775807)) then none else ((f_47 N r4.1.2.1 2).bind fun r8 => (bif (decide (((ByteArray.size (((r6.1 ++ (⟨#[84]⟩ : ByteArray)) ++ r7) ++ (⟨#[58]⟩ : ByteArray)) + ByteArray.size r8 : Nat) : Int) > 9223372036854775807)) then none else (bif (decide (((ByteArray.size ((((r6.1 ++ (⟨#[84]⟩ : ByteArray)) ++ r7) ++ (⟨#[58]⟩ : ByteArray)) ++ r8) + ByteArray.size (⟨#[58]⟩ : ByteArray) : Nat) : Int) > 9223372036854775807)) then none else ((f_47 N r4.1.2.2 2).bind fun r9 => (bif (decide (((ByteArray.size (((((r6.1 ++ (⟨#[84]⟩ : ByteArray)) ++ r7) ++ (⟨#[58]⟩ : ByteArray)) ++ r8) ++ (⟨#[58]⟩ : ByteArray)) + ByteArray.size r9 : Nat) : Int) > 9223372036854775807)) then none else (bif (decide (((ByteArray.size ((((((r6.1 ++ (⟨#[84]⟩ : ByteArray)) ++ r7) ++ (⟨#[58]⟩ : ByteArray)) ++ r8) ++ (⟨#[58]⟩ : ByteArray)) ++ r9) + ByteArray.size (⟨#[46]⟩ : ByteArray) : Nat) : Int) > 9223372036854775807)) then none else ((f_47 N x3 9).bind fun r10 => (bif (decide (((ByteArray.size (((((((r6.1 ++ (⟨#[84]⟩ : ByteArray)) ++ r7) ++ (⟨#[58]⟩ : ByteArray)) ++ r8) ++ (⟨#[58]⟩ : ByteArray)) ++ r9) ++ (⟨#[46]⟩ : ByteArray)) + ByteArray.size r10 : Nat) : Int) > 9223372036854775807)) then none else (some (((((((((r6.1 ++ (⟨#[84]⟩ : ByteArray)) ++ r7) ++ (⟨#[58]⟩ : ByteArray)) ++ r8) ++ (⟨#[58]⟩ : ByteArray)) ++ r9) ++ (⟨#[46]⟩ : ByteArray)) ++ r10), none))))))))))))))))))))))
def S_34 (N : Nat) : Sum := fnSum 3 0 2 [.one (.d (.int .i64)), .one (.d (.int .i64)), .one (.d (.int .i64))] [.one (.d (.str)), .one (.d (.err 72))] (fun (x1, x2, x3) => f_34 N x1 x2 x3)
theorem s_34 (N : Nat) : SumOk Tryz.prog (laidQ q) 34 (S_34 N) := fn_x h0 (fk (s_28 N) (fk (s_12 N) (fk (s_21 N) (fk (s_47 N) fz)))) Tryz.func34 (lookOk_nil)
def f_36 (N : Nat) (x1 : ByteArray) : Option (TAs [.one (.d (.int .i64)), .one (.d (.int .i64)), .one (.d (.int .i64)), .one (.d (.err 72))]) :=
 (bif ((ByteArray.size x1 : Int) != 29) then (some (0, 0, 0, (some 3))) else (bif (decide (0 ≤ (10 : Int) ∧ (10 : Int) ≤ (ByteArray.size x1 : Int))) then (bif (decide (0 ≤ (0 : Int) ∧ (0 : Int) ≤ (10 : Int))) then ((f_22 N (ByteArray.extract x1 (Int.toNat (0 : Int)) (Int.toNat (10 : Int)))).bind fun r2 => (bif (!(Option.isNone r2.2)) then (some (0, 0, 0, r2.2)) else ((f_11 N r2.1.1 r2.1.2.1 r2.1.2.2).bind fun r3 => (bif (!(Option.isNone r3.2)) then (some (0, 0, 0, (some 3))) else (bif (decide (0 ≤ (13 : Int) ∧ (13 : Int) ≤ (ByteArray.size x1 : Int))) then (bif (decide (0 ≤ (11 : Int) ∧ (11 : Int) ≤ (13 : Int))) then ((f_48 N (ByteArray.extract x1 (Int.toNat (11 : Int)) (Int.toNat (13 : Int)))).bind fun r4 => (bif (decide (0 ≤ (16 : Int) ∧ (16 : Int) ≤ (ByteArray.size x1 : Int))) then (bif (decide (0 ≤ (14 : Int) ∧ (14 : Int) ≤ (16 : Int))) then ((f_48 N (ByteArray.extract x1 (Int.toNat (14 : Int)) (Int.toNat (16 : Int)))).bind fun r5 => (bif (decide (0 ≤ (19 : Int) ∧ (19 : Int) ≤ (ByteArray.size x1 : Int))) then (bif (decide (0 ≤ (17 : Int) ∧ (17 : Int) ≤ (19 : Int))) then ((f_48 N (ByteArray.extract x1 (Int.toNat (17 : Int)) (Int.toNat (19 : Int)))).bind fun r6 => ((f_27 N r4 r5 r6).bind fun r7 => (bif (!(Option.isNone r7.2)) then (some (0, 0, 0, (some 3))) else (bif (decide (0 ≤ (ByteArray.size x1 : Int) ∧ (ByteArray.size x1 : Int) ≤ (ByteArray.size x1 : Int))) then (bif (decide (0 ≤ (20 : Int) ∧ (20 : Int) ≤ (ByteArray.size x1 : Int))) then ((f_48 N (ByteArray.extract x1 (Int.toNat (20 : Int)) (Int.toNat (ByteArray.size x1 : Int)))).bind fun r8 => ((f_34 N r3.1 r7.1 r8).bind fun r9 => (bif (!(Option.isNone r9.2)) then (some (0, 0, 0, (some 3))) else (bif (!((ByteArray.toList r9.1) == (ByteArray.toList x1))) then (some (0, 0, 0, (some 3))) else (some (r3.1, r7.1, r8, none)))))) else none) else none)))) else none) else none)) else none) else none)) else none) else none))))) else none) else none))
def S_36 (N : Nat) : Sum := fnSum 1 0 4 [.one (.d (.str))] [.one (.d (.int .i64)), .one (.d (.int .i64)), .one (.d (.int .i64)), .one (.d (.err 72))] (fun x1 => f_36 N x1)
theorem s_36 (N : Nat) : SumOk Tryz.prog (laidQ q) 36 (S_36 N) := fn_x h0 (fk (s_22 N) (fk (s_11 N) (fk (s_48 N) (fk (s_27 N) (fk (s_34 N) fz))))) Tryz.func36 (lookOk_nil)
def f_32 (N : Nat) : Option (TAs [.one (.d (.bool))]) :=
 ((f_34 N 0 3661 0).bind fun r1 => ((f_36 N (⟨#[50, 48, 49, 54, 45, 49, 50, 45, 51, 49, 84, 50, 51, 58, 53, 57, 58, 54, 48, 46, 53, 48, 48, 48, 48, 48, 48, 48, 48]⟩)).bind fun r2 => ((f_28 N 86401).bind fun r3 => (bif (Option.isNone r1.2) then (bif (Option.isNone r2.2.2.2) then (bif ((ByteArray.toList r1.1) == (ByteArray.toList (⟨#[49, 57, 55, 48, 45, 48, 49, 45, 48, 49, 84, 48, 49, 58, 48, 49, 58, 48, 49, 46, 48, 48, 48, 48, 48, 48, 48, 48, 48]⟩ : ByteArray))) then (bif (r2.1 == 17166) then (bif (r2.2.1 == 86400) then (bif (r2.2.2.1 == 500000000) then ((f_31 N r3.2).bind fun r4 => (some (r4 == 1))) else (some false)) else (some false)) else (some false)) else (some false)) else (some false)) else (some false)))))
def S_32 (N : Nat) : Sum := fnSum 0 0 1 [] [.one (.d (.bool))] (fun _ => f_32 N)
theorem s_32 (N : Nat) : SumOk Tryz.prog (laidQ q) 32 (S_32 N) := fn_x h0 (fk (s_34 N) (fk (s_36 N) (fk (s_28 N) (fk (s_31 N) fz)))) Tryz.func32 (lookOk_nil)
def f_8 (N : Nat) (x1 x2 : List Int) : Option (TAs [.one (.d (.bool))]) :=
 ((f_34 N (List.getD x1 (Int.toNat 0) 0) (List.getD x1 (Int.toNat 1) 0) (List.getD x1 (Int.toNat 2) 0)).bind fun r3 => ((f_34 N (List.getD x2 (Int.toNat 0) 0) (List.getD x2 (Int.toNat 1) 0) (List.getD x2 (Int.toNat 2) 0)).bind fun r4 => (bif (!(Option.isNone r3.2)) then (bif (Option.isNone r3.2) then ((f_32 N).bind fun r5 => (some r5)) else (bif ((ByteArray.toList r3.1) == (ByteArray.toList (⟨#[]⟩ : ByteArray))) then ((f_32 N).bind fun r6 => (some r6)) else (some false))) else (bif (!(Option.isNone r4.2)) then (bif (Option.isNone r3.2) then ((f_32 N).bind fun r7 => (some r7)) else (bif ((ByteArray.toList r3.1) == (ByteArray.toList (⟨#[]⟩ : ByteArray))) then ((f_32 N).bind fun r8 => (some r8)) else (some false))) else ((f_36 N r3.1).bind fun r9 => (bif (decide ((List.getD x1 (Int.toNat 0) 0) < (List.getD x2 (Int.toNat 0) 0))) then (bif (Option.isNone r9.2.2.2) then (bif (r9.1 == (List.getD x1 (Int.toNat 0) 0)) then (bif (r9.2.1 == (List.getD x1 (Int.toNat 1) 0)) then (bif (r9.2.2.1 == (List.getD x1 (Int.toNat 2) 0)) then (bif ((Op.bytesLess (ByteArray.toList r3.1) (ByteArray.toList r4.1)) == true) then (bif (((ByteArray.toList r3.1) == (ByteArray.toList r4.1)) == (x1 == x2)) then ((f_32 N).bind fun r10 => (some r10)) else (some false)) else (some false)) else (some false)) else (some false)) else (some false)) else (some false)) else (bif ((List.getD x1 (Int.toNat 0) 0) == (List.getD x2 (Int.toNat 0) 0)) then (bif (decide ((List.getD x1 (Int.toNat 1) 0) < (List.getD x2 (Int.toNat 1) 0))) then (bif (Option.isNone r9.2.2.2) then (bif (r9.1 == (List.getD x1 (Int.toNat 0) 0)) then (bif (r9.2.1 == (List.getD x1 (Int.toNat 1) 0)) then (bif (r9.2.2.1 == (List.getD x1 (Int.toNat 2) 0)) then (bif ((Op.bytesLess (ByteArray.toList r3.1) (ByteArray.toList r4.1)) == true) then (bif (((ByteArray.toList r3.1) == (ByteArray.toList r4.1)) == (x1 == x2)) then ((f_32 N).bind fun r11 => (some r11)) else (some false)) else (some false)) else (some false)) else (some false)) else (some false)) else (some false)) else (bif ((List.getD x1 (Int.toNat 1) 0) == (List.getD x2 (Int.toNat 1) 0)) then (bif (Option.isNone r9.2.2.2) then (bif (r9.1 == (List.getD x1 (Int.toNat 0) 0)) then (bif (r9.2.1 == (List.getD x1 (Int.toNat 1) 0)) then (bif (r9.2.2.1 == (List.getD x1 (Int.toNat 2) 0)) then (bif ((Op.bytesLess (ByteArray.toList r3.1) (ByteArray.toList r4.1)) == (decide ((List.getD x1 (Int.toNat 2) 0) < (List.getD x2 (Int.toNat 2) 0)))) then (bif (((ByteArray.toList r3.1) == (ByteArray.toList r4.1)) == (x1 == x2)) then ((f_32 N).bind fun r12 => (some r12)) else (some false)) else (some false)) else (some false)) else (some false)) else (some false)) else (some false)) else (bif (Option.isNone r9.2.2.2) then (bif (r9.1 == (List.getD x1 (Int.toNat 0) 0)) then (bif (r9.2.1 == (List.getD x1 (Int.toNat 1) 0)) then (bif (r9.2.2.1 == (List.getD x1 (Int.toNat 2) 0)) then (bif ((Op.bytesLess (ByteArray.toList r3.1) (ByteArray.toList r4.1)) == false) then (bif (((ByteArray.toList r3.1) == (ByteArray.toList r4.1)) == (x1 == x2)) then ((f_32 N).bind fun r13 => (some r13)) else (some false)) else (some false)) else (some false)) else (some false)) else (some false)) else (some false)))) else (bif (Option.isNone r9.2.2.2) then (bif (r9.1 == (List.getD x1 (Int.toNat 0) 0)) then (bif (r9.2.1 == (List.getD x1 (Int.toNat 1) 0)) then (bif (r9.2.2.1 == (List.getD x1 (Int.toNat 2) 0)) then (bif ((Op.bytesLess (ByteArray.toList r3.1) (ByteArray.toList r4.1)) == false) then (bif (((ByteArray.toList r3.1) == (ByteArray.toList r4.1)) == (x1 == x2)) then ((f_32 N).bind fun r14 => (some r14)) else (some false)) else (some false)) else (some false)) else (some false)) else (some false)) else (some false)))))))))
def S_8 (N : Nat) : Sum := fnSum 2 0 1 [.agg [.d (.arr .i64 3)], .agg [.d (.arr .i64 3)]] [.one (.d (.bool))] (fun (x1, x2) => f_8 N x1 x2)
theorem s_8 (N : Nat) : SumOk Tryz.prog (laidQ q) 8 (S_8 N) := fn_x h0 (fk (s_34 N) (fk (s_32 N) (fk (s_36 N) fz))) Tryz.func8 (lookOk_nil)
end
end Go.Proofs.YtgkanacfffilmaaGreatDoor.Mir
namespace Go.Proofs.YtgkanacfffilmaaGreatDoor.Mir
open Go Go.RowKit
set_option maxRecDepth 100000
def rB (s : Int) : Bool := decide (-9223372036854775808 ≤ s ∧ s < 9223372036854775808)
def fit64 (s : Int) : Int × Option Int := bif rB s then (s, none) else (0, some 2)
theorem rB_t {s : Int} (h : R64 s) : rB s = true := decide_eq_true h
theorem rB_f {s : Int} (h : ¬ R64 s) : rB s = false := decide_eq_false h
theorem nadd_at (N : Nat) {a b : Int} (ha : R64 a) (hb : R64 b) : f_39 N a b = some (fit64 (a + b)) := by
 obtain ⟨a1, a2⟩ := ha
 obtain ⟨b1, b2⟩ := hb
 unfold f_39 fit64 rB
 by_cases h : -9223372036854775808 ≤ a + b ∧ a + b < 9223372036854775808
 ·rw [wi64 h.1 h.2, decide_eq_true h, show decide (a + b < a) = decide (b < 0) from decide_eq_decide.2 (by omega)]
  simp
 ·rw [decide_eq_false h]
  rcases (show a + b ≥ 9223372036854775808 ∨ a + b < -9223372036854775808 by omega) with h1 | h1
  ·have e : IntKind.i64.wrap (a + b) = a + b - 18446744073709551616 := by rw [IntKind.wrap_i64]; omega
   rw [e, decide_eq_true (show a + b - 18446744073709551616 < a by omega), decide_eq_false (show ¬ b < 0 by omega)]; rfl
  ·have e : IntKind.i64.wrap (a + b) = a + b + 18446744073709551616 := by rw [IntKind.wrap_i64]; omega
   rw [e, decide_eq_false (show ¬ a + b + 18446744073709551616 < a by omega), decide_eq_true (show b < 0 by omega)]; rfl
theorem tmod_rng {a b : Int} (hb : 0 < b) : -b < Int.tmod a b ∧ Int.tmod a b < b ∧ (0 ≤ a → 0 ≤ Int.tmod a b) ∧ (a ≤ 0 → Int.tmod a b ≤ 0) := by
 rcases Int.lt_or_le a 0 with h | h
 ·have a1 := Int.tmod_nonneg b (show 0 ≤ -a by omega)
  have a2 := Int.tmod_lt_of_pos (-a) hb
  rw [Int.neg_tmod] at a1 a2
  exact ⟨by omega, by omega, fun h' => by omega, fun _ => by omega⟩
 ·have a1 := Int.tmod_nonneg b h
  have a2 := Int.tmod_lt_of_pos a hb
  refine ⟨by omega, by omega, fun _ => a1, fun h' => ?_⟩
  obtain rfl : a = 0 := by omega
  simp
theorem floor_t {a b : Int} (hb : 0 < b) : a / b = (if Int.tmod a b < 0 then Int.tdiv a b - 1 else Int.tdiv a b) ∧ a % b = (if Int.tmod a b < 0 then Int.tmod a b + b else Int.tmod a b) := by
 have e := Int.mul_tdiv_add_tmod a b
 obtain ⟨l1, l2, _⟩ := tmod_rng (a := a) hb
 split
 ·exact (Int.ediv_emod_unique hb).2 ⟨by rw [Int.mul_sub, Int.mul_one]; omega, by omega, by omega⟩
 ·exact (Int.ediv_emod_unique hb).2 ⟨by omega, by omega, by omega⟩
theorem fdiv_rng {a b : Int} (hb : 1 ≤ b) : (0 ≤ a → 0 ≤ a / b ∧ a / b ≤ a) ∧ (a < 0 → a ≤ a / b ∧ a / b < 0) := by
 have e := Int.mul_ediv_add_emod a b
 have e1 := Int.emod_nonneg a (show b ≠ 0 by omega)
 have e2 := Int.emod_lt_of_pos a (show 0 < b by omega)
 refine ⟨fun h => ⟨Int.ediv_nonneg h (by omega), Int.ediv_le_self b h⟩, fun h => ⟨?_, Int.ediv_neg_of_neg_of_pos h (by omega)⟩⟩
 refine Int.le_ediv_of_mul_le (by omega) ?_
 have := Int.mul_le_mul_of_nonpos_left (show a ≤ 0 by omega) hb
 omega
theorem ndiv_at (N : Nat) {a b : Int} (ha : R64 a) (hb : 1 ≤ b) (hb2 : b < 9223372036854775808) : f_38 N a b = some (a / b, a % b, none) := by
 obtain ⟨a1, a2⟩ := ha
 obtain ⟨f1, f2⟩ := floor_t (a := a) (b := b) (by omega)
 obtain ⟨g1, g2⟩ := fdiv_rng (a := a) hb
 obtain ⟨l1, l2, l3, l4⟩ := tmod_rng (a := a) (b := b) (by omega)
 unfold f_38
 rw [decide_eq_false (show ¬ b < 1 by omega), decide_eq_false (show ¬ b = 0 by omega)]
 simp only [cond_false]
 by_cases h : Int.tmod a b < 0
 ·rw [if_pos h] at f1 f2
  have h0 : a < 0 := by
   rcases Int.lt_or_le a 0 with h0 | h0
   ·exact h0
   ·have := l3 h0; omega
  have g := g2 h0
  rw [decide_eq_true h, wi64 (n := Int.tdiv a b) (by omega) (by omega), wi64 (n := Int.tdiv a b - 1) (by omega) (by omega), wi64 (n := Int.tmod a b + b) (by omega) (by omega), f1, f2]; rfl
 ·rw [if_neg h] at f1 f2
  rw [decide_eq_false h, wi64 (n := Int.tdiv a b) (by omega) (by omega), f1, f2]; rfl
end Go.Proofs.YtgkanacfffilmaaGreatDoor.Mir
namespace Go.Proofs.YtgkanacfffilmaaGreatDoor.Mir
open Go Go.RowKit
set_option maxRecDepth 100000
theorem tmodB (y k : Int) : (Int.tmod y k == 0) = decide (y % k = 0) := by
 by_cases h : y % k = 0
 ·rw [decide_eq_true h, Int.tmod_eq_zero_of_dvd (Int.dvd_of_emod_eq_zero h)]; rfl
 ·rw [decide_eq_false h]
  exact beq_eq_false_iff_ne.2 (fun e => h (Int.emod_eq_zero_of_dvd (Int.dvd_of_tmod_eq_zero e)))
theorem tmodN (y k : Int) : (Int.tmod y k != 0) = !decide (y % k = 0) := by rw [← tmodB]; rfl
theorem cleap_at (N : Nat) (y : Int) : f_15 N y = some (decide (Leap y)) := by
 unfold f_15 Leap
 rw [tmodB, tmodB, tmodN]
 by_cases h4 : y % 4 = 0 <;> by_cases h1 : y % 100 = 0 <;> by_cases h2 : y % 400 = 0 <;> simp [h4, h1, h2]
theorem twelve {m : Int} (h : ¬ (m < 1 ∨ 12 < m)) : m = 1 ∨ m = 2 ∨ m = 3 ∨ m = 4 ∨ m = 5 ∨ m = 6 ∨ m = 7 ∨ m = 8 ∨ m = 9 ∨ m = 10 ∨ m = 11 ∨ m = 12 := by omega
theorem cmonth_at (N : Nat) (y m : Int) : f_13 N y m = some (lenM y m) := by
 unfold f_13 lenM
 by_cases h : m < 1 ∨ 12 < m
 ·have e : ∀ k : Int, 1 ≤ k → k ≤ 12 → (m == k) = false := fun k a b => beq_eq_false_iff_ne.2 (by omega)
  rw [if_pos h, e 1 (by decide) (by decide), e 3 (by decide) (by decide), e 5 (by decide) (by decide), e 7 (by decide) (by decide), e 8 (by decide) (by decide), e 10 (by decide) (by decide), e 12 (by decide) (by decide), e 4 (by decide) (by decide), e 6 (by decide) (by decide), e 9 (by decide) (by decide), e 11 (by decide) (by decide), e 2 (by decide) (by decide)]
  rfl
 ·rw [if_neg h, cleap_at]
  by_cases L : Leap y <;> simp only [L, decide_true, decide_false, if_true, if_false] <;> (rcases twelve h with rfl | rfl | rfl | rfl | rfl | rfl | rfl | rfl | rfl | rfl | rfl | rfl <;> rfl)
theorem cchk_at (N : Nat) (y m d : Int) : f_17 N y m d = some (if MayD y m d then none else some 1) := by
 unfold f_17
 rw [cmonth_at]
 simp only [Option.bind_some]
 by_cases h1 : y < 1
 ·rw [decide_eq_true h1, if_neg (fun h : MayD y m d => by have := h.1; omega)]; rfl
 ·rw [decide_eq_false h1]
  by_cases h2 : y > 9999
  ·rw [decide_eq_true h2, if_neg (fun h : MayD y m d => by have := h.2.1; omega)]; rfl
  ·rw [decide_eq_false h2]
   by_cases h3 : d < 1
   ·rw [decide_eq_true h3, if_neg (fun h : MayD y m d => by have := h.2.2.1; omega)]; rfl
   ·rw [decide_eq_false h3]
    by_cases h4 : d > lenM y m
    ·rw [decide_eq_true h4, if_neg (fun h : MayD y m d => by have := h.2.2.2; omega)]; rfl
    ·rw [decide_eq_false h4, if_pos (show MayD y m d from ⟨by omega, by omega, by omega, by omega⟩)]; rfl
theorem tdivN {a b : Int} (h : 0 ≤ a) : Int.tdiv a b = a / b := Int.tdiv_eq_ediv_of_nonneg h
theorem dayN {q r m d : Int} (q0 : 0 ≤ q) (q1 : q ≤ 30) (r0 : 0 ≤ r) (r1 : r < 400) (m0 : 0 ≤ m) (m1 : m ≤ 11) (d0 : 1 ≤ d) (d1 : d ≤ 31) :
  IntKind.i64.wrap (IntKind.i64.wrap (IntKind.i64.wrap (IntKind.i64.wrap (IntKind.i64.wrap (IntKind.i64.wrap (IntKind.i64.wrap (IntKind.i64.wrap (q * 146097) + IntKind.i64.wrap (r * 365)) + IntKind.i64.wrap (Int.tdiv r 4)) - IntKind.i64.wrap (Int.tdiv r 100)) + IntKind.i64.wrap (Int.tdiv (IntKind.i64.wrap (IntKind.i64.wrap (153 * m) + 2)) 5)) + d) - 1) - 719468) = q * 146097 + r * 365 + r / 4 - r / 100 + (153 * m + 2) / 5 + d - 1 - 719468 := by
 rw [wi64 (n := q * 146097) (by omega) (by omega), wi64 (n := r * 365) (by omega) (by omega), wi64 (n := 153 * m) (by omega) (by omega), wi64 (n := 153 * m + 2) (by omega) (by omega), tdivN r0, tdivN r0, tdivN (show 0 ≤ 153 * m + 2 by omega),
  wi64 (n := r / 4) (by omega) (by omega), wi64 (n := r / 100) (by omega) (by omega), wi64 (n := (153 * m + 2) / 5) (by omega) (by omega), wi64 (n := q * 146097 + r * 365) (by omega) (by omega), wi64 (n := q * 146097 + r * 365 + r / 4) (by omega) (by omega), wi64 (n := q * 146097 + r * 365 + r / 4 - r / 100) (by omega) (by omega),
  wi64 (n := q * 146097 + r * 365 + r / 4 - r / 100 + (153 * m + 2) / 5) (by omega) (by omega), wi64 (n := q * 146097 + r * 365 + r / 4 - r / 100 + (153 * m + 2) / 5 + d) (by omega) (by omega), wi64 (n := q * 146097 + r * 365 + r / 4 - r / 100 + (153 * m + 2) / 5 + d - 1) (by omega) (by omega), wi64 (by omega) (by omega)]
theorem cdays_at (N : Nat) (y m d : Int) : f_11 N y m d = some (if MayD y m d then (daysD y m d, none) else (0, some 1)) := by
 unfold f_11
 refine (bindP _ _ _ (cchk_at N y m d)).trans ?_
 by_cases h : MayD y m d
 ·have hm := h.m
  have hl := lenM_le y m
  obtain ⟨h1, h2, h3, h4⟩ := id h
  rw [if_pos h, if_pos h, days_mar hm.1 hm.2, wi64 (n := m - 3) (by omega) (by omega)]
  simp only [Option.isNone_none, Bool.not_true, cond_false]
  by_cases h5 : m < 3
  ·rw [decide_eq_true (show m - 3 < 0 by omega), if_pos h5, wi64 (n := y - 1) (by omega) (by omega), wi64 (n := m - 3 + 12) (by omega) (by omega)]
   simp only [cond_true]
   refine (bindP _ _ _ (ndiv_at N (a := y - 1) (b := 400) ⟨by omega, by omega⟩ (by decide) (by decide))).trans ?_
   simp only [Option.isNone_none, Bool.not_true, cond_false]
   rw [dayN (by omega) (by omega) (by omega) (by omega) (by omega) (by omega) h3 (by omega), show m - 3 + 12 = m + 9 by omega]
  ·rw [decide_eq_false (show ¬ m - 3 < 0 by omega), if_neg h5]
   simp only [cond_false]
   refine (bindP _ _ _ (ndiv_at N (a := y) (b := 400) ⟨by omega, by omega⟩ (by decide) (by decide))).trans ?_
   simp only [Option.isNone_none, Bool.not_true, cond_false]
   rw [dayN (by omega) (by omega) (by omega) (by omega) (by omega) (by omega) h3 (by omega)]
 ·rw [if_neg h, if_neg h]; rfl
def ofE (n : Int) : (Int × Int × Int) × Option Int := if -719162 ≤ n ∧ n ≤ 2932896 then ((ofY n, ofM n, ofD n), none) else ((0, 0, 0), some 2)
theorem of_may {n : Int} : MayD (ofY n) (ofM n) (ofD n) ↔ -719162 ≤ n ∧ n ≤ 2932896 := by
 obtain ⟨h1, h2, _⟩ := of_ok n
 obtain ⟨y1, y2⟩ := of_year n
 unfold MayD
 constructor
 ·rintro ⟨a, b, _⟩; exact ⟨y1.1 a, y2.1 b⟩
 ·rintro ⟨a, b⟩; exact ⟨y1.2 a, y2.2 b, h1, h2⟩
theorem cof_at (N : Nat) {n : Int} (hn : R64 n) : f_12 N n = some (ofE n) := by
 obtain ⟨_, _, _, hy1, hy2⟩ := of_ok n
 have hyr := of_year n
 obtain ⟨n0, n1⟩ := id hn
 unfold f_12 ofE
 refine (bindP _ (n, (), (0, 0, 0)) _ rfl).trans ?_
 refine (bindP _ ((), (fit64 (n + 719468)).1, (fit64 (n + 719468)).2, (0, 0, 0)) _ ((bindP _ _ _ (nadd_at N hn ⟨by decide, by decide⟩)).trans rfl)).trans ?_
 refine (bindP _ ((), (fit64 (n + 719468)).1, !(Option.isNone (fit64 (n + 719468)).2), (0, 0, 0)) _ rfl).trans ?_
 by_cases hf : R64 (n + 719468)
 ·unfold fit64
  rw [rB_t hf]
  simp only [cond_true, Option.isNone_none, Bool.not_true, cond_false]
  refine (bindP _ ((), none, (n + 719468) / 146097, (n + 719468) % 146097, (0, 0, 0)) _ ((bindP _ _ _ (ndiv_at N hf (by decide) (by decide))).trans rfl)).trans ?_
  by_cases hE : (n + 719468) / 146097 > 9999
  ·refine (bindP _ ((), (n + 719468) / 146097, (n + 719468) % 146097, true, (0, 0, 0)) _ (by
    show some ((), _, _, decide (_ > 9999), _) = _
    rw [decide_eq_true hE])).trans ?_
   rw [if_neg (by omega)]; rfl
  ·refine (bindP _ ((), (n + 719468) / 146097, (n + 719468) % 146097, false, (0, 0, 0)) _ (by
    show some ((), _, _, decide (_ > 9999), _) = _
    rw [decide_eq_false hE])).trans ?_
   simp only [cond_false]
   have r0 := Int.emod_nonneg (n + 719468) (show (146097 : Int) ≠ 0 by decide)
   have r1 := Int.emod_lt_of_pos (n + 719468) (show (0 : Int) < 146097 by decide)
   have hmay := of_may (n := n)
   unfold ofY ofM ofD at hmay
   simp only at hmay
   unfold ofY ofM ofD
   simp only
   have hElo : -100000000000000 < (n + 719468) / 146097 := by omega
   generalize (n + 719468) / 146097 = E at hE hElo hmay ⊢
   generalize (n + 719468) % 146097 = r at r0 r1 hmay ⊢
   generalize hy : (r - r / 1460 + r / 36524 - r / 146096) / 365 = y at hmay ⊢
   obtain ⟨y0, y1, y2, y3⟩ := yoe r0 r1 hy.symm
   generalize hq : r - (365 * y + y / 4 - y / 100) = q at hmay ⊢
   have q0 : 0 ≤ q ∧ q ≤ 365 := by omega
   generalize hm : (5 * q + 2) / 153 = m at hmay ⊢
   have m0 : 0 ≤ m ∧ m ≤ 11 := by omega
   refine (bindP _ ((), E, r, y, (0, 0, 0)) _ (by
    show some ((), E, r, IntKind.i64.wrap _, _) = _
    rw [tdivN r0, tdivN r0, tdivN r0, wi64 (n := r / 1460) (by omega) (by omega), wi64 (n := r / 36524) (by omega) (by omega), wi64 (n := r / 146096) (by omega) (by omega), wi64 (n := r - r / 1460) (by omega) (by omega), wi64 (n := r - r / 1460 + r / 36524) (by omega) (by omega), wi64 (n := r - r / 1460 + r / 36524 - r / 146096) (by omega) (by omega), tdivN (show 0 ≤ r - r / 1460 + r / 36524 - r / 146096 by omega), hy, wi64 (n := y) (by omega) (by omega)])).trans ?_
   refine (bindP _ ((), E, q, y, (0, 0, 0)) _ (by
    show some ((), E, IntKind.i64.wrap _, y, _) = _
    rw [tdivN y0, tdivN y0, wi64 (n := 365 * y) (by omega) (by omega), wi64 (n := y / 4) (by omega) (by omega), wi64 (n := y / 100) (by omega) (by omega), wi64 (n := 365 * y + y / 4) (by omega) (by omega), wi64 (n := 365 * y + y / 4 - y / 100) (by omega) (by omega), hq, wi64 (n := q) (by omega) (by omega)])).trans ?_
   refine (bindP _ ((), E, q, y, m, (0, 0, 0)) _ (by
    show some ((), E, q, y, IntKind.i64.wrap _, _) = _
    rw [wi64 (n := 5 * q) (by omega) (by omega), wi64 (n := 5 * q + 2) (by omega) (by omega), tdivN (show 0 ≤ 5 * q + 2 by omega), hm, wi64 (n := m) (by omega) (by omega)])).trans ?_
   refine (bindP _ ((), (), (0, 0, 0), (400 * E + y + m / 10, (m + 2) % 12 + 1, q - (153 * m + 2) / 5 + 1)) _ (by
    show some ((), (), _, IntKind.i64.wrap _, IntKind.i64.wrap _, IntKind.i64.wrap _) = _
    rw [tdivN m0.1, wi64 (n := 400 * E) (by omega) (by omega), wi64 (n := 400 * E + y) (by omega) (by omega), wi64 (n := m / 10) (by omega) (by omega), wi64 (n := 400 * E + y + m / 10) (by omega) (by omega), wi64 (n := m + 2) (by omega) (by omega), Int.tmod_eq_emod_of_nonneg (show 0 ≤ m + 2 by omega), wi64 (n := (m + 2) % 12 + 1) (by omega) (by omega),
     wi64 (n := 153 * m) (by omega) (by omega), wi64 (n := 153 * m + 2) (by omega) (by omega), tdivN (show 0 ≤ 153 * m + 2 by omega), wi64 (n := (153 * m + 2) / 5) (by omega) (by omega), wi64 (n := q - (153 * m + 2) / 5) (by omega) (by omega), wi64 (n := q - (153 * m + 2) / 5 + 1) (by omega) (by omega)])).trans ?_
   refine (bindP _ ((), (), !(Option.isNone (if MayD (400 * E + y + m / 10) ((m + 2) % 12 + 1) (q - (153 * m + 2) / 5 + 1) then (none : Option Int) else some 1)), (0, 0, 0), (400 * E + y + m / 10, (m + 2) % 12 + 1, q - (153 * m + 2) / 5 + 1)) _ ((bindP _ _ _ (cchk_at N (400 * E + y + m / 10) ((m + 2) % 12 + 1) (q - (153 * m + 2) / 5 + 1))).trans rfl)).trans ?_
   by_cases hr : -719162 ≤ n ∧ n ≤ 2932896
   ·rw [if_pos hr, if_pos (hmay.2 hr)]; rfl
   ·rw [if_neg hr, if_neg (fun h => hr (hmay.1 h))]; rfl
 ·unfold fit64
  rw [rB_f hf, if_neg (by unfold R64 at hf; omega)]; rfl
end Go.Proofs.YtgkanacfffilmaaGreatDoor.Mir
namespace Go.Proofs.YtgkanacfffilmaaGreatDoor.Mir
open Go Go.RowKit
set_option maxRecDepth 100000
end Go.Proofs.YtgkanacfffilmaaGreatDoor.Mir
namespace Go.Proofs.YtgkanacfffilmaaGreatDoor.Mir
open Go Go.RowKit
set_option maxRecDepth 100000
def bt (l : List UInt8) : ByteArray := ⟨l.toArray⟩
theorem bt_list (l : List UInt8) : (bt l).data.toList = l := rfl
theorem bt_size (l : List UInt8) : (bt l).size = l.length := rfl
theorem bt_of (s : ByteArray) : s = bt s.data.toList := rfl
theorem bt_app (a b : List UInt8) : bt a ++ bt b = bt (a ++ b) := by
 apply ByteArray.ext
 rw [ByteArray.data_append]
 show a.toArray ++ b.toArray = (a ++ b).toArray
 simp
theorem bt_beq (a b : List UInt8) : ((bt a).toList == (bt b).toList) = decide (a = b) := by
 rw [Lib.toList_data, Lib.toList_data]
 show (a == b) = _
 by_cases h : a = b
 ·rw [decide_eq_true h, h]; exact beq_self_eq_true b
 ·rw [decide_eq_false h]; exact beq_eq_false_iff_ne.2 h
theorem repL : ∀ n, Lib.repeatL [48] n = List.replicate n 48
 | 0 => rfl
 | n + 1 => by
  show [48] ++ Lib.repeatL [48] n = _
  rw [repL n]; rfl
theorem cdig_at (N : Nat) {k n : Nat} (hk : k < 9) (h : n < 10 ^ (k + 1)) : f_42 N (n : Int) ((k + 1 : Nat) : Int) = some (bt (twoL (k + 1) n)) := by
 have hl := dgF_len k 20 n h (by omega)
 have hn : n < 10 ^ 9 := Nat.lt_of_lt_of_le h (Nat.pow_le_pow_right (by decide) (by omega))
 have hn2 : n < 1000000000 := hn
 have e : itoaF (n : Int) = some (bt (dgF 20 n)) := by
  unfold itoaF itoaL
  rw [r64B_iff.2 ⟨by omega, by omega⟩, if_neg (by omega), Int.toNat_natCast]; rfl
 unfold f_42
 rw [e]
 simp only [Option.bind_some]
 rw [bt_size, wi64 (by omega) (by omega)]
 have er : repF ⟨#[48]⟩ (((k + 1 : Nat) : Int) - ((dgF 20 n).length : Int)) = some (bt (List.replicate (k + 1 - (dgF 20 n).length) 48)) := by
  unfold repF
  have e2 : (((k + 1 : Nat) : Int) - ((dgF 20 n).length : Int)).toNat = k + 1 - (dgF 20 n).length := by omega
  rw [e2, decide_eq_true (by omega), decide_eq_true (show (⟨#[48]⟩ : ByteArray).size * (k + 1 - (dgF 20 n).length) ≤ 140737488355328 from by
   show 1 * _ ≤ _
   omega), decide_eq_true (by omega)]
  show some (bt (Lib.repeatL [48] _)) = _
  rw [repL]
 rw [er]
 simp only [Option.bind_some]
 rw [bt_size, List.length_replicate, decide_eq_false (by omega), bt_app, pad_eq k 20 n h (by omega)]; rfl
def dateL (y m d : Int) : List UInt8 := twoL 4 y.toNat ++ 45 :: (twoL 2 m.toNat ++ 45 :: twoL 2 d.toNat)
theorem cdig_4 (N : Nat) {n : Int} (h0 : 0 ≤ n) (h1 : n ≤ 9999) : f_42 N n 4 = some (bt (twoL 4 n.toNat)) := by
 obtain ⟨a, rfl⟩ := Int.eq_ofNat_of_zero_le h0
 exact cdig_at N (k := 3) (by decide) (show a < 10000 by omega)
theorem cdig_2 (N : Nat) {n : Int} (h0 : 0 ≤ n) (h1 : n ≤ 99) : f_42 N n 2 = some (bt (twoL 2 n.toNat)) := by
 obtain ⟨a, rfl⟩ := Int.eq_ofNat_of_zero_le h0
 exact cdig_at N (k := 1) (by decide) (show a < 100 by omega)
theorem MayD.rng {y m d : Int} (h : MayD y m d) : 1 ≤ y ∧ y ≤ 9999 ∧ 1 ≤ m ∧ m ≤ 12 ∧ 1 ≤ d ∧ d ≤ 31 := by
 have hm := h.m
 have hl := lenM_le y m
 obtain ⟨h1, h2, h3, h4⟩ := h
 omega
theorem dash : (⟨#[45]⟩ : ByteArray) = bt [45] := rfl
theorem ctext_at (N : Nat) (y m d : Int) : f_21 N y m d = some (if MayD y m d then (bt (dateL y m d), none) else (bt [], some 1)) := by
 unfold f_21
 refine (bindP _ _ _ (cchk_at N y m d)).trans ?_
 by_cases h : MayD y m d
 ·obtain ⟨h1, h2, h3, h4, h5, h6⟩ := h.rng
  rw [if_pos h, if_pos h]
  simp only [Option.isNone_none, Bool.not_true, cond_false]
  rw [cdig_4 N (by omega) h2, cdig_2 N (by omega) (by omega), cdig_2 N (by omega) (by omega)]
  simp only [Option.bind_some]
  rw [dash]
  simp only [bt_app, bt_size, List.length_append, twoL_len, List.length_cons, List.length_nil]
  rw [decide_eq_false (by decide), decide_eq_false (by decide), decide_eq_false (by decide), decide_eq_false (by decide)]
  simp only [cond_false]
  unfold dateL
  simp only [List.append_assoc, List.cons_append, List.nil_append]
 ·rw [if_neg h, if_neg h]; rfl
def digV (l : List UInt8) : Int := if l.all digB then (valL 0 l : Int) else -1
theorem drop_at (l : List UInt8) {i : Nat} (h : i < l.length) : l.drop i = l.getD i 0 :: l.drop (i + 1) := by
 rw [List.drop_eq_getElem_cons h, List.getD_eq_getElem?_getD, List.getElem?_eq_getElem h]; rfl
theorem size_list8 (s : ByteArray) : s.size = s.data.toList.length := by rw [Array.length_toList]; rfl
end Go.Proofs.YtgkanacfffilmaaGreatDoor.Mir
namespace Go.Proofs.YtgkanacfffilmaaGreatDoor.Mir
open Go Go.RowKit
set_option maxRecDepth 100000
def dY (l : List UInt8) : Int := digV (l.take 4)
def dM (l : List UInt8) : Int := digV ((l.drop 5).take 2)
def dD (l : List UInt8) : Int := digV (l.drop 8)
def okD (l : List UInt8) : Prop := l.length = 10 ∧ l.getD 4 0 = 45 ∧ l.getD 7 0 = 45 ∧ MayD (dY l) (dM l) (dD l)
instance (l : List UInt8) : Decidable (okD l) := inferInstanceAs (Decidable (_ ∧ _))
theorem digV_two {k n : Nat} (h : n < 10 ^ k) : digV (twoL k n) = (n : Int) := by
 unfold digV
 rw [if_pos (List.all_eq_true.2 (twoL_dig k n)), valL_two k n 0 h, Nat.zero_mul, Nat.zero_add]
theorem digV_pos {l : List UInt8} (h : 0 ≤ digV l) : (∀ c ∈ l, digB c = true) ∧ digV l = (valL 0 l : Int) := by
 unfold digV at h ⊢
 by_cases q : l.all digB = true
 ·rw [if_pos q]; exact ⟨List.all_eq_true.1 q, rfl⟩
 ·rw [if_neg q] at h; omega
theorem two_digV {l : List UInt8} {k : Nat} (hl : l.length = k) (h : 0 ≤ digV l) : twoL k (digV l).toNat = l := by
 obtain ⟨h1, h2⟩ := digV_pos h
 rw [h2, Int.toNat_natCast]
 have := two_val l 0 0 h1
 rw [Nat.zero_add, hl] at this
 exact this
theorem ten_parts : ∀ {l : List UInt8}, l.length = 10 → l = l.take 4 ++ l.getD 4 0 :: ((l.drop 5).take 2 ++ l.getD 7 0 :: l.drop 8)
 | [_, _, _, _, _, _, _, _, _, _], _ => rfl
theorem date_ok {y m d : Int} (h : MayD y m d) : okD (dateL y m d) ∧ dY (dateL y m d) = y ∧ dM (dateL y m d) = m ∧ dD (dateL y m d) = d := by
 obtain ⟨h1, h2, h3, h4, h5, h6⟩ := h.rng
 have l1 := twoL_len 4 y.toNat
 have l2 := twoL_len 2 m.toNat
 have e1 : digV (twoL 4 y.toNat) = y := by rw [digV_two (show y.toNat < 10000 by omega)]; omega
 have e2 : digV (twoL 2 m.toNat) = m := by rw [digV_two (show m.toNat < 100 by omega)]; omega
 have e3 : digV (twoL 2 d.toNat) = d := by rw [digV_two (show d.toNat < 100 by omega)]; omega
 have hl : (dateL y m d).length = 10 := by unfold dateL; simp only [List.length_append, List.length_cons, twoL_len]
 have i1 : (dateL y m d).take 4 = twoL 4 y.toNat := by unfold dateL; rw [List.take_left' l1]
 have i2 : (dateL y m d).drop 5 = twoL 2 m.toNat ++ 45 :: twoL 2 d.toNat := by
  unfold dateL
  rw [show 5 = (twoL 4 y.toNat).length + 1 by rw [l1], ← List.drop_drop, List.drop_left]; rfl
 have i3 : ((dateL y m d).drop 5).take 2 = twoL 2 m.toNat := by rw [i2, List.take_left' l2]
 have i4 : (dateL y m d).drop 8 = twoL 2 d.toNat := by
  rw [show 8 = 5 + 3 from rfl, ← List.drop_drop, i2, show 3 = (twoL 2 m.toNat).length + 1 by rw [l2], ← List.drop_drop, List.drop_left]; rfl
 have j1 : (dateL y m d).getD 4 0 = 45 := by
  have := drop_at (dateL y m d) (i := 4) (by omega)
  have k : (dateL y m d).drop 4 = 45 :: (twoL 2 m.toNat ++ 45 :: twoL 2 d.toNat) := by unfold dateL; rw [List.drop_left' l1]
  rw [k] at this
  exact (List.cons.inj this).1.symm
 have j2 : (dateL y m d).getD 7 0 = 45 := by
  have := drop_at (dateL y m d) (i := 7) (by omega)
  have k : (dateL y m d).drop 7 = 45 :: twoL 2 d.toNat := by rw [show 7 = 5 + 2 from rfl, ← List.drop_drop, i2, List.drop_left' l2]
  rw [k] at this
  exact (List.cons.inj this).1.symm
 have f1 : dY (dateL y m d) = y := by unfold dY; rw [i1, e1]
 have f2 : dM (dateL y m d) = m := by unfold dM; rw [i3, e2]
 have f3 : dD (dateL y m d) = d := by unfold dD; rw [i4, e3]
 exact ⟨⟨hl, j1, j2, by rw [f1, f2, f3]; exact h⟩, f1, f2, f3⟩
theorem okD_text {l : List UInt8} (h : okD l) : l = dateL (dY l) (dM l) (dD l) := by
 obtain ⟨h1, h2, h3, h4⟩ := h
 obtain ⟨r1, _, r3, _, r5, _⟩ := h4.rng
 have e := ten_parts h1
 rw [h2, h3] at e
 unfold dateL
 have q1 : twoL 4 (dY l).toNat = l.take 4 := two_digV (by rw [List.length_take]; omega) (show 0 ≤ dY l by omega)
 have q2 : twoL 2 (dM l).toNat = (l.drop 5).take 2 := two_digV (by rw [List.length_take, List.length_drop]; omega) (show 0 ≤ dM l by omega)
 have q3 : twoL 2 (dD l).toNat = l.drop 8 := two_digV (by rw [List.length_drop]; omega) (show 0 ≤ dD l by omega)
 rw [q1, q2, q3]
 exact e
theorem nodash {c : UInt8} (h : digB c = true) : ((45 : UInt8) == c) = false := by
 obtain ⟨h1, h2⟩ := digB_ok h
 refine beq_eq_false_iff_ne.2 (fun e => ?_)
 rw [← e] at h1
 exact absurd h1 (by decide)
theorem index_dash : ∀ (a b : List UInt8), (∀ c ∈ a, digB c = true) → Lib.index (a ++ 45 :: b) [45] = (a.length : Int)
 | [], b, _ => by simp [Lib.index, List.isPrefixOf]
 | c :: a, b, h => by
  have ih := index_dash a b (fun x hx => h x (List.mem_cons_of_mem _ hx))
  have hc := nodash (h c (List.mem_cons_self ..))
  show (if ([45] : List UInt8).isPrefixOf (c :: (a ++ 45 :: b)) then (0 : Int) else if Lib.index (a ++ 45 :: b) [45] == -1 then -1 else Lib.index (a ++ 45 :: b) [45] + 1) = _
  rw [ih, show ([45] : List UInt8).isPrefixOf (c :: (a ++ 45 :: b)) = false from by show ((45 : UInt8) == c && _) = false; rw [hc]; rfl, if_neg (by decide), if_neg (by rw [beq_iff_eq]; omega)]
  rw [List.length_cons]; omega
theorem index_nodash : ∀ (a : List UInt8), (∀ c ∈ a, digB c = true) → Lib.index a [45] = -1
 | [], _ => rfl
 | c :: a, h => by
  have ih := index_nodash a (fun x hx => h x (List.mem_cons_of_mem _ hx))
  have hc := nodash (h c (List.mem_cons_self ..))
  show (if ([45] : List UInt8).isPrefixOf (c :: a) then (0 : Int) else if Lib.index a [45] == -1 then -1 else Lib.index a [45] + 1) = _
  rw [ih, show ([45] : List UInt8).isPrefixOf (c :: a) = false from by show ((45 : UInt8) == c && _) = false; rw [hc]; rfl]; rfl
theorem drop_dash (a b : List UInt8) : (a ++ 45 :: b).drop (a.length + 1) = b := by
 rw [← List.drop_drop, List.drop_left]; rfl
theorem count_dash {a b : List UInt8} (h : ∀ c ∈ a, digB c = true) : Lib.count (a ++ 45 :: b) [45] = 1 + Lib.count b [45] := by
 rw [Lib.count_hit (i := a.length) (by simp) (index_dash a b h), show a.length + ([45] : List UInt8).length = a.length + 1 from rfl, drop_dash]
theorem count_nodash {a : List UInt8} (h : ∀ c ∈ a, digB c = true) : Lib.count a [45] = 0 := Lib.count_miss (index_nodash a h)
theorem splitK_dash {a b : List UInt8} (k : Nat) (h : ∀ c ∈ a, digB c = true) : Lib.splitK [45] 0 (k + 1) (a ++ 45 :: b) = a :: Lib.splitK [45] 0 k b := by
 show (if Lib.index (a ++ 45 :: b) [45] == -1 then _ else _) = _
 rw [index_dash a b h, if_neg (by rw [beq_iff_eq]; omega), Int.toNat_natCast, Nat.add_zero, List.take_left, show a.length + ([45] : List UInt8).length = a.length + 1 from rfl, drop_dash]
theorem split_date {a b c : List UInt8} (ha : ∀ x ∈ a, digB x = true) (hb : ∀ x ∈ b, digB x = true) (hc : ∀ x ∈ c, digB x = true) :
  Lib.splitK [45] 0 (Lib.count (a ++ 45 :: (b ++ 45 :: c)) [45]) (a ++ 45 :: (b ++ 45 :: c)) = [a, b, c] := by
 rw [count_dash ha, count_dash hb, count_nodash hc, show 1 + (1 + 0) = 1 + 1 from rfl, splitK_dash 1 ha, splitK_dash 0 hb]; rfl
theorem splitK_len : ∀ (k : Nat) (l : List UInt8), ∀ p ∈ Lib.splitK [45] 0 k l, p.length ≤ l.length
 | 0, l, p, h => by obtain rfl := List.mem_singleton.1 h; exact Nat.le_refl _
 | k + 1, l, p, h => by
  unfold Lib.splitK at h
  split at h
  ·obtain rfl := List.mem_singleton.1 h; exact Nat.le_refl _
  ·rcases List.mem_cons.1 h with rfl | h
   ·rw [List.length_take]; omega
   ·have := splitK_len k _ p h
    rw [List.length_drop] at this; omega
def atD (p : ByteArray) : Int × Bool := endD (Lib.atoiAll p.data.toList) (Lib.atoiSat p.data.toList)
theorem atoiF_at {p : ByteArray} (h : p.size ≤ 281474976710656) : atoiF p = some (atD p) := by
 unfold atoiF; rw [decide_eq_true h]; rfl
theorem atD_two {k n : Nat} (hk : 1 ≤ k) (hk2 : k ≤ 17) (h : n < 10 ^ k) : atD (bt (twoL k n)) = ((n : Int), true) := by
 unfold atD
 rw [bt_list, atoi_two hk hk2 h]; rfl
theorem cparse_loop (N : Nat) (s a b c : ByteArray) (t : Int × Int × Int) (ha : a.size ≤ 281474976710656) (hb : b.size ≤ 281474976710656) (hc : c.size ≤ 281474976710656) (hN : 4 ≤ N) :
  l_22_0 N (s, (), [a, b, c], (), 0, t, [0, 0, 0]) = some (bif (atD a).2 && ((atD b).2 && (atD c).2) then .inr (s, (), (), t, [(atD a).1, (atD b).1, (atD c).1]) else .inl ((), some 3, (0, 0, 0))) := by
 obtain ⟨M, rfl⟩ : ∃ m, N = m + 4 := ⟨N - 4, by omega⟩
 unfold l_22_0
 rw [show iter (b_22_0 (M + 4)) (M + 4) = b_22_0 (M + 4) (b_22_0 (M + 4) (b_22_0 (M + 4) (b_22_0 (M + 4) (iter (b_22_0 (M + 4)) M)))) from rfl]
 generalize iter (b_22_0 (M + 4)) M = T
 unfold b_22_0
 simp only [List.length_cons, List.length_nil]
 rw [show ([a, b, c] : List ByteArray).getD (Int.toNat 0) ByteArray.empty = a from rfl, atoiF_at ha]
 rw [show IntKind.i64.wrap (0 + 1) = 1 from by rw [wi64 (by decide) (by decide)]; rfl]
 rw [show ([a, b, c] : List ByteArray).getD (Int.toNat 1) ByteArray.empty = b from rfl, atoiF_at hb]
 rw [show IntKind.i64.wrap (1 + 1) = 2 from by rw [wi64 (by decide) (by decide)]; rfl]
 rw [show ([a, b, c] : List ByteArray).getD (Int.toNat 2) ByteArray.empty = c from rfl, atoiF_at hc]
 rw [show IntKind.i64.wrap (2 + 1) = 3 from by rw [wi64 (by decide) (by decide)]; rfl]
 generalize atD a = x
 generalize atD b = y
 generalize atD c = z
 obtain ⟨x1, x2⟩ := x
 obtain ⟨y1, y2⟩ := y
 obtain ⟨z1, z2⟩ := z
 cases x2 <;> cases y2 <;> cases z2 <;> rfl
def parC (l : List UInt8) : (Int × Int × Int) × Option Int := if okD l then ((dY l, dM l, dD l), none) else ((0, 0, 0), some 3)
theorem three_parts (P : List ByteArray) (h : P.length = 3) : ∃ a b c, P = [a, b, c] := by
 match P, h with
 | [a, b, c], _ => exact ⟨a, b, c, rfl⟩
theorem cparse_at (N : Nat) (hN : 4 ≤ N) {s : ByteArray} (hs : s.size ≤ 100) : f_22 N s = some (parC s.data.toList) := by
 have hl := size_list8 s
 have hsp : splF s ⟨#[45]⟩ = some (Lib.splitB ⟨#[45]⟩ 0 (Lib.countB s ⟨#[45]⟩) s) := by
  unfold splF
  rw [decide_eq_true (by omega), show decide (1 ≤ ByteArray.size (⟨#[45]⟩ : ByteArray)) = true from rfl]; rfl
 have hd : (Lib.splitB ⟨#[45]⟩ 0 (Lib.countB s ⟨#[45]⟩) s).map (·.data.toList) = Lib.splitK [45] 0 (Lib.count s.data.toList [45]) s.data.toList := Lib.splitB_data _ _ _ _
 have hlen := splitK_len (Lib.count s.data.toList [45]) s.data.toList
 rw [← hd] at hlen
 unfold f_22
 rw [hsp]
 generalize Lib.splitB ⟨#[45]⟩ 0 (Lib.countB s ⟨#[45]⟩) s = P at hd hlen ⊢
 simp only [Option.bind_some]
 by_cases h3 : P.length = 3
 ·obtain ⟨a, b, c, rfl⟩ := three_parts P h3
  have ba : ∀ p ∈ [a, b, c], p.size ≤ 281474976710656 := fun p hp => by
   have := hlen _ (List.mem_map.2 ⟨p, hp, rfl⟩)
   have := size_list8 p
   omega
  rw [show (((([a, b, c] : List ByteArray).length : Nat) : Int) != 3) = false from rfl]
  simp only [cond_false]
  refine (bindP _ _ _ (cparse_loop N s a b c (0, 0, 0) (ba a (by simp)) (ba b (by simp)) (ba c (by simp)) hN)).trans ?_
  by_cases hk : okD s.data.toList
  ·have ht := okD_text hk
   obtain ⟨h1, h2, h3', h4⟩ := id hk
   obtain ⟨r1, r2, r3, r4, r5, r6⟩ := h4.rng
   unfold parC
   rw [if_pos hk]
   rw [ht] at hd
   generalize dY s.data.toList = y at *
   generalize dM s.data.toList = m at *
   generalize dD s.data.toList = d at *
   unfold dateL at hd
   rw [split_date (twoL_dig _ _) (twoL_dig _ _) (twoL_dig _ _)] at hd
   simp only [List.map_cons, List.map_nil, List.cons.injEq, and_true] at hd
   obtain ⟨q1, q2, q3⟩ := hd
   have w1 : atD a = (y, true) := by
    rw [bt_of a, q1, atD_two (by decide) (by decide) (show y.toNat < 10000 by omega), show ((y.toNat : Nat) : Int) = y by omega]
   have w2 : atD b = (m, true) := by
    rw [bt_of b, q2, atD_two (by decide) (by decide) (show m.toNat < 100 by omega), show ((m.toNat : Nat) : Int) = m by omega]
   have w3 : atD c = (d, true) := by
    rw [bt_of c, q3, atD_two (by decide) (by decide) (show d.toNat < 100 by omega), show ((d.toNat : Nat) : Int) = d by omega]
   rw [w1, w2, w3]
   show Option.bind (f_21 N y m d) _ = _
   refine (bindP _ _ _ (ctext_at N y m d)).trans ?_
   rw [if_pos h4]
   show (bif !((bt (dateL y m d)).toList == s.toList) then _ else _) = _
   rw [bt_of s, bt_beq, ← ht, decide_eq_true rfl]; rfl
  ·unfold parC
   rw [if_neg hk]
   generalize atD a = x
   generalize atD b = y
   generalize atD c = z
   obtain ⟨x1, x2⟩ := x
   obtain ⟨y1, y2⟩ := y
   obtain ⟨z1, z2⟩ := z
   cases x2 <;> cases y2 <;> cases z2 <;> first | rfl | skip
   show Option.bind (f_21 N x1 y1 z1) _ = _
   refine (bindP _ _ _ (ctext_at N x1 y1 z1)).trans ?_
   by_cases hm : MayD x1 y1 z1
   ·rw [if_pos hm]
    show (bif !((bt (dateL x1 y1 z1)).toList == s.toList) then _ else _) = _
    rw [bt_of s, bt_beq, decide_eq_false (fun e => hk (by rw [← e]; exact (date_ok hm).1))]; rfl
   ·rw [if_neg hm]; rfl
 ·rw [show ((P.length : Int) != 3) = true from bne_iff_ne.2 (by omega)]
  unfold parC
  rw [if_neg (fun hk : okD s.data.toList => h3 (by
   have ht := okD_text hk
   rw [ht] at hd
   unfold dateL at hd
   rw [split_date (twoL_dig _ _) (twoL_dig _ _) (twoL_dig _ _)] at hd
   have := congrArg List.length hd
   simpa using this))]; rfl
end Go.Proofs.YtgkanacfffilmaaGreatDoor.Mir
namespace Go.Proofs.YtgkanacfffilmaaGreatDoor.Mir
open Go Go.RowKit
set_option maxRecDepth 100000
def MayT (h m s : Int) : Prop := (h = 23 ∧ m = 59 ∧ s = 60) ∨ (0 ≤ h ∧ h ≤ 23 ∧ 0 ≤ m ∧ m ≤ 59 ∧ 0 ≤ s ∧ s ≤ 59)
instance (h m s : Int) : Decidable (MayT h m s) := inferInstanceAs (Decidable (_ ∨ _))
def secT (h m s : Int) : Int := h * 3600 + m * 60 + s
def timD (s : Int) : Int × Int × Int := if s = 86400 then (23, 59, 60) else (s / 3600, s / 60 % 60, s % 60)
theorem MayT.rng {h m s : Int} (q : MayT h m s) : 0 ≤ h ∧ h ≤ 23 ∧ 0 ≤ m ∧ m ≤ 59 ∧ 0 ≤ s ∧ s ≤ 60 ∧ 0 ≤ secT h m s ∧ secT h m s ≤ 86400 := by
 unfold secT; rcases q with ⟨rfl, rfl, rfl⟩ | q <;> omega
theorem tim_sec {h m s : Int} (q : MayT h m s) : timD (secT h m s) = (h, m, s) := by
 rcases q with ⟨rfl, rfl, rfl⟩ | ⟨h1, h2, h3, h4, h5, h6⟩
 ·rfl
 ·unfold timD secT
  rw [if_neg (by omega), show (h * 3600 + m * 60 + s) / 3600 = h by omega, show (h * 3600 + m * 60 + s) / 60 % 60 = m by omega, show (h * 3600 + m * 60 + s) % 60 = s by omega]
theorem sec_tim {n : Int} (h0 : 0 ≤ n) (h1 : n ≤ 86400) : MayT (timD n).1 (timD n).2.1 (timD n).2.2 ∧ secT (timD n).1 (timD n).2.1 (timD n).2.2 = n := by
 unfold timD
 by_cases h : n = 86400
 ·subst h; exact ⟨.inl ⟨rfl, rfl, rfl⟩, rfl⟩
 ·rw [if_neg h]
  refine ⟨.inr ?_, ?_⟩
  ·simp only; omega
  ·unfold secT; simp only; omega
theorem dychk_at (N : Nat) (h m s : Int) : f_30 N h m s = some (if MayT h m s then none else some 1) := by
 unfold f_30
 by_cases hL : h = 23 ∧ m = 59 ∧ s = 60
 ·obtain ⟨rfl, rfl, rfl⟩ := hL; rfl
 ·have e : ((h == 23) && ((m == 59) && (s == 60))) = false := by
   rw [Bool.eq_false_iff]; simpa using hL
  rw [e]
  simp only [cond_false]
  by_cases h1 : h < 0
  ·rw [decide_eq_true h1, if_neg (fun q : MayT h m s => by have := q.rng; omega)]; rfl
  ·rw [decide_eq_false h1]
   by_cases h2 : h > 23
   ·rw [decide_eq_true h2, if_neg (fun q : MayT h m s => by have := q.rng; omega)]; rfl
   ·rw [decide_eq_false h2]
    by_cases h3 : m < 0
    ·rw [decide_eq_true h3, if_neg (fun q : MayT h m s => by have := q.rng; omega)]; rfl
    ·rw [decide_eq_false h3]
     by_cases h4 : m > 59
     ·rw [decide_eq_true h4, if_neg (fun q : MayT h m s => by have := q.rng; omega)]; rfl
     ·rw [decide_eq_false h4]
      by_cases h5 : s < 0
      ·rw [decide_eq_true h5, if_neg (fun q : MayT h m s => by have := q.rng; omega)]; rfl
      ·rw [decide_eq_false h5]
       by_cases h6 : s > 59
       ·rw [decide_eq_true h6, if_neg (fun q : MayT h m s => by rcases q with q | q <;> omega)]; rfl
       ·rw [decide_eq_false h6, if_pos (show MayT h m s from .inr (by omega))]; rfl
def secE (h m s : Int) : Int × Option Int := if MayT h m s then (secT h m s, none) else (0, some 1)
theorem dysecs_at (N : Nat) (h m s : Int) : f_27 N h m s = some (secE h m s) := by
 unfold f_27 secE
 refine (bindP _ _ _ (dychk_at N h m s)).trans ?_
 by_cases q : MayT h m s
 ·obtain ⟨h1, h2, h3, h4, h5, h6, _⟩ := q.rng
  rw [if_pos q, if_pos q]
  simp only [Option.isNone_none, Bool.not_true, cond_false]
  rw [wi64 (n := h * 3600) (by omega) (by omega), wi64 (n := m * 60) (by omega) (by omega), wi64 (n := h * 3600 + m * 60) (by omega) (by omega), wi64 (by omega) (by omega)]; rfl
 ·rw [if_neg q, if_neg q]; rfl
def ofT (n : Int) : (Int × Int × Int) × Option Int := if 0 ≤ n ∧ n ≤ 86400 then (timD n, none) else ((0, 0, 0), some 1)
theorem dyof_at (N : Nat) (n : Int) : f_28 N n = some (ofT n) := by
 unfold f_28 ofT timD
 by_cases h1 : n < 0
 ·rw [decide_eq_true h1, if_neg (by omega)]; rfl
 ·rw [decide_eq_false h1]
  by_cases h2 : n > 86400
  ·rw [decide_eq_true h2, if_neg (by omega)]; rfl
  ·rw [decide_eq_false h2, if_pos (by omega)]
   by_cases h3 : n = 86400
   ·subst h3; rfl
   ·rw [show (n == 86400) = false from beq_eq_false_iff_ne.2 h3, if_neg h3, tdivN (by omega), tdivN (by omega), wi64 (n := n / 3600) (by omega) (by omega), wi64 (n := n / 60) (by omega) (by omega), Int.tmod_eq_emod_of_nonneg (show 0 ≤ n / 60 by omega), Int.tmod_eq_emod_of_nonneg (show 0 ≤ n by omega)]; rfl
theorem dylnum_at (N : Nat) (e : Option Int) : f_31 N e = some (errN e) := by cases e <;> rfl
theorem dydig_at (N : Nat) {k n : Nat} (hk : k < 9) (h : n < 10 ^ (k + 1)) : f_47 N (n : Int) ((k + 1 : Nat) : Int) = some (bt (twoL (k + 1) n)) := by
 have hl := dgF_len k 20 n h (by omega)
 have hn : n < 10 ^ 9 := Nat.lt_of_lt_of_le h (Nat.pow_le_pow_right (by decide) (by omega))
 have hn2 : n < 1000000000 := hn
 have e : fmtF (n : Int) 10 = some (bt (dgF 20 n)) := by
  unfold fmtF itoaL
  rw [r64B_iff.2 ⟨by omega, by omega⟩, if_neg (by omega), Int.toNat_natCast]; rfl
 unfold f_47
 rw [e]
 simp only [Option.bind_some]
 rw [bt_size, wi64 (by omega) (by omega)]
 have er : repF ⟨#[48]⟩ (if ((k + 1 : Nat) : Int) - ((dgF 20 n).length : Int) > 0 then ((k + 1 : Nat) : Int) - ((dgF 20 n).length : Int) else 0) = some (bt (List.replicate (k + 1 - (dgF 20 n).length) 48)) := by
  unfold repF
  have e2 : (if ((k + 1 : Nat) : Int) - ((dgF 20 n).length : Int) > 0 then ((k + 1 : Nat) : Int) - ((dgF 20 n).length : Int) else 0) = ((k + 1 - (dgF 20 n).length : Nat) : Int) := by split <;> omega
  rw [e2, Int.toNat_natCast, decide_eq_true (by omega), decide_eq_true (show (⟨#[48]⟩ : ByteArray).size * (k + 1 - (dgF 20 n).length) ≤ 140737488355328 from by
   show 1 * _ ≤ _
   omega), decide_eq_true (by omega)]
  show some (bt (Lib.repeatL [48] _)) = _
  rw [repL]
 rw [er]
 simp only [Option.bind_some]
 rw [bt_size, List.length_replicate, decide_eq_false (by omega), bt_app, pad_eq k 20 n h (by omega)]; rfl
theorem dydig_2 (N : Nat) {n : Int} (h0 : 0 ≤ n) (h1 : n ≤ 99) : f_47 N n 2 = some (bt (twoL 2 n.toNat)) := by
 obtain ⟨a, rfl⟩ := Int.eq_ofNat_of_zero_le h0
 exact dydig_at N (k := 1) (by decide) (show a < 100 by omega)
theorem dydig_9 (N : Nat) {n : Int} (h0 : 0 ≤ n) (h1 : n < 1000000000) : f_47 N n 9 = some (bt (twoL 9 n.toNat)) := by
 obtain ⟨a, rfl⟩ := Int.eq_ofNat_of_zero_le h0
 exact dydig_at N (k := 8) (by decide) (show a < 1000000000 by omega)
def stL (p : Int × Int × Int) (t : Int × Int × Int) (n : Int) : List UInt8 := dateL p.1 p.2.1 p.2.2 ++ 84 :: (twoL 2 t.1.toNat ++ 58 :: (twoL 2 t.2.1.toNat ++ 58 :: (twoL 2 t.2.2.toNat ++ 46 :: twoL 9 n.toNat)))
theorem date_len (y m d : Int) : (dateL y m d).length = 10 := by unfold dateL; simp only [List.length_append, List.length_cons, twoL_len]
theorem tee : (⟨#[84]⟩ : ByteArray) = bt [84] := rfl
theorem colon : (⟨#[58]⟩ : ByteArray) = bt [58] := rfl
theorem point : (⟨#[46]⟩ : ByteArray) = bt [46] := rfl
def StOk (s n : Int) : Prop := 0 ≤ s ∧ s ≤ 86400 ∧ 0 ≤ n ∧ n < 1000000000
instance (s n : Int) : Decidable (StOk s n) := inferInstanceAs (Decidable (_ ∧ _))
def inR (x : Int) : Prop := -719162 ≤ x ∧ x ≤ 2932896
instance (x : Int) : Decidable (inR x) := inferInstanceAs (Decidable (_ ∧ _))
def stE (x s n : Int) : ByteArray × Option Int := if StOk s n then (if inR x then (bt (stL (ofY x, ofM x, ofD x) (timD s) n), none) else (bt [], some 2)) else (bt [], some 1)
theorem ofE_in {x : Int} (h : inR x) : ofE x = ((ofY x, ofM x, ofD x), none) := by unfold ofE; exact if_pos h
theorem ofE_out {x : Int} (h : ¬ inR x) : ofE x = ((0, 0, 0), some 2) := by unfold ofE; exact if_neg h
theorem dystamp_at (N : Nat) {x s n : Int} (hx : R64 x) : f_34 N x s n = some (stE x s n) := by
 unfold f_34 stE
 refine (bindP _ _ _ (dyof_at N s)).trans ?_
 unfold ofT
 by_cases h1 : 0 ≤ s ∧ s ≤ 86400
 ·rw [if_pos h1]
  simp only [Option.isNone_none, Bool.not_true, cond_false]
  by_cases h2 : n < 0
  ·rw [decide_eq_true h2, if_neg (fun q : StOk s n => by have := q.2.2; omega)]; rfl
  ·rw [decide_eq_false h2]
   by_cases h3 : n ≥ 1000000000
   ·rw [decide_eq_true h3, if_neg (fun q : StOk s n => by have := q.2.2; omega)]; rfl
   ·rw [decide_eq_false h3, if_pos (show StOk s n from ⟨h1.1, h1.2, by omega, by omega⟩)]
    simp only [cond_false]
    rw [cof_at N hx]
    simp only [Option.bind_some]
    by_cases hr : inR x
    ·obtain ⟨q, _⟩ := sec_tim h1.1 h1.2
     obtain ⟨a1, a2, a3, a4, a5, a6, _⟩ := q.rng
     rw [ofE_in hr, if_pos hr]
     simp only [Option.isNone_none, Bool.not_true, cond_false]
     rw [ctext_at, if_pos (of_may.2 hr)]
     simp only [Option.bind_some, Option.isNone_none, Bool.not_true, cond_false]
     rw [dydig_2 N a1 (by omega), dydig_2 N a3 (by omega), dydig_2 N a5 (by omega), dydig_9 N (show 0 ≤ n by omega) (by omega)]
     simp only [Option.bind_some, tee, colon, point, bt_app, bt_size, List.length_append, List.length_cons, List.length_nil, date_len, twoL_len]
     rw [show decide (((10 + (0 + 1) : Nat) : Int) > 9223372036854775807) = false from rfl]
     simp only [cond_false]
     unfold stL
     simp only [List.append_assoc, List.cons_append, List.nil_append]; rfl
    ·rw [ofE_out hr, if_neg hr]; rfl
 ·rw [if_neg h1, if_neg (fun q : StOk s n => h1 ⟨q.1, q.2.1⟩)]; rfl
end Go.Proofs.YtgkanacfffilmaaGreatDoor.Mir
namespace Go.Proofs.YtgkanacfffilmaaGreatDoor.Mir
open Go Go.RowKit
set_option maxRecDepth 100000
theorem ofE_days {y m d : Int} (h : MayD y m d) : ofE (daysD y m d) = ((y, m, d), none) ∧ R64 (daysD y m d) := by
 obtain ⟨e1, e2, e3⟩ := of_days ⟨h.2.2.1, h.2.2.2⟩
 have hr := of_may (n := daysD y m d)
 rw [e1, e2, e3] at hr
 have hr := hr.1 h
 unfold ofE
 rw [if_pos hr, e1, e2, e3]
 exact ⟨rfl, by omega, by omega⟩
end Go.Proofs.YtgkanacfffilmaaGreatDoor.Mir
namespace Go.Proofs.YtgkanacfffilmaaGreatDoor.Mir
open Go Go.RowKit
set_option maxRecDepth 100000
theorem parts29 {A B C D E : List UInt8} (hA : A.length = 10) (hB : B.length = 2) (hC : C.length = 2) (hD : D.length = 2) :
  (A ++ 84 :: (B ++ 58 :: (C ++ 58 :: (D ++ 46 :: E)))).take 10 = A ∧ ((A ++ 84 :: (B ++ 58 :: (C ++ 58 :: (D ++ 46 :: E)))).drop 11).take 2 = B ∧ ((A ++ 84 :: (B ++ 58 :: (C ++ 58 :: (D ++ 46 :: E)))).drop 14).take 2 = C ∧
  ((A ++ 84 :: (B ++ 58 :: (C ++ 58 :: (D ++ 46 :: E)))).drop 17).take 2 = D ∧ (A ++ 84 :: (B ++ 58 :: (C ++ 58 :: (D ++ 46 :: E)))).drop 20 = E ∧
  (A ++ 84 :: (B ++ 58 :: (C ++ 58 :: (D ++ 46 :: E)))).getD 10 0 = 84 ∧ (A ++ 84 :: (B ++ 58 :: (C ++ 58 :: (D ++ 46 :: E)))).getD 13 0 = 58 ∧ (A ++ 84 :: (B ++ 58 :: (C ++ 58 :: (D ++ 46 :: E)))).getD 16 0 = 58 ∧ (A ++ 84 :: (B ++ 58 :: (C ++ 58 :: (D ++ 46 :: E)))).getD 19 0 = 46 := by
 match A, hA, B, hB, C, hC, D, hD with
 | [_, _, _, _, _, _, _, _, _, _], _, [_, _], _, [_, _], _, [_, _], _ => exact ⟨rfl, rfl, rfl, rfl, rfl, rfl, rfl, rfl, rfl⟩
theorem of29 : ∀ {l : List UInt8}, l.length = 29 → l = l.take 10 ++ l.getD 10 0 :: ((l.drop 11).take 2 ++ l.getD 13 0 :: ((l.drop 14).take 2 ++ l.getD 16 0 :: ((l.drop 17).take 2 ++ l.getD 19 0 :: l.drop 20)))
 | [_, _, _, _, _, _, _, _, _, _, _, _, _, _, _, _, _, _, _, _, _, _, _, _, _, _, _, _, _], _ => rfl
def hP (l : List UInt8) : Int := digV ((l.drop 11).take 2)
def mP (l : List UInt8) : Int := digV ((l.drop 14).take 2)
def sP (l : List UInt8) : Int := digV ((l.drop 17).take 2)
def nP (l : List UInt8) : Int := digV (l.drop 20)
def yP (l : List UInt8) : Int × Int × Int := (dY (l.take 10), dM (l.take 10), dD (l.take 10))
def okS (l : List UInt8) : Prop := l.length = 29 ∧ l.getD 10 0 = 84 ∧ l.getD 13 0 = 58 ∧ l.getD 16 0 = 58 ∧ l.getD 19 0 = 46 ∧ okD (l.take 10) ∧ MayT (hP l) (mP l) (sP l) ∧ 0 ≤ nP l
instance (l : List UInt8) : Decidable (okS l) := inferInstanceAs (Decidable (_ ∧ _))
theorem digV_toNat {k : Nat} {n : Int} (h0 : 0 ≤ n) (h : n.toNat < 10 ^ k) : digV (twoL k n.toNat) = n := by rw [digV_two h]; omega
theorem st_ok {y m d h i s n : Int} (hd : MayD y m d) (ht : MayT h i s) (h0 : 0 ≤ n) (h1 : n < 1000000000) :
  okS (stL (y, m, d) (h, i, s) n) ∧ yP (stL (y, m, d) (h, i, s) n) = (y, m, d) ∧ hP (stL (y, m, d) (h, i, s) n) = h ∧ mP (stL (y, m, d) (h, i, s) n) = i ∧ sP (stL (y, m, d) (h, i, s) n) = s ∧ nP (stL (y, m, d) (h, i, s) n) = n := by
 obtain ⟨o1, o2, o3, o4⟩ := date_ok hd
 obtain ⟨a1, a2, a3, a4, a5, a6, _⟩ := ht.rng
 obtain ⟨p1, p2, p3, p4, p5, p6, p7, p8, p9⟩ := parts29 (E := twoL 9 n.toNat) (date_len y m d) (twoL_len 2 h.toNat) (twoL_len 2 i.toNat) (twoL_len 2 s.toNat)
 have hl : (stL (y, m, d) (h, i, s) n).length = 29 := by unfold stL; simp only [List.length_append, List.length_cons, twoL_len, date_len]
 have q1 : (stL (y, m, d) (h, i, s) n).take 10 = dateL y m d := p1
 have q2 : hP (stL (y, m, d) (h, i, s) n) = h := (congrArg digV p2).trans (digV_toNat a1 (show h.toNat < 100 by omega))
 have q3 : mP (stL (y, m, d) (h, i, s) n) = i := (congrArg digV p3).trans (digV_toNat a3 (show i.toNat < 100 by omega))
 have q4 : sP (stL (y, m, d) (h, i, s) n) = s := (congrArg digV p4).trans (digV_toNat a5 (show s.toNat < 100 by omega))
 have q5 : nP (stL (y, m, d) (h, i, s) n) = n := (congrArg digV p5).trans (digV_toNat h0 (show n.toNat < 1000000000 by omega))
 refine ⟨⟨hl, p6, p7, p8, p9, by rw [q1]; exact o1, by rw [q2, q3, q4]; exact ht, by rw [q5]; exact h0⟩, ?_, q2, q3, q4, q5⟩
 unfold yP
 rw [q1, o2, o3, o4]
theorem okS_text {l : List UInt8} (h : okS l) : l = stL (yP l) (hP l, mP l, sP l) (nP l) := by
 obtain ⟨h1, h2, h3, h4, h5, h6, h7, h8⟩ := h
 obtain ⟨a1, a2, a3, a4, a5, a6, _⟩ := h7.rng
 have e := of29 h1
 rw [h2, h3, h4, h5] at e
 have d := okD_text h6
 unfold stL yP
 simp only
 rw [← d, show twoL 2 (hP l).toNat = (l.drop 11).take 2 from two_digV (by rw [List.length_take, List.length_drop]; omega) a1, show twoL 2 (mP l).toNat = (l.drop 14).take 2 from two_digV (by rw [List.length_take, List.length_drop]; omega) a3,
  show twoL 2 (sP l).toNat = (l.drop 17).take 2 from two_digV (by rw [List.length_take, List.length_drop]; omega) a5, show twoL 9 (nP l).toNat = l.drop 20 from two_digV (by rw [List.length_drop]; omega) h8]
 exact e
theorem nP_lt {l : List UInt8} (h : okS l) : nP l < 1000000000 := by
 obtain ⟨h1, _, _, _, _, _, _, h8⟩ := h
 obtain ⟨d1, d2⟩ := digV_pos h8
 have := valL_lt (l.drop 20) 0 0 d1 (by decide)
 rw [List.length_drop, h1] at this
 have e : nP l = (valL 0 (l.drop 20) : Int) := d2
 have : valL 0 (l.drop 20) < 1000000000 := this
 omega
def dayP (l : List UInt8) : Int := daysD (yP l).1 (yP l).2.1 (yP l).2.2
def dyC (l : List UInt8) : Int × Int × Int × Option Int := if okS l then (dayP l, secT (hP l) (mP l) (sP l), nP l, none) else (0, 0, 0, some 3)
theorem parseM_dig : ∀ (l : List UInt8) (a : Nat), (∀ c ∈ l, digB c = true) → (a + 1) * 10 ^ l.length ≤ 1000000000000000000 → Lib.parseUintM (2 ^ 64 - 1) a l = .ok (valL a l)
 | [], a, _, _ => rfl
 | c :: l, a, hd, h => by
  obtain ⟨c1, c2⟩ := digB_ok (hd c (List.mem_cons_self ..))
  rw [List.length_cons, Nat.pow_succ] at h
  have hp : 1 ≤ 10 ^ l.length := Nat.one_le_pow _ _ (by decide)
  have h1 : (a + 1) * 10 ≤ 1000000000000000000 := by
   have : (a + 1) * (1 * 10) ≤ (a + 1) * (10 ^ l.length * 10) := Nat.mul_le_mul_left _ (Nat.mul_le_mul_right _ hp)
   omega
  unfold Lib.parseUintM valL
  rw [if_pos ⟨c1, c2⟩, if_neg (by omega), if_neg (show ¬ 2 ^ 64 - 1 < a * 10 + (c.toNat - 48) by
   have : (2 : Nat) ^ 64 - 1 = 18446744073709551615 := by decide
   omega)]
  refine parseM_dig l _ (fun x hx => hd x (List.mem_cons_of_mem _ hx)) ?_
  refine Nat.le_trans (Nat.mul_le_mul_right _ (show a * 10 + (c.toNat - 48) + 1 ≤ (a + 1) * 10 by omega)) ?_
  rw [Nat.mul_assoc, Nat.mul_comm 10]
  exact h
theorem pint_two {k n : Nat} (hk : 1 ≤ k) (hk2 : k ≤ 17) (h : n < 10 ^ k) : Lib.parseIntB 64 (twoL k n) = .ok (n : Int) := by
 have hp : Lib.parseUintM (2 ^ 64 - 1) 0 (twoL k n) = .ok n := by
  rw [parseM_dig _ 0 (twoL_dig k n) (by
   rw [twoL_len, Nat.zero_add, Nat.one_mul]
   exact Nat.le_trans (Nat.pow_le_pow_right (by decide) hk2) (by decide)), valL_two k n 0 h, Nat.zero_mul, Nat.zero_add]
 have hl := twoL_len k n
 have hd := twoL_dig k n
 have hn : n < 10 ^ 17 := Nat.lt_of_lt_of_le h (Nat.pow_le_pow_right (by decide) hk2)
 have hn2 : n < 100000000000000000 := hn
 generalize twoL k n = l at hp hl hd
 cases l with
 | nil => simp at hl; omega
 | cons c r =>
  obtain ⟨c1, c2⟩ := digB_ok (hd c (List.mem_cons_self ..))
  have e63 : (2 : Nat) ^ (64 - 1) = 9223372036854775808 := by decide
  unfold Lib.parseIntB
  simp only
  rw [if_neg (show ¬ (c.toNat = 43 ∨ c.toNat = 45) by omega)]
  unfold Lib.parseUintB
  rw [if_neg (by simp), hp]
  simp only
  rw [e63, if_neg (by omega), if_neg (by omega), if_neg (by omega)]
def numD (l : List UInt8) : Int := bif !(endD (Lib.parseIntB 64 l) (Lib.intSat 64 l)).2 then -1 else (endD (Lib.parseIntB 64 l) (Lib.intSat 64 l)).1
theorem dynum_at (N : Nat) {p : ByteArray} (h : p.size ≤ 281474976710656) : f_48 N p = some (numD p.data.toList) := by
 have e : pintF p 10 64 = some (endD (Lib.parseIntB 64 p.data.toList) (Lib.intSat 64 p.data.toList)) := by
  unfold pintF; rw [decide_eq_true h]; rfl
 unfold f_48 numD
 rw [e]
 simp only [Option.bind_some]
 cases (endD (Lib.parseIntB 64 p.data.toList) (Lib.intSat 64 p.data.toList)).2 <;> rfl
theorem numD_two {k n : Nat} (hk : 1 ≤ k) (hk2 : k ≤ 17) (h : n < 10 ^ k) : numD (twoL k n) = (n : Int) := by
 unfold numD
 rw [pint_two hk hk2 h]; rfl
theorem numD_dig {l : List UInt8} {k : Nat} (hk : 1 ≤ k) (hk2 : k ≤ 17) (hl : l.length = k) (h : 0 ≤ digV l) : numD l = digV l := by
 have e := two_digV hl h
 obtain ⟨d1, d2⟩ := digV_pos h
 have hlt := valL_lt l 0 0 d1 (by decide)
 rw [hl, Nat.zero_add] at hlt
 have hn : (digV l).toNat < 10 ^ k := by rw [d2, Int.toNat_natCast]; exact hlt
 have q := numD_two hk hk2 hn
 rw [e] at q
 rw [q]; omega
theorem dyparse_at (N : Nat) (hN : 4 ≤ N) (s : ByteArray) : f_36 N s = some (dyC s.data.toList) := by
 have hl := size_list8 s
 unfold f_36
 by_cases h : s.size = 29
 ·have e10 : (s.size : Int) = 29 := by omega
  rw [e10, show ((29 : Int) != 29) = false from rfl]
  have x1 : ByteArray.extract s (Int.toNat (0 : Int)) (Int.toNat (10 : Int)) = bt (s.data.toList.take 10) := by
   rw [bt_of (ByteArray.extract _ _ _), Lib.extract_data]; rfl
  have x2 : ByteArray.extract s (Int.toNat (11 : Int)) (Int.toNat (13 : Int)) = bt ((s.data.toList.drop 11).take 2) := by
   rw [bt_of (ByteArray.extract _ _ _), Lib.extract_data]; rfl
  have x3 : ByteArray.extract s (Int.toNat (14 : Int)) (Int.toNat (16 : Int)) = bt ((s.data.toList.drop 14).take 2) := by
   rw [bt_of (ByteArray.extract _ _ _), Lib.extract_data]; rfl
  have x4 : ByteArray.extract s (Int.toNat (17 : Int)) (Int.toNat (19 : Int)) = bt ((s.data.toList.drop 17).take 2) := by
   rw [bt_of (ByteArray.extract _ _ _), Lib.extract_data]; rfl
  have x5 : ByteArray.extract s (Int.toNat (20 : Int)) (Int.toNat (29 : Int)) = bt (s.data.toList.drop 20) := by
   rw [bt_of (ByteArray.extract _ _ _), Lib.extract_data, List.take_of_length_le (by rw [List.length_drop]; show _ - 20 ≤ 29 - 20; omega)]; rfl
  rw [x1, x2, x3, x4, x5]
  have hs := bt_of s
  generalize hL : s.data.toList = l at hl hs ⊢
  rw [cparse_at N hN (by rw [bt_size, List.length_take]; omega), dynum_at N (p := bt ((l.drop 11).take 2)) (by rw [bt_size, List.length_take]; omega), dynum_at N (p := bt ((l.drop 14).take 2)) (by rw [bt_size, List.length_take]; omega), dynum_at N (p := bt ((l.drop 17).take 2)) (by rw [bt_size, List.length_take]; omega), dynum_at N (p := bt (l.drop 20)) (by rw [bt_size, List.length_drop]; omega)]
  simp only [bt_list, Option.bind_some, dysecs_at]
  show (bif !(Option.isNone (parC (l.take 10)).2) then some (0, 0, 0, (parC (l.take 10)).2) else Option.bind (f_11 N (parC (l.take 10)).1.1 (parC (l.take 10)).1.2.1 (parC (l.take 10)).1.2.2) fun r3 => bif !(Option.isNone r3.2) then some (0, 0, 0, some 3) else
   (bif !(Option.isNone (secE (numD ((l.drop 11).take 2)) (numD ((l.drop 14).take 2)) (numD ((l.drop 17).take 2))).2) then some (0, 0, 0, some 3) else
    Option.bind (f_34 N r3.1 (secE (numD ((l.drop 11).take 2)) (numD ((l.drop 14).take 2)) (numD ((l.drop 17).take 2))).1 (numD (l.drop 20))) fun r9 => bif !(Option.isNone r9.2) then some (0, 0, 0, some 3) else
     (bif !(ByteArray.toList r9.1 == ByteArray.toList s) then some (0, 0, 0, some 3) else some (r3.1, (secE (numD ((l.drop 11).take 2)) (numD ((l.drop 14).take 2)) (numD ((l.drop 17).take 2))).1, numD (l.drop 20), none)))) = _
  unfold dyC
  by_cases h5 : okD (l.take 10)
  ·rw [show parC (l.take 10) = (yP l, none) from if_pos h5]
   simp only [Option.isNone_none, Bool.not_true, cond_false]
   have hM : MayD (yP l).1 (yP l).2.1 (yP l).2.2 := h5.2.2.2
   obtain ⟨k1, k2⟩ := ofE_days hM
   have k3 : inR (dayP l) := by
    by_cases q : inR (dayP l)
    ·exact q
    ·rw [show daysD (yP l).1 (yP l).2.1 (yP l).2.2 = dayP l from rfl, ofE_out q] at k1; exact absurd (congrArg Prod.snd k1) (by simp)
   have k4 : (ofY (dayP l), ofM (dayP l), ofD (dayP l)) = yP l := by
    rw [show daysD (yP l).1 (yP l).2.1 (yP l).2.2 = dayP l from rfl, ofE_in k3] at k1
    exact congrArg Prod.fst k1
   refine (bindP _ _ _ (cdays_at N (yP l).1 (yP l).2.1 (yP l).2.2)).trans ?_
   rw [if_pos hM]
   simp only [Option.isNone_none, Bool.not_true, cond_false]
   by_cases hS : okS l
   ·obtain ⟨_, _, _, _, _, _, h7, h8⟩ := id hS
    obtain ⟨a1, a2, a3, a4, a5, a6, a7, a8⟩ := h7.rng
    rw [if_pos hS, show numD ((l.drop 11).take 2) = hP l from numD_dig (k := 2) (by decide) (by decide) (by rw [List.length_take, List.length_drop]; omega) a1, show numD ((l.drop 14).take 2) = mP l from numD_dig (k := 2) (by decide) (by decide) (by rw [List.length_take, List.length_drop]; omega) a3,
     show numD ((l.drop 17).take 2) = sP l from numD_dig (k := 2) (by decide) (by decide) (by rw [List.length_take, List.length_drop]; omega) a5, show numD (l.drop 20) = nP l from numD_dig (k := 9) (by decide) (by decide) (by rw [List.length_drop]; omega) h8,
     show secE (hP l) (mP l) (sP l) = (secT (hP l) (mP l) (sP l), none) from if_pos h7]
    simp only [Option.isNone_none, Bool.not_true, cond_false]
    refine (bindP _ _ _ (dystamp_at N k2)).trans ?_
    rw [show stE (daysD (yP l).1 (yP l).2.1 (yP l).2.2) (secT (hP l) (mP l) (sP l)) (nP l) = (bt (stL (ofY (dayP l), ofM (dayP l), ofD (dayP l)) (timD (secT (hP l) (mP l) (sP l))) (nP l)), none) from by
     unfold stE; rw [if_pos (show StOk (secT (hP l) (mP l) (sP l)) (nP l) from ⟨a7, a8, h8, nP_lt hS⟩)]; exact if_pos k3, k4, tim_sec h7, ← okS_text hS, hs, bt_beq, decide_eq_true rfl]; rfl
   ·rw [if_neg hS]
    generalize numD ((l.drop 11).take 2) = a
    generalize numD ((l.drop 14).take 2) = b
    generalize numD ((l.drop 17).take 2) = c
    generalize numD (l.drop 20) = n
    by_cases h7 : MayT a b c
    ·obtain ⟨a1, a2, a3, a4, a5, a6, a7, a8⟩ := h7.rng
     rw [show secE a b c = (secT a b c, none) from if_pos h7]
     simp only [Option.isNone_none, Bool.not_true, cond_false]
     refine (bindP _ _ _ (dystamp_at N k2)).trans ?_
     by_cases h9 : StOk (secT a b c) n
     ·rw [show stE (daysD (yP l).1 (yP l).2.1 (yP l).2.2) (secT a b c) n = (bt (stL (ofY (dayP l), ofM (dayP l), ofD (dayP l)) (timD (secT a b c)) n), none) from by
       unfold stE; rw [if_pos h9]; exact if_pos k3, k4, tim_sec h7, hs, bt_beq]
      rw [decide_eq_false (fun e => hS (by rw [← e]; exact (st_ok hM h7 h9.2.2.1 h9.2.2.2).1))]; rfl
     ·rw [show stE (daysD (yP l).1 (yP l).2.1 (yP l).2.2) (secT a b c) n = (bt [], some 1) from if_neg h9]; rfl
    ·rw [show secE a b c = (0, some 1) from if_neg h7]; rfl
  ·rw [show parC (l.take 10) = ((0, 0, 0), some 3) from if_neg h5, if_neg (fun q : okS l => h5 q.2.2.2.2.2.1)]; rfl
 ·rw [show ((s.size : Int) != 29) = true from bne_iff_ne.2 (by omega)]
  unfold dyC
  rw [if_neg (fun q : okS s.data.toList => h (by have := q.1; omega))]; rfl
theorem dylsure_at (N : Nat) (hN : 4 ≤ N) : f_32 N = some true := by
 have e1 : f_34 N 0 3661 0 = some (bt [49, 57, 55, 48, 45, 48, 49, 45, 48, 49, 84, 48, 49, 58, 48, 49, 58, 48, 49, 46, 48, 48, 48, 48, 48, 48, 48, 48, 48], none) := (dystamp_at N ⟨by decide, by decide⟩).trans (by
  unfold stE; rw [if_pos (by decide), if_pos (by decide)]; rfl)
 have e2 : f_36 N (⟨#[50, 48, 49, 54, 45, 49, 50, 45, 51, 49, 84, 50, 51, 58, 53, 57, 58, 54, 48, 46, 53, 48, 48, 48, 48, 48, 48, 48, 48]⟩) = some (17166, 86400, 500000000, none) := (dyparse_at N hN _).trans (by
  unfold dyC
  rw [if_pos (show okS [50, 48, 49, 54, 45, 49, 50, 45, 51, 49, 84, 50, 51, 58, 53, 57, 58, 54, 48, 46, 53, 48, 48, 48, 48, 48, 48, 48, 48] from by decide)]; rfl)
 unfold f_32
 refine (bindP _ _ _ e1).trans ?_
 refine (bindP _ _ _ e2).trans ?_
 refine (bindP _ _ _ (dyof_at N 86401)).trans ?_
 simp only [Option.isNone_none, cond_true]
 rw [show (⟨#[49, 57, 55, 48, 45, 48, 49, 45, 48, 49, 84, 48, 49, 58, 48, 49, 58, 48, 49, 46, 48, 48, 48, 48, 48, 48, 48, 48, 48]⟩ : ByteArray) = bt [49, 57, 55, 48, 45, 48, 49, 45, 48, 49, 84, 48, 49, 58, 48, 49, 58, 48, 49, 46, 48, 48, 48, 48, 48, 48, 48, 48, 48] from rfl, bt_beq, decide_eq_true rfl, dylnum_at]; rfl
end Go.Proofs.YtgkanacfffilmaaGreatDoor.Mir
namespace Go.Proofs.YtgkanacfffilmaaGreatDoor.Mir
open Go Go.RowKit
set_option maxRecDepth 100000
theorem bl_app : ∀ (a b x y : List UInt8), a.length = b.length → Op.bytesLess (a ++ x) (b ++ y) = (Op.bytesLess a b || ((a == b) && Op.bytesLess x y))
 | [], [], _, _, _ => by simp [Op.bytesLess]
 | [], _ :: _, _, _, h => by simp at h
 | _ :: _, [], _, _, h => by simp at h
 | c :: a, d :: b, x, y, h => by
  have ih := bl_app a b x y (by simpa using h)
  show (decide (c < d) || ((c == d) && Op.bytesLess (a ++ x) (b ++ y))) = ((decide (c < d) || ((c == d) && Op.bytesLess a b)) || (((c == d) && (a == b)) && Op.bytesLess x y))
  rw [ih]
  cases decide (c < d) <;> cases (c == d) <;> cases (a == b) <;> cases Op.bytesLess a b <;> cases Op.bytesLess x y <;> rfl
theorem two_eq {k a b : Nat} (ha : a < 10 ^ k) (hb : b < 10 ^ k) : (twoL k a == twoL k b) = decide (a = b) := by
 by_cases h : a = b
 ·subst h; rw [decide_eq_true rfl]; exact beq_self_eq_true _
 ·rw [decide_eq_false h]
  refine beq_eq_false_iff_ne.2 (fun e => h ?_)
  have := congrArg (valL 0) e
  rw [valL_two k a 0 ha, valL_two k b 0 hb] at this
  omega
theorem dig_lt {a b : Nat} (ha : a < 10) (hb : b < 10) : Op.bytesLess [UInt8.ofNat (48 + a)] [UInt8.ofNat (48 + b)] = decide (a < b) := by
 show (decide (UInt8.ofNat (48 + a) < UInt8.ofNat (48 + b)) || ((UInt8.ofNat (48 + a) == UInt8.ofNat (48 + b)) && false)) = _
 rw [Bool.and_false, Bool.or_false]
 have h1 := dig_nat ha
 have h2 := dig_nat hb
 have e : (UInt8.ofNat (48 + a) < UInt8.ofNat (48 + b)) ↔ a < b := by
  rw [UInt8.lt_iff_toNat_lt, h1, h2]; omega
 by_cases h : a < b
 ·rw [decide_eq_true h, decide_eq_true (e.2 h)]
 ·rw [decide_eq_false h, decide_eq_false (fun q => h (e.1 q))]
theorem two_lt : ∀ (k a b : Nat), a < 10 ^ k → b < 10 ^ k → Op.bytesLess (twoL k a) (twoL k b) = decide (a < b)
 | 0, a, b, ha, hb => by
  rw [Nat.pow_zero] at ha hb
  rw [decide_eq_false (show ¬ a < b by omega)]; rfl
 | k + 1, a, b, ha, hb => by
  rw [Nat.pow_succ] at ha hb
  show Op.bytesLess (twoL k (a / 10) ++ [UInt8.ofNat (48 + a % 10)]) (twoL k (b / 10) ++ [UInt8.ofNat (48 + b % 10)]) = _
  rw [bl_app _ _ _ _ (by rw [twoL_len, twoL_len]), two_lt k (a / 10) (b / 10) (by omega) (by omega), two_eq (show a / 10 < 10 ^ k by omega) (show b / 10 < 10 ^ k by omega), dig_lt (Nat.mod_lt _ (by decide)) (Nat.mod_lt _ (by decide))]
  rw [Bool.eq_iff_iff]
  simp only [Bool.or_eq_true, Bool.and_eq_true, decide_eq_true_eq]
  omega
def lexI (a b : Int) (r : Bool) : Bool := decide (a < b) || (decide (a = b) && r)
theorem bl_two {k : Nat} {a b : Int} (x y : List UInt8) (a0 : 0 ≤ a) (b0 : 0 ≤ b) (ha : a.toNat < 10 ^ k) (hb : b.toNat < 10 ^ k) : Op.bytesLess (twoL k a.toNat ++ x) (twoL k b.toNat ++ y) = lexI a b (Op.bytesLess x y) := by
 rw [bl_app _ _ _ _ (by rw [twoL_len, twoL_len]), two_lt k _ _ ha hb, two_eq ha hb]
 unfold lexI
 rw [Bool.eq_iff_iff]
 simp only [Bool.or_eq_true, Bool.and_eq_true, decide_eq_true_eq]
 constructor
 ·rintro (h | ⟨h, r⟩)
  ·exact .inl (by omega)
  ·exact .inr ⟨by omega, r⟩
 ·rintro (h | ⟨h, r⟩)
  ·exact .inl (by omega)
  ·exact .inr ⟨by omega, r⟩
theorem bl_cons (c : UInt8) (x y : List UInt8) : Op.bytesLess (c :: x) (c :: y) = Op.bytesLess x y := by
 show (decide (c < c) || ((c == c) && Op.bytesLess x y)) = _
 rw [decide_eq_false (by rw [UInt8.lt_iff_toNat_lt]; omega), beq_self_eq_true, Bool.true_and, Bool.false_or]
theorem bl_st {y m d h i s n y' m' d' h' i' s' n' : Int} (hd : MayD y m d) (ht : MayT h i s) (h0 : 0 ≤ n) (h1 : n < 1000000000) (hd' : MayD y' m' d') (ht' : MayT h' i' s') (h0' : 0 ≤ n') (h1' : n' < 1000000000) :
  Op.bytesLess (stL (y, m, d) (h, i, s) n) (stL (y', m', d') (h', i', s') n') = lexI y y' (lexI m m' (lexI d d' (lexI h h' (lexI i i' (lexI s s' (decide (n < n'))))))) := by
 obtain ⟨r1, r2, r3, r4, r5, r6⟩ := hd.rng
 obtain ⟨r1', r2', r3', r4', r5', r6'⟩ := hd'.rng
 obtain ⟨a1, a2, a3, a4, a5, a6, _⟩ := ht.rng
 obtain ⟨a1', a2', a3', a4', a5', a6', _⟩ := ht'.rng
 unfold stL dateL
 simp only [List.append_assoc, List.cons_append]
 rw [bl_two _ _ (by omega) (by omega) (show y.toNat < 10000 by omega) (show y'.toNat < 10000 by omega), bl_cons, bl_two _ _ (by omega) (by omega) (show m.toNat < 100 by omega) (show m'.toNat < 100 by omega), bl_cons, bl_two _ _ (by omega) (by omega) (show d.toNat < 100 by omega) (show d'.toNat < 100 by omega), bl_cons,
  bl_two _ _ a1 a1' (show h.toNat < 100 by omega) (show h'.toNat < 100 by omega), bl_cons, bl_two _ _ a3 a3' (show i.toNat < 100 by omega) (show i'.toNat < 100 by omega), bl_cons, bl_two _ _ a5 a5' (show s.toNat < 100 by omega) (show s'.toNat < 100 by omega), bl_cons,
  two_lt 9 _ _ (show n.toNat < 1000000000 by omega) (show n'.toNat < 1000000000 by omega)]
 rw [show decide (n.toNat < n'.toNat) = decide (n < n') by rw [Bool.eq_iff_iff, decide_eq_true_eq, decide_eq_true_eq]; omega]
theorem lex_lt {a b : Int} {r : Bool} (h : a < b) : lexI a b r = true := by unfold lexI; rw [decide_eq_true h]; rfl
theorem lex_gt {a b : Int} {r : Bool} (h : b < a) : lexI a b r = false := by unfold lexI; rw [decide_eq_false (by omega), decide_eq_false (by omega)]; rfl
theorem lex_eq {a : Int} {r : Bool} : lexI a a r = r := by unfold lexI; rw [decide_eq_false (by omega), decide_eq_true rfl]; rfl
theorem lex_day {y m d y' m' d' : Int} {r : Bool} (h : MayD y m d) (h' : MayD y' m' d') : lexI y y' (lexI m m' (lexI d d' r)) = lexI (daysD y m d) (daysD y' m' d') r := by
 have k := daysD_in h.2.2
 have k' := daysD_in h'.2.2
 have m1 := h.m
 have m1' := h'.m
 rcases Int.lt_trichotomy y y' with e | rfl | e
 ·have := yearN_mono (show y + 1 ≤ y' by omega)
  rw [lex_lt e, lex_lt (by omega)]
 ·rw [lex_eq]
  rcases Int.lt_trichotomy m m' with e | rfl | e
  ·have := monN_mono (y := y) (show 1 ≤ m + 1 by omega) (show m + 1 ≤ m' by omega)
   rw [lex_lt e, lex_lt (by omega)]
  ·rw [lex_eq]
   unfold daysD
   rcases Int.lt_trichotomy d d' with e | rfl | e
   ·rw [lex_lt e, lex_lt (by omega)]
   ·rw [lex_eq, lex_eq]
   ·rw [lex_gt e, lex_gt (by omega)]
  ·have := monN_mono (y := y) (show 1 ≤ m' + 1 by omega) (show m' + 1 ≤ m by omega)
   rw [lex_gt e, lex_gt (by omega)]
 ·have := yearN_mono (show y' + 1 ≤ y by omega)
  rw [lex_gt e, lex_gt (by omega)]
theorem lex_tim {h i s h' i' s' : Int} {r : Bool} (q : MayT h i s) (q' : MayT h' i' s') : lexI h h' (lexI i i' (lexI s s' r)) = lexI (secT h i s) (secT h' i' s') r := by
 unfold secT
 unfold MayT at q q'
 rcases Int.lt_trichotomy h h' with e | rfl | e
 ·rw [lex_lt e, lex_lt (by omega)]
 ·rw [lex_eq]
  rcases Int.lt_trichotomy i i' with e | rfl | e
  ·rw [lex_lt e, lex_lt (by omega)]
  ·rw [lex_eq]
   rcases Int.lt_trichotomy s s' with e | rfl | e
   ·rw [lex_lt e, lex_lt (by omega)]
   ·rw [lex_eq, lex_eq]
   ·rw [lex_gt e, lex_gt (by omega)]
  ·rw [lex_gt e, lex_gt (by omega)]
 ·rw [lex_gt e, lex_gt (by omega)]
def stX (x s n : Int) : List UInt8 := stL (ofY x, ofM x, ofD x) (timD s) n
theorem stX_ok {x s n : Int} (hx : inR x) (hs : StOk s n) : okS (stX x s n) ∧ dayP (stX x s n) = x ∧ secT (hP (stX x s n)) (mP (stX x s n)) (sP (stX x s n)) = s ∧ nP (stX x s n) = n := by
 obtain ⟨t1, t2⟩ := sec_tim hs.1 hs.2.1
 obtain ⟨o1, o2, o3, o4, o5, o6⟩ := st_ok (of_may.2 hx) t1 hs.2.2.1 hs.2.2.2
 unfold stX
 rw [show timD s = ((timD s).1, (timD s).2.1, (timD s).2.2) from rfl]
 refine ⟨o1, ?_, ?_, o6⟩
 ·unfold dayP; rw [o2]; exact (of_ok x).2.2.1
 ·rw [o3, o4, o5]; exact t2
theorem stX_lt {x s n x' s' n' : Int} (hx : inR x) (hs : StOk s n) (hx' : inR x') (hs' : StOk s' n') : Op.bytesLess (stX x s n) (stX x' s' n') = lexI x x' (lexI s s' (decide (n < n'))) := by
 obtain ⟨t1, t2⟩ := sec_tim hs.1 hs.2.1
 obtain ⟨t1', t2'⟩ := sec_tim hs'.1 hs'.2.1
 have q := bl_st (of_may.2 hx) t1 hs.2.2.1 hs.2.2.2 (of_may.2 hx') t1' hs'.2.2.1 hs'.2.2.2
 rw [lex_day (of_may.2 hx) (of_may.2 hx'), lex_tim t1 t1', t2, t2', (of_ok x).2.2.1, (of_ok x').2.2.1] at q
 exact q
theorem stX_inj {x s n x' s' n' : Int} (hx : inR x) (hs : StOk s n) (hx' : inR x') (hs' : StOk s' n') (e : stX x s n = stX x' s' n') : x = x' ∧ s = s' ∧ n = n' := by
 obtain ⟨_, a, b, c⟩ := stX_ok hx hs
 obtain ⟨_, a', b', c'⟩ := stX_ok hx' hs'
 rw [e] at a b c
 exact ⟨a.symm.trans a', b.symm.trans b', c.symm.trans c'⟩
theorem bt_bytes (l : List UInt8) : (bt l).toList = l := by rw [Lib.toList_data]; rfl
theorem three_list {l : List Int} (h : l.length = 3) : l = [l.getD 0 0, l.getD 1 0, l.getD 2 0] := by
 match l, h with
 | [_, _, _], _ => rfl
theorem dylback_at (N : Nat) (hN : 4 ≤ N) {a b : List Int} (ha : a.length = 3) (hb : b.length = 3) (h1 : R64 (a.getD 0 0)) (h2 : R64 (b.getD 0 0)) : f_8 N a b = some true := by
 have hS := dylsure_at N hN
 have ea := three_list ha
 have eb := three_list hb
 unfold f_8
 rw [show Int.toNat 0 = 0 from rfl, show Int.toNat 1 = 1 from rfl, show Int.toNat 2 = 2 from rfl]
 generalize a.getD 0 0 = a0 at *
 generalize a.getD 1 0 = a1 at *
 generalize a.getD 2 0 = a2 at *
 generalize b.getD 0 0 = b0 at *
 generalize b.getD 1 0 = b1 at *
 generalize b.getD 2 0 = b2 at *
 subst ea
 subst eb
 simp only [dystamp_at N h1, dystamp_at N h2, hS, Option.bind_some]
 by_cases hA : StOk a1 a2 ∧ inR a0
 ·rw [show stE a0 a1 a2 = (bt (stX a0 a1 a2), none) from by unfold stE; rw [if_pos hA.1, if_pos hA.2]; rfl]
  by_cases hB : StOk b1 b2 ∧ inR b0
  ·rw [show stE b0 b1 b2 = (bt (stX b0 b1 b2), none) from by unfold stE; rw [if_pos hB.1, if_pos hB.2]; rfl]
   simp only [Option.isNone_none, Bool.not_true, cond_false]
   rw [dyparse_at N hN]
   obtain ⟨o1, o2, o3, o4⟩ := stX_ok hA.2 hA.1
   rw [show dyC (bt (stX a0 a1 a2)).data.toList = (a0, a1, a2, none) from by rw [bt_list]; unfold dyC; rw [if_pos o1, o2, o3, o4]]
   simp only [Option.bind_some, Option.isNone_none, beq_self_eq_true, cond_true, bt_bytes, stX_lt hA.2 hA.1 hB.2 hB.1]
   have hE : ((stX a0 a1 a2 == stX b0 b1 b2) == (([a0, a1, a2] : List Int) == [b0, b1, b2])) = true := by
    by_cases e : a0 = b0 ∧ a1 = b1 ∧ a2 = b2
    ·obtain ⟨rfl, rfl, rfl⟩ := e
     rw [beq_self_eq_true, beq_self_eq_true]; rfl
    ·rw [show (stX a0 a1 a2 == stX b0 b1 b2) = false from beq_eq_false_iff_ne.2 (fun q => e (stX_inj hA.2 hA.1 hB.2 hB.1 q)), show (([a0, a1, a2] : List Int) == [b0, b1, b2]) = false from beq_eq_false_iff_ne.2 (fun q => e (by simpa using q))]; rfl
   simp only [hE, cond_true]
   rcases Int.lt_trichotomy a0 b0 with e | rfl | e
   ·rw [decide_eq_true e, lex_lt e]; rfl
   ·rw [decide_eq_false (show ¬ a0 < a0 by omega), lex_eq, beq_self_eq_true]
    simp only [cond_false, cond_true]
    rcases Int.lt_trichotomy a1 b1 with e | rfl | e
    ·rw [decide_eq_true e, lex_lt e]; rfl
    ·rw [decide_eq_false (show ¬ a1 < a1 by omega), lex_eq, beq_self_eq_true]
     simp only [cond_false, cond_true, beq_self_eq_true]
    ·rw [decide_eq_false (show ¬ a1 < b1 by omega), lex_gt e, show (a1 == b1) = false from beq_eq_false_iff_ne.2 (by omega)]; rfl
   ·rw [decide_eq_false (show ¬ a0 < b0 by omega), lex_gt e, show (a0 == b0) = false from beq_eq_false_iff_ne.2 (by omega)]; rfl
  ·obtain ⟨v, hv⟩ : ∃ v, stE b0 b1 b2 = (bt [], some v) := by
    unfold stE
    by_cases q : StOk b1 b2
    ·exact ⟨2, by rw [if_pos q, if_neg (fun r => hB ⟨q, r⟩)]⟩
    ·exact ⟨1, if_neg q⟩
   rw [hv]; rfl
 ·obtain ⟨v, hv⟩ : ∃ v, stE a0 a1 a2 = (bt [], some v) := by
   unfold stE
   by_cases q : StOk a1 a2
   ·exact ⟨2, by rw [if_pos q, if_neg (fun r => hA ⟨q, r⟩)]⟩
   ·exact ⟨1, if_neg q⟩
  rw [hv]
  simp only [Option.isNone_some, Bool.not_false, cond_true, cond_false]
  rw [show (⟨#[]⟩ : ByteArray) = bt [] from rfl, bt_beq, decide_eq_true rfl]; rfl
end Go.Proofs.YtgkanacfffilmaaGreatDoor.Mir
namespace Go.Proofs.YtgkanacfffilmaaGreatDoor
open Go Go.RowKit Mir
theorem i64D {n : Int} (hw : (Lit.int .i64 n).wf = true) : R64 n := by
 have := wf_range hw
 have c0 : IntKind.i64.min = -9223372036854775808 := by decide
 have c1 : IntKind.i64.max = 9223372036854775807 := by decide
 unfold R64
 omega
theorem arrD {xs : List Int} (h : ∀ x ∈ xs, (Lit.int .i64 x).wf = true) (i : Nat) : R64 (xs.getD i 0) := by
 rw [List.getD_eq_getElem?_getD]
 cases hg : xs[i]? with
 | none => exact ⟨by decide, by decide⟩
 | some x => exact i64D (h x (List.mem_of_getElem? hg))
theorem repL_arrD {g : Gh} : ∀ {cs : List C} {vs : List Value}, RepL g cs vs → ∀ k n xs, C.arr k n xs ∈ cs → xs.length = n
 | [], _, _, _, _, _, h => by cases h
 | c :: cs, vs, hr, k, n, xs, h => by
  rcases List.mem_cons.1 h with rfl | hm
  ·simp only [RepL] at hr
   obtain ⟨r, h1, _⟩ := hr
   exact h1
  ·clear h
   cases c <;> (simp only [RepL] at hr; first | (obtain ⟨_, r, _, _, h3⟩ := hr; exact repL_arrD h3 k n xs hm) | (obtain ⟨r, _, _, h3⟩ := hr; exact repL_arrD h3 k n xs hm))
theorem repA_arrD {g : Gh} {cs : List C} {v : Value} (h : RepA g (.agg cs) v) {k : IntKind} {n : Nat} {xs : List Int} (hm : C.arr k n xs ∈ cs) : xs.length = n := by
 simp only [RepA] at h
 obtain ⟨vs, _, h⟩ := h
 exact repL_arrD h k n xs hm
set_option maxRecDepth 100000 in
theorem law_DaytimeBack_row (w : World) {q : LQ} (hc : CellsQ q w) (hwh : Whole (laidQ q) w) {v0 v1 : Value} {y0 : TL [.arr .i64 3]} (k0 : OkL [.arr .i64 3] y0) (e0 : RepA (gW w) (.agg (encL [.arr .i64 3] y0)) v0)
  {y1 : TL [.arr .i64 3]} (k1 : OkL [.arr .i64 3] y1) (e1 : RepA (gW w) (.agg (encL [.arr .i64 3] y1)) v1) :
  Calls Tryz.prog 8 #[v0, v1] w fun e w' => e = .returned (.bool true) ∧ Below w.heap.size w w' := by
 have hr : (S_8 12000).run [.agg (encL [.arr .i64 3] y0), .agg (encL [.arr .i64 3] y1)] [] = f_8 12000 y0 y1 := by kernel_rfl
 have ho : ((S_8 12000).out [.agg (encL [.arr .i64 3] y0), .agg (encL [.arr .i64 3] y1)] [] true).1 = .a (.one (Mir.boolC true)) := by kernel_rfl
 have k0' : OkS (.arr .i64 3) y0 := by simpa only [OkL] using k0
 have k1' : OkS (.arr .i64 3) y1 := by simpa only [OkL] using k1
 have l0 : List.length (α := Int) y0 = 3 := repA_arrD e0 (k := .i64) (xs := y0) (List.mem_singleton.2 rfl)
 have l1 : List.length (α := Int) y1 = 3 := repA_arrD e1 (k := .i64) (xs := y1) (List.mem_singleton.2 rfl)
 exact calls_open (vs := [v0, v1]) (s_8 (q := q) 12000) (by kernel_rfl) Tryz.func8 (by kernel_rfl) (by kernel_rfl) (hr.trans (dylback_at 12000 (by decide) l0 l1 (arrD k0' 0) (arrD k1' 0)))
  ⟨v0, _, rfl, e0, v1, _, rfl, e1, rfl⟩ hc hwh (fun g x h => by rw [ho] at h; exact h)
end Go.Proofs.YtgkanacfffilmaaGreatDoor
namespace Go.Proofs.YtgkanacfffilmaaGreatDoor
open Go Go.ChangeShapes Go.WideShapes Go.ChangeAt Go.RowKit Go.Proofs.YtgkanacfffilmaaGreatDoor.Mir
section
variable {H : Type} {enc : TypeId × Value → H}
theorem handed_and_shaped {a : Assume} {C : Checked} {os : Os} {f : FuncId} {fn : Func} {s : ChangeSpec} {conds : List PathCond} {apart fresh handsOn again : Bool} {X : World → Array Value → Prop}
  (hX : ∀ (w w' : World) (args : Array Value), w.heap = w'.heap → X w args → X w' args)
  (own : ownKnob C.prog.godebug = none) (started : os.Started) (noInit : C.prog.inits.idxOf? f = none) (hfn : C.prog.funcs[f]? = some fn)
  (witness : ∃ (w : World) (tape : Tape) (i : Input), w.os = os ∧ (w.forCall tape i).Shaped C.prog ∧ i.vars = [] ∧ Input.okWide C.prog (w.forCall tape i) .any w.heap.size f i ∧
   ((s.pre enc C.prog fn conds apart (w.forCall tape i).memory i.args ∧ X (w.forCall tape i).memory i.args) ∧ sizedMet enc C.prog fn (OpenSpec.ofChange s) apart (w.forCall tape i).memory i.args) ∧ a.holds C.prog (lone (Frame.enter C.prog f i.args .normal) [] (w.forCall tape i)))
  (contract : ∀ (W : World) (base : Nat) (args : Array Value) (ds gs : List (DataW H)) (before : List MemPlace),
   (∀ (j : Nat) t v, fn.params[j]? = some t → args[j]? = some v → Value.okWide C.prog W .any base t v) →
   DataW.Whole enc C.prog fn.params.toList s.vars apart W args.toList ds gs before →
   conds.all (PathCond.test C.prog ⟨fn.params.toList, ds, s.plain.varTypes C.prog, gs⟩) = true →
   (DataW.weightsEach C.prog (fn.params.toList ++ s.plain.varTypes C.prog) (ds ++ gs)).all (· ≤ reachBytes) = true → X W args → W.ShapedOpen C.prog →
   a.holds C.prog (lone (Frame.enter C.prog f args .normal) [] W) →
   Calls C.prog f args W fun e W' => ∃ v, e = .returned v ∧ s.post enc C.prog fn apart fresh handsOn again W args v W') :
  ReturnsInHanded a C os f .any (fun w args => (s.pre enc C.prog fn conds apart w args ∧ X w args) ∧ sizedMet enc C.prog fn (OpenSpec.ofChange s) apart w args) (s.post enc C.prog fn apart fresh handsOn again) := by
 refine returnsInHanded_of_calls own started noInit witness ?_
 intro w tape i _ hsh _ hok hpre hholds
 obtain ⟨_, _, _, fn', hfn', _, _, _, _, hval⟩ := hok
 have e : fn' = fn := Option.some.inj (hfn'.symm.trans hfn)
 subst e
 obtain ⟨⟨⟨ds, gs, before, hw, hc⟩, hx⟩, hz⟩ := hpre
 have hw' := DataW.Whole.of_heap (w' := w.forCall tape i) (by rfl) hw
 refine (contract (w.forCall tape i) w.heap.size i.args ds gs before hval hw' hc (hz.weights hw) (hX _ _ _ (by rfl) hx) hsh hholds).mono fun e W' ⟨v, he, hp⟩ => ?_
 subst he
 exact ChangeSpec.post_blind hp
end
def laidC : List (String × DataW Unit) := [("math/bits.deBruijn32tab", Rows.laid_math_bits_deBruijn32tab), ("math/bits.deBruijn64tab", Rows.laid_math_bits_deBruijn64tab), ("internal/strconv.uint64pow10", Rows.laid_internal_strconv_uint64pow10), ("unicode/utf8.acceptRanges", Rows.laid_unicode_utf8_acceptRanges), ("errors.errorType", Rows.laid_errors_errorType), ("strconv.ErrRange", Rows.laid_strconv_ErrRange), ("strconv.ErrSyntax", Rows.laid_strconv_ErrSyntax), ("unicode/utf8.first", Rows.laid_unicode_utf8_first)]
def laidCD : List (String × DataW Unit) := [("math/bits.deBruijn32tab", Rows.laid_math_bits_deBruijn32tab), ("math/bits.deBruijn64tab", Rows.laid_math_bits_deBruijn64tab), ("internal/strconv.uint64pow10", Rows.laid_internal_strconv_uint64pow10), ("unicode/utf8.acceptRanges", Rows.laid_unicode_utf8_acceptRanges), ("strconv.ErrRange", Rows.laid_strconv_ErrRange), ("strconv.ErrSyntax", Rows.laid_strconv_ErrSyntax), ("unicode/utf8.first", Rows.laid_unicode_utf8_first)]
theorem laidC_of {W : World} (h : laidMetH Tryz.prog laidC W) : laidMetH Tryz.prog Go.Proofs.YtgkanacfffilmaaGreatDoor.laidL W := h.filter fun x => x.1 == "errors.errorType"
theorem whole_var {P : Program} {W : World} {n : String} {g : Nat} {cs : Array Value} (hg : P.globalNamed n = some g) (h : W.var? P n = some cs) : ∃ ty x, W.heap[g]? = some (.cells cs ty x) := by
 unfold World.var? at h
 rw [hg] at h
 simp only [Option.bind_some] at h
 split at h
 ·rename_i c t x e
  obtain rfl := Option.some.inj h
  exact ⟨t, x, e⟩
 ·cases h
theorem starErr : "*" ++ "errors.errorString" = "*errors.errorString" := by decide
theorem Tryz.rowErr (u : TypeId) (h : Tryz.prog.typeName? 3 u = some "*errors.errorString") : u = 159 :=
 typeName_ptr_named (nm := "errors.errorString") (by rw [starErr]; kernel_rfl) (by kernel_rfl) (by decide) u (by rw [starErr]; exact h)
theorem gSyn : Tryz.prog.globalNamed "strconv.ErrSyntax" = some 1 := by kernel_rfl
theorem gRan : Tryz.prog.globalNamed "strconv.ErrRange" = some 2 := by kernel_rfl
theorem gPow : Tryz.prog.globalNamed "internal/strconv.uint64pow10" = some 4 := by kernel_rfl
theorem rowC {W : World} (hsh : W.ShapedOpen Tryz.prog) (h : laidMetH Tryz.prog laidC W) : ∃ q : LQ, CellsQ q W ∧ Whole (laidQ q) W := by
 have hE := laid_of (laidC_of h)
 have hEm : laidMetH Tryz.prog Go.Proofs.YtgkanacfffilmaaGreatDoor.laidL W := laidC_of h
 have h1 : laidMet Tryz.prog [("strconv.ErrSyntax", Rows.laid_strconv_ErrSyntax)] W := h.filter fun x => x.1 == "strconv.ErrSyntax"
 have h2 : laidMet Tryz.prog [("strconv.ErrRange", Rows.laid_strconv_ErrRange)] W := h.filter fun x => x.1 == "strconv.ErrRange"
 have h3 : laidMet Tryz.prog [("internal/strconv.uint64pow10", Rows.laid_internal_strconv_uint64pow10)] W := h.filter fun x => x.1 == "internal/strconv.uint64pow10"
 obtain ⟨a1, _, v1, _⟩ := laid_sentinel h1 gSyn (by kernel_rfl) Tryz.underlying28 Tryz.rowErr Tryz.underlying159 Tryz.underlying161 rfl rfl Tryz.underlying9 (by kernel_rfl) (by kernel_rfl)
 obtain ⟨a2, _, v2, _⟩ := laid_sentinel h2 gRan (by kernel_rfl) Tryz.underlying28 Tryz.rowErr Tryz.underlying159 Tryz.underlying161 rfl rfl Tryz.underlying9 (by kernel_rfl) (by kernel_rfl)
 have v3 : Lib.TabIs Tryz.prog W "internal/strconv.uint64pow10" .u64 Lib.pow10Tab := Lib.tabIs_of_head (rest := []) gPow (show _ = some 163 by kernel_rfl) Tryz.underlying163 Tryz.underlying137 (by kernel_rfl) (by kernel_rfl) h3
 obtain ⟨cm, hcm, hcs, hck⟩ := hsh.1 3 #[.int .i64 0] 3 (of_decide_eq_true (by kernel_rfl)) (by kernel_rfl)
 obtain ⟨m, hm⟩ := Go.Proofs.cell_of_shapedOpen_int (zero := #[.int .i64 0]) (t := 3) (g := 3) hsh (of_decide_eq_true (by kernel_rfl)) (by kernel_rfl) rfl (by kernel_rfl) (by kernel_rfl) Tryz.underlying3
 have cE : ∃ row ty x, W.heap[(0 : Nat)]? = some (.cells row ty x) ∧ row.size = 1 := by
  have h' : laidMet Tryz.prog [] W ∧ handlesMet Tryz.prog Go.Proofs.YtgkanacfffilmaaGreatDoor.laidL W := hEm
  obtain ⟨name, u, ty, _, _, _, _, e5⟩ := h'.2 _ (List.mem_singleton.2 rfl)
  obtain ⟨t, x, e⟩ := whole_var Tryz.et e5
  exact ⟨_, t, x, e, rfl⟩
 obtain ⟨t1, x1, w1⟩ := whole_var gSyn v1
 obtain ⟨t2, x2, w2⟩ := whole_var gRan v2
 obtain ⟨t3, x3, w3⟩ := whole_var gPow v3
 refine ⟨⟨m, .iface 159 (.pointer (some a1)), .iface 159 (.pointer (some a2)), ⟨_, _, rfl⟩, ⟨_, _, rfl⟩⟩, ?_, ?_⟩
 ·intro p hp
  unfold laidQ at hp
  rcases List.mem_append.1 hp with hp | hp
  ·obtain rfl := List.mem_singleton.1 hp
   exact hE
  ·rcases List.mem_cons.1 hp with rfl | hp
   ·exact hm
   ·rcases List.mem_cons.1 hp with rfl | hp
    ·exact World.var?_cell gSyn v1 0
    ·rcases List.mem_cons.1 hp with rfl | hp
     ·exact World.var?_cell gRan v2 0
     ·obtain ⟨i, hi, rfl⟩ := List.mem_map.1 hp
      have hi := List.mem_range.1 hi
      simp only
      rw [World.var?_cell gPow v3 i, List.getElem?_toArray, List.getElem?_map, List.getElem?_eq_getElem hi, List.getD_eq_getElem?_getD, List.getElem?_eq_getElem hi]; rfl
 ·intro p hp
  unfold laidQ at hp
  rcases List.mem_append.1 hp with hp | hp
  ·obtain rfl := List.mem_singleton.1 hp
   obtain ⟨row, ty, x, e, s⟩ := cE
   exact ⟨row, ty, x, e, s.trans rfl⟩
  ·rcases List.mem_cons.1 hp with rfl | hp
   ·exact ⟨_, _, _, hcm, hcs.trans rfl⟩
   ·rcases List.mem_cons.1 hp with rfl | hp
    ·exact ⟨_, _, _, w1, rfl⟩
    ·rcases List.mem_cons.1 hp with rfl | hp
     ·exact ⟨_, _, _, w2, rfl⟩
     ·obtain ⟨i, hi, rfl⟩ := List.mem_map.1 hp
      exact ⟨_, _, _, w3, by simp only [List.size_toArray, List.length_map, Lib.pow10Tab_length]; rfl⟩
noncomputable def laidWorldC (os : Os) : World := (laidWorld os).layVars Tryz.prog laidCD
theorem laidWorldC_met (os : Os) (args : Array Value) : laidMetH Tryz.prog laidC ((laidWorldC os).forCall (fun _ _ => 0) ⟨#[], args, []⟩).memory :=
 laidMetH_of_parts (laidMet_layVars (w0 := laidWorld os) ["math/bits.deBruijn32tab", "math/bits.deBruijn64tab", "internal/strconv.uint64pow10", "unicode/utf8.acceptRanges", "strconv.ErrRange", "strconv.ErrSyntax", "unicode/utf8.first"] [] (by show _ = ((laidWorld os).layVars Tryz.prog laidCD).heap; simp [World.memory, World.forCall, Input.heap]; rfl) (by kernel_rfl) (by kernel_rfl) LaidIn.none) (by kernel_rfl)
end Go.Proofs.YtgkanacfffilmaaGreatDoor
